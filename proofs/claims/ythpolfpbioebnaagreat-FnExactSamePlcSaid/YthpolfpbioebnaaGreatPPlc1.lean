/- Cores: what the verifier says of each place, frames that are right. No condition. -/
import Derived.Test.YthpolfpbioebnaaGreatPVer6
import Derived.Test.YthpolfpbioebnaaGreatPCost2
import Derived.Test.YthpolfpbioebnaaGreatPOn1
set_option linter.unusedVariables false
set_option linter.unusedSimpArgs false
namespace Go.Ry
open Go.Proofs

/-- What is on the stack ahead of each place, and behind the last one. -/
def trS (ks : List Int) (n : Int) : List Ins → Int → ByteArray → List OS → List ByteArray
  | [], _, s, _ => [s]
  | x :: l, i, s, o => s :: trS ks n l (i + 1) (stepS i x.1 x.2.1 ks n s o).2.1 (stepS i x.1 x.2.1 ks n s o).2.2
theorem trS_len {ks : List Int} {n : Int} : ∀ {l : List Ins} {i : Int} {s : ByteArray} {o : List OS}, (trS ks n l i s o).length = l.length + 1
  | [], _, _, _ => rfl
  | x :: l, i, s, o => by simp [trS, trS_len (l := l)]
theorem verI_tr {ks : List Int} {n : Int} : ∀ {l : List Ins} {i : Int} {s : ByteArray} {o : List OS} {acc : List ByteArray}, Open s o → (verS ks n l i s o).2 = 0 → (verI ks n l i s (o.map toI) acc).1 = acc ++ trS ks n l i s o
  | [], i, s, o, acc, h, hv => by
    rw [verS_nil] at hv
    rw [verI_nil, List.length_map]
    by_cases h0 : 0 < o.length
    · rw [if_pos h0] at hv; simp at hv
    · rw [if_neg h0] at hv
      rw [if_neg h0]
      by_cases h1 : s ≠ e0
      · rw [if_pos h1] at hv; simp at hv
      · rw [if_neg h1]
        have : s = e0 := by simpa using h1
        rw [this]; rfl
  | x :: l, i, s, o, acc, h, hv => by
    rw [verS_cons] at hv
    rw [verI_cons]
    obtain ⟨k1, k2⟩ := step_rel (at_ := i) (op := x.1) (a := x.2.1) (ks := ks) (n := n) h
    by_cases h0 : (stepS i x.1 x.2.1 ks n s o).1 = 0
    · rw [if_neg (fun e => e h0)] at hv
      rw [k1, if_neg (fun e => e h0)]
      obtain ⟨e1, e2, e3⟩ := k2 h0
      rw [e1, e2, verI_tr e3 hv]
      simp [trS]
    · rw [if_pos h0] at hv; exact absurd hv h0
/-- The verifier's state behind k steps. -/
def atS (ks : List Int) (n : Int) : List Ins → Nat → Int → ByteArray → List OS → ByteArray × List OS
  | _, 0, _, s, o => (s, o)
  | [], _ + 1, _, s, o => (s, o)
  | x :: l, k + 1, i, s, o => atS ks n l k (i + 1) (stepS i x.1 x.2.1 ks n s o).2.1 (stepS i x.1 x.2.1 ks n s o).2.2
theorem atS_tr {ks : List Int} {n : Int} : ∀ {l : List Ins} {k : Nat} {i : Int} {s : ByteArray} {o : List OS}, k ≤ l.length → (trS ks n l i s o).getD k e0 = (atS ks n l k i s o).1
  | [], 0, _, _, _, _ => rfl
  | [], k + 1, _, _, _, h => by simp at h
  | x :: l, 0, _, _, _, _ => rfl
  | x :: l, k + 1, i, s, o, h => by
    simp only [trS, List.getD_cons_succ, atS]
    exact atS_tr (by simpa using h)
theorem trS_size {ks : List Int} {n : Int} : ∀ {l : List Ins} {i : Int} {s : ByteArray} {o : List OS}, Open s o → (verS ks n l i s o).2 = 0 → ∀ x ∈ trS ks n l i s o, x.size ≤ 8
  | [], i, s, o, h, _, x, hx => by
    simp only [trS, List.mem_singleton] at hx
    rw [hx]; exact h.size
  | y :: l, i, s, o, h, hv, x, hx => by
    rw [verS_cons] at hv
    obtain ⟨k1, k2⟩ := step_rel (at_ := i) (op := y.1) (a := y.2.1) (ks := ks) (n := n) h
    by_cases h0 : (stepS i y.1 y.2.1 ks n s o).1 = 0
    · rw [if_neg (fun e => e h0)] at hv
      obtain ⟨_, _, e3⟩ := k2 h0
      simp only [trS, List.mem_cons] at hx
      rcases hx with rfl | hx
      · exact h.size
      · exact trS_size e3 hv x hx
    · rw [if_pos h0] at hv; exact absurd hv h0

abbrev Frm := Int × Int × List Int × Unit
@[reducible] def dFrm : Frm := ((0 : Int), ((0 : Int), (([] : List Int), ())))
@[reducible] def tFrm : Ty := .pair (.int .i64) (.pair (.int .i64) (.pair (.slice (.int .i64)) .unit))
/-- The counts of the loops that are open at pc: of those that begin ahead of k. -/
def openT (code : List Ins) (pc : Nat) : Nat → List Int
  | 0 => []
  | k + 1 => openT code pc k ++ (if (insAt code k).1 = 24 ∧ pc ≤ (matchM code k).2.1 then [(insAt code k).2.1] else [])
theorem openT_len {code : List Ins} {pc : Nat} : ∀ {k : Nat}, (openT code pc k).length ≤ k
  | 0 => Nat.le_refl _
  | k + 1 => by
    have := openT_len (code := code) (pc := pc) (k := k)
    simp only [openT, List.length_append]
    split <;> simp <;> omega
def loopsOK (ls os : List Int) : Bool := decide (ls.length = os.length) && (List.range ls.length).all fun i => within (ls.getD i 0) 1 (os.getD i 0)
/-- A frame. -/
def frame0 (rs : List Rou) (f : Frm) : Bool :=
  within f.1 0 ((rs.length : Int) - 1) && (within f.2.1 0 (rs.getD f.1.toNat (([] : List Ins), ())).1.length && loopsOK f.2.2.1 (openT (rs.getD f.1.toNat (([] : List Ins), ())).1 f.2.1.toNat f.2.1.toNat))
/-- isLast: the last one. -/
def frameM (rs : List Rou) (f : Frm) (isLast : Bool) : Bool := frame0 rs f && !(isLast && decide (f.2.1 = ((rs.getD f.1.toNat (([] : List Ins), ())).1.length : Int)))
/-- A frame stands behind the call of the next one. -/
def linkM (rs : List Rou) (f g : Frm) : Bool := decide (f.2.1 ≠ 0) && (decide ((insAt (rs.getD f.1.toNat (([] : List Ins), ())).1 (f.2.1.toNat - 1)).1 = 26) && decide ((insAt (rs.getD f.1.toNat (([] : List Ins), ())).1 (f.2.1.toNat - 1)).2.1 = g.1))
def frAt (rs : List Rou) (fs : List Frm) (i : Nat) : Bool :=
  frameM rs (fs.getD i dFrm) (decide (i + 1 = fs.length)) && (decide (i + 1 = fs.length) || linkM rs (fs.getD i dFrm) (fs.getD (i + 1) dFrm))
def tyAt (ks : List Int) (rs : List Rou) (f : Frm) : ByteArray := (trS ks f.1 (rs.getD f.1.toNat (([] : List Ins), ())).1 0 e0 []).getD f.2.1.toNat e0
def tysM (ks : List Int) (rs : List Rou) (fs : List Frm) : Nat → ByteArray
  | 0 => e0
  | k + 1 => tysM ks rs fs k ++ tyAt ks rs (fs.getD k dFrm)
def coreM (ks : List Int) (rs : List Rou) (fs : List Frm) (st : List Int) : Bool :=
  decide (fs.length ≤ 6) && ((List.range fs.length).all (frAt rs fs) && (decide ((tysM ks rs fs fs.length).size = st.length) && onM (tysM ks rs fs fs.length) st))
end Go.Ry
