/- Marks of lists whose elements have slices of their own. No condition. -/
import Derived.Test.YtkgefledbigklaaGreatDoorPMarkBl
import Derived.Test.YtkgefledbigklaaGreatDoorPStdBl
import Derived.Test.YtkgefledbigklaaGreatDoorPNum2
set_option linter.unusedVariables false
set_option linter.unusedSimpArgs false
namespace Go.Ry
open Go.Proofs

/-- Marked from k on: each element by f, which comes c further. -/
def mkL {α : Type} (f : Int → α → α) (c : α → Int) : Int → List α → List α
  | _, [] => []
  | k, x :: l => f k x :: mkL f c (k + c x) l
def cnL {α : Type} (c : α → Int) : List α → Int
  | [] => 0
  | x :: l => c x + cnL c l
theorem mkL_len {α : Type} {f : Int → α → α} {c : α → Int} : ∀ {l : List α} {k : Int}, (mkL f c k l).length = l.length
  | [], _ => rfl
  | x :: l, k => by simp [mkL, mkL_len (l := l)]
theorem mkL_snoc {α : Type} {f : Int → α → α} {c : α → Int} : ∀ {l : List α} {k : Int} {x : α}, mkL f c k (l ++ [x]) = mkL f c k l ++ [f (k + cnL c l) x]
  | [], k, x => by simp [mkL, cnL]
  | y :: l, k, x => by
    simp only [List.cons_append, mkL, cnL, mkL_snoc (l := l), Int.add_assoc]
theorem cnL_snoc {α : Type} {c : α → Int} : ∀ {l : List α} {x : α}, cnL c (l ++ [x]) = cnL c l + c x
  | [], x => by simp [cnL]
  | y :: l, x => by
    simp only [List.cons_append, cnL, cnL_snoc (l := l), Int.add_assoc]
theorem cnL_le {α : Type} {c : α → Int} {B : Int} : ∀ {l : List α}, (∀ x ∈ l, 0 ≤ c x ∧ c x ≤ B) → 0 ≤ cnL c l ∧ cnL c l ≤ B * l.length
  | [], _ => by simp [cnL]
  | x :: l, h => by
    have h1 := h x List.mem_cons_self
    have h2 := cnL_le (l := l) fun y hy => h y (List.mem_cons_of_mem _ hy)
    simp only [cnL, List.length_cons, Int.natCast_add, Int.mul_add]
    omega
theorem take_snoc {α : Type} {l : List α} {i : Nat} (hi : i < l.length) (d : α) : l.take (i + 1) = l.take i ++ [l.getD i d] := take_succ_getD hi d
def mkTo {α : Type} (f : Int → α → α) (c : α → Int) (n : Int) (l : List α) (i : Nat) : List α := mkL f c n (l.take i) ++ l.drop i
theorem mkTo_zero {α : Type} {f : Int → α → α} {c : α → Int} {n : Int} {l : List α} : mkTo f c n l 0 = l := by simp [mkTo, mkL]
theorem mkTo_all {α : Type} {f : Int → α → α} {c : α → Int} {n : Int} {l : List α} : mkTo f c n l l.length = mkL f c n l := by simp [mkTo]
theorem mkTo_length {α : Type} {f : Int → α → α} {c : α → Int} {n : Int} {l : List α} {i : Nat} (hi : i ≤ l.length) : (mkTo f c n l i).length = l.length := by
  simp [mkTo, mkL_len]; omega
theorem mkTo_at {α : Type} {f : Int → α → α} {c : α → Int} {n : Int} {l : List α} {i : Nat} (hi : i < l.length) (d : α) : (mkTo f c n l i).getD i d = l.getD i d := by
  have h1 : (mkL f c n (l.take i)).length = i := by rw [mkL_len, List.length_take]; omega
  rw [mkTo, List.getD_eq_getElem?_getD, List.getElem?_append_right (by omega), h1, Nat.sub_self, List.getElem?_drop, Nat.add_zero, List.getD_eq_getElem?_getD]
theorem mkTo_set {α : Type} {f : Int → α → α} {c : α → Int} {n : Int} {l : List α} {i : Nat} (hi : i < l.length) (d : α) : (mkTo f c n l i).set i (f (n + cnL c (l.take i)) (l.getD i d)) = mkTo f c n l (i + 1) := by
  have h1 : (mkL f c n (l.take i)).length = i := by rw [mkL_len, List.length_take]; omega
  rw [mkTo, mkTo, take_snoc hi d, mkL_snoc, List.set_append_right _ _ (by omega), h1, Nat.sub_self, drop_getD hi d, List.set_cons_zero, List.append_assoc]
  rfl
theorem cnL_take {α : Type} {c : α → Int} {l : List α} {i : Nat} (hi : i < l.length) (d : α) : cnL c (l.take (i + 1)) = cnL c (l.take i) + c (l.getD i d) := by
  rw [take_snoc hi d, cnL_snoc]

def mk1_Routine (k : Int) (x : Rou) : Rou := (mk_InstrS k x.1, ())
def cn1_Routine (x : Rou) : Int := 2 * x.1.length
def mk_RoutineS (k : Int) (l : List Rou) : List Rou := mkL mk1_Routine cn1_Routine k l
def cn_RoutineS (l : List Rou) : Int := cnL cn1_Routine l
theorem cn_RoutineS_le {l : List Rou} (h : sm_RoutineS l) : 0 ≤ cn_RoutineS l ∧ cn_RoutineS l ≤ 2199023255552 := by
  have h1 := cnL_le (c := cn1_Routine) (B := 2097152) (l := l) fun x hx => by
    have := sm_InstrS_len (h.2 x hx)
    unfold cn1_Routine
    omega
  have := h.1
  unfold cn_RoutineS
  omega
theorem c_mark_RoutineS (l : List Rou) (h : sm_RoutineS l) (n : Int) (hn : 0 ≤ n ∧ n ≤ 1000000000000) : TT n_laws_markRoutineS [.one (.row 0), eI n] [.nest t_impl_Routine tRou ⟨0, t_impl_Instr, (.pair (.int .i64) (.pair (.int .i64) .unit))⟩ l none] (eI (n + cn_RoutineS l))
    [.nest t_impl_Routine tRou ⟨0, t_impl_Instr, (.pair (.int .i64) (.pair (.int .i64) .unit))⟩ (mk_RoutineS n l) none] := by
  have hl := h.1
  have small : ∀ i : Nat, i ≤ l.length → 0 ≤ cnL cn1_Routine (l.take i) ∧ cnL cn1_Routine (l.take i) ≤ 2199023255552 := fun i hi =>
    cn_RoutineS_le (l := l.take i) ⟨by rw [List.length_take]; omega, fun x hx => h.2 x (List.mem_of_mem_take hx)⟩
  refine r_laws_markRoutineS n l ⟨fun m k i s => 0 ≤ i ∧ i ≤ l.length ∧ m = (l.length - i).toNat ∧ k = n + cnL cn1_Routine (l.take i.toNat) ∧ s = mkTo mk1_Routine cn1_Routine n l i.toNat,
    ⟨_, by omega, by omega, rfl, by simp [cnL], by simp [mkTo, mkL]⟩, ?_⟩
  rintro m k i s ⟨h0, h1, rfl, rfl, rfl⟩
  have hlen := mkTo_length (f := mk1_Routine) (c := cn1_Routine) (n := n) (l := l) (i := i.toNat) (by omega)
  refine ifP (fun hlt => ?_) (fun hge => ?_)
  · rw [hlen] at hlt
    have hi : i.toNat < l.length := by omega
    have hb := small i.toNat (by omega)
    have hx := sm_InstrS_len (sm_RoutineS_at h hi)
    have hset := mkTo_set (f := mk1_Routine) (c := cn1_Routine) (n := n) (l := l) hi (([] : List (Int × Int × Unit)), ())
    have hcn := cnL_take (c := cn1_Routine) (l := l) hi (([] : List (Int × Int × Unit)), ())
    have hm := c_mark_InstrS (l.getD i.toNat (([] : List (Int × Int × Unit)), ())).1 hx (n + cnL cn1_Routine (l.take i.toNat)) (by omega)
    refine ⟨⟨h0, by rw [hlen]; exact hlt⟩, n + cnL cn1_Routine (l.take i.toNat) + 2 * ((l.getD i.toNat (([] : List (Int × Int × Unit)), ())).1.length : Int), mk_InstrS (n + cnL cn1_Routine (l.take i.toNat)) (l.getD i.toNat (([] : List (Int × Int × Unit)), ())).1, ?_, rfl, ?_⟩
    · rw [mkTo_at hi]; exact hm
    · rw [w64 (x := i + 1) (by omega)]
      exact ⟨_, by omega, by omega, by omega, rfl, by rw [toNat_succ h0, hcn, Int.add_assoc]; rfl, by rw [toNat_succ h0, ← hset]; rfl⟩
  · have e : i.toNat = l.length := by omega
    rw [e, mkTo_all, List.take_length]; exact ⟨rfl, rfl⟩
@[reducible] def insQ : Inn := ⟨0, t_impl_Instr, (.pair (.int .i64) (.pair (.int .i64) .unit))⟩
@[reducible] def tTsk' : Ty := .pair (.int .i64) (.pair (.int .i64) (.pair (.int .i64) (.pair (.int .i64) (.pair (.int .i64) (.pair (.int .i64) .unit)))))
theorem c_mark_Program (x : List Int × List Rou × List (Int × Int × Int × Int × Int × Int × Unit) × List Bool × Unit) (h : sm_Program x) : ∃ (k : Int) (ks : List Int) (rs : List Rou) (ts : List (Int × Int × Int × Int × Int × Int × Unit)) (sf : List Bool), 0 ≤ k ∧ k ≤ 9000000000000 ∧
    TT n_laws_markProgram [.agg [.row 0, .row 1, .row 2, .row 3], eI 1] [.row t_int (.int .i64) x.1, .nest t_impl_Routine tRou insQ x.2.1 none, .row t_impl_Task tTsk' x.2.2.1, .row t_bool .bool x.2.2.2.1] (eI k)
      [.row t_int (.int .i64) ks, .nest t_impl_Routine tRou insQ rs none, .row t_impl_Task tTsk' ts, .row t_bool .bool sf] := by
  have l1 : x.1.length ≤ 1048576 := h.1
  have l2 := cn_RoutineS_le h.2.1
  have l3 : x.2.2.1.length ≤ 1048576 := h.2.2.1
  have l4 : x.2.2.2.1.length ≤ 1048576 := h.2.2.2
  refine ⟨_, _, _, _, _, ?_, ?_, r_laws_markProgram 1 x.1 x.2.1 x.2.2.1 x.2.2.2.1 ⟨_, _, c_mark_IntS x.1 l1 1 (by omega), _, _, c_mark_RoutineS x.2.1 h.2.1 _ (by omega), _, _, c_mark_TaskS x.2.2.1 l3 _ (by omega), _, _, c_mark_BoolS x.2.2.2.1 l4 _ (by omega), rfl, rfl⟩⟩ <;> omega
end Go.Ry
