/- Texts Img1, Img2, Img3, one behind the other. No condition. -/
import Derived.Test.YtopchiaiefkehaaGreatPByt3
import Derived.Test.YtopchiaiefkehaaGreatPVer6
set_option linter.unusedVariables false
set_option linter.unusedSimpArgs false
namespace Go.Ry
open Go.Proofs

def bitJ (n i : Int) : Bool := bits .and .i64 (Int.fdiv n (2 ^ min (Int.toNat i) (IntKind.bits .i64))) 1 == 1
def bitS (n i : Int) : Bool := bits .and .i64 n (wI (1 * 2 ^ min (Int.toNat (IntKind.wrap .u64 i)) (IntKind.bits .i64))) != 0
theorem bit_all : ∀ i : Fin 8, ∀ n : Fin 256, bitJ ((n.val : Int) - 128) (i.val : Int) = bitS ((n.val : Int) - 128) (i.val : Int) := by decide +kernel
theorem bit_eq {n i : Int} (hn : -128 ≤ n ∧ n ≤ 127) (hi : 0 ≤ i ∧ i < 8) : bitJ n i = bitS n i := by
  have := bit_all ⟨i.toNat, by omega⟩ ⟨(n + 128).toNat, by omega⟩
  simp only [Int.toNat_of_nonneg hi.1, Int.toNat_of_nonneg (show 0 ≤ n + 128 by omega)] at this
  rw [show n + 128 - 128 = n by omega] at this
  exact this

/-- What is left, and the code. -/
abbrev RdSt := List Int × Int
@[reducible] def iO (st : RdSt) : Ob := .box [.str (strL st.1), cI st.2]
@[reducible] def sO (t : ByteArray) (st : RdSt) : Ob := .box [.str t, cI ((t.size : Int) - (st.1.length : Int)), cI st.2]
def Sf (t : ByteArray) (st : RdSt) : Prop := t.size ≤ 65536 ∧ ∃ k : Nat, k ≤ t.size ∧ st.1 = (bytesL t).drop k
theorem Sf.len {t : ByteArray} {st : RdSt} (h : Sf t st) : st.1.length ≤ t.size ∧ t.size ≤ 65536 ∧ st.1 = (bytesL t).drop (t.size - st.1.length) := by
  obtain ⟨h1, k, hk, e⟩ := h
  have hl : st.1.length = t.size - k := by rw [e, List.length_drop, bytesL_size]
  refine ⟨by omega, h1, ?_⟩
  rw [hl, show t.size - (t.size - k) = k by omega]; exact e
theorem Sf.isB {t : ByteArray} {st : RdSt} (h : Sf t st) : isB st.1 := fun x hx => bytesL_isB t x (by rw [h.len.2.2] at hx; exact List.mem_of_mem_drop hx)
theorem Sf.drop {t : ByteArray} {st : RdSt} (h : Sf t st) (n : Nat) (c : Int) : Sf t (st.1.drop n, c) := by
  obtain ⟨h1, k, hk, e⟩ := h
  by_cases hn : k + n ≤ t.size
  · exact ⟨h1, k + n, hn, by show st.1.drop n = _; rw [e, List.drop_drop]⟩
  · exact ⟨h1, t.size, Nat.le_refl _, by show st.1.drop n = _; rw [e, List.drop_drop, List.drop_eq_nil_of_le (by rw [bytesL_size]; omega), List.drop_eq_nil_of_le (by rw [bytesL_size]; omega)]⟩
theorem Sf.code {t : ByteArray} {st : RdSt} (h : Sf t st) (c : Int) : Sf t (st.1, c) := h.drop 0 c
theorem strL_extract {l : List Int} (h : isB l) {a b : Nat} (hb : b ≤ l.length) : (strL l).extract a b = strL ((l.take b).drop a) := by
  have hs : isB ((l.take b).drop a) := fun x hx => h x (List.mem_of_mem_take (List.mem_of_mem_drop hx))
  apply bytesL_inj
  rw [bytes_extract _ (by rw [strL_size]; exact hb), toBytes h, toBytes hs]

/-! ### numbers -/
def byM (n : Int) (st : RdSt) : List Int × RdSt :=
  if st.2 ≠ 0 then ([], st) else if n < 0 ∨ (st.1.length : Int) < n then ([], (st.1, 16)) else (st.1.take n.toNat, (st.1.drop n.toNat, st.2))
def numM (z : Nat) (st : RdSt) : Int × RdSt :=
  if st.2 ≠ 0 then (0, st) else if st.1.length < z then (0, (st.1, 16)) else (numZ z st.1, (st.1.drop z, st.2))
theorem Sf.num {t : ByteArray} {st : RdSt} (h : Sf t st) (z : Nat) : Sf t (numM z st).2 := by
  unfold numM
  split
  · exact h
  · split
    · exact h.code 16
    · exact h.drop z _
theorem Sf.byt {t : ByteArray} {st : RdSt} (h : Sf t st) (n : Int) : Sf t (byM n st).2 := by
  unfold byM
  split
  · exact h
  · split
    · exact h.code 16
    · exact h.drop _ _
theorem numM_one {t : ByteArray} {st : RdSt} (h : Sf t st) : -128 ≤ (numM 1 st).1 ∧ (numM 1 st).1 ≤ 127 := by
  unfold numM
  split
  · show (-128 : Int) ≤ 0 ∧ (0 : Int) ≤ 127; decide
  · split
    · show (-128 : Int) ≤ 0 ∧ (0 : Int) ≤ 127; decide
    · exact numZ_one h.isB
theorem numM_fail {z : Nat} {st : RdSt} (h : (numM z st).2.2 ≠ 0) : (numM z st).1 = 0 := by
  revert h
  unfold numM
  split
  · intro _; rfl
  · split
    · intro _; rfl
    · rename_i h1 h2
      intro h
      exact absurd h h1
theorem c_impl_bytes {t : ByteArray} (n : Int) (st : RdSt) (h : Sf t st) : TT n_impl_decoder_bytes [.one (.ptrB 0 0), eI n] [iO st] (eS (strL (byM n st).1)) [iO (byM n st).2] := by
  have hz := strL_size st.1
  refine r_impl_decoder_bytes n (strL st.1) st.2 ?_
  unfold v_impl_decoder_bytes byM
  refine ifN (fun hc => ?_) (fun hc => ⟨_, c_impl_within _ _ _, ?_⟩)
  · rw [if_pos hc]; exact ⟨rfl, rfl⟩
  · rw [if_neg (not_not_intro hc)]
    refine ifB_cases (fun hw => ?_) (fun hw => ?_)
    · have := within_not.1 (notT hw)
      rw [if_pos (by omega)]; exact ⟨rfl, rfl⟩
    · have hw' := within_iff.1 (notF hw)
      rw [if_neg (by omega)]
      refine ⟨⟨by omega, by omega, by omega⟩, ⟨by omega, by omega, by omega⟩, ?_⟩
      rw [hz, show (((st.1.length : Nat) : Int)).toNat = st.1.length by omega, strL_extract h.isB (by omega), strL_extract h.isB (Nat.le_refl _), List.take_length]
      exact ⟨rfl, rfl⟩
theorem c_impl_number {t : ByteArray} (z : Nat) (hz : isZ z) (st : RdSt) (h : Sf t st) : TT n_impl_decoder_number [.one (.ptrB 0 0), eI z] [iO st] (eI (numM z st).1) [iO (numM z st).2] := by
  have hz' : 1 ≤ z ∧ z ≤ 4 := by rcases hz with h | h | h <;> omega
  have k := c_impl_bytes z st h
  refine r_impl_decoder_number z (strL st.1) st.2 ?_
  unfold v_impl_decoder_number numM
  refine ⟨_, _, _, k, ?_⟩
  unfold byM
  by_cases hc : st.2 ≠ 0
  · rw [if_pos hc, if_pos hc]
    exact ifN_t hc ⟨rfl, rfl⟩
  · rw [if_neg hc, if_neg hc]
    by_cases hl : st.1.length < z
    · rw [if_pos (by omega), if_pos hl]
      exact ifN_t (show (16 : Int) ≠ 0 by decide) ⟨rfl, rfl⟩
    · rw [if_neg (by omega), if_neg hl]
      have hs : (strL (st.1.take z)).size = z := by rw [strL_size, List.length_take]; omega
      have kt := c_impl_take (strL (st.1.take z)) (by rw [hs]; exact hz)
      rw [hs, toBytes (fun x hx => h.isB x (List.mem_of_mem_take hx))] at kt
      have e : numZ z (st.1.take z) = numZ z st.1 := by unfold numZ; rw [List.take_take, Nat.min_self]
      rw [e] at kt
      exact ifN_f (show st.2 = 0 by simpa using hc) ⟨_, kt, rfl, rfl⟩
def failM (n : Int) (st : RdSt) : RdSt := if st.2 = 0 then (st.1, n) else st
/-! ### counts -/
def manyM (most : Int) (st : RdSt) : Int × RdSt :=
  if (numM 1 st).2.2 = 0 ∧ within (numM 1 st).1 0 most = false then (0, ((numM 1 st).2.1, 6)) else numM 1 st
theorem Sf.many {t : ByteArray} {st : RdSt} (h : Sf t st) (most : Int) : Sf t (manyM most st).2 := by
  unfold manyM
  split
  · exact (h.num 1).code 6
  · exact h.num 1
theorem manyM_range {most : Int} {st : RdSt} (hm : 0 ≤ most) : 0 ≤ (manyM most st).1 ∧ (manyM most st).1 ≤ most := by
  unfold manyM
  split
  · show (0 : Int) ≤ 0 ∧ (0 : Int) ≤ most; omega
  · rename_i h
    by_cases hc : (numM 1 st).2.2 = 0
    · cases hw : within (numM 1 st).1 0 most
      · exact absurd ⟨hc, hw⟩ h
      · exact within_iff.1 hw
    · rw [numM_fail hc]; exact ⟨by decide, hm⟩
theorem c_impl_count {t : ByteArray} (most : Int) (hm : 0 ≤ most) (st : RdSt) (h : Sf t st) : TT n_impl_decoder_count [.one (.ptrB 0 0), eI most] [iO st] (eI (manyM most st).1) [iO (manyM most st).2] := by
  refine r_impl_decoder_count most (strL st.1) st.2 ⟨_, _, _, c_impl_number 1 (by simp [isZ]) st h, ?_⟩
  refine ⟨fun n s c => n = (numM 1 st).1 ∧ s = strL (numM 1 st).2.1 ∧ c = (if (numM 1 st).2.2 = 0 ∧ within (numM 1 st).1 0 most = false then 6 else (numM 1 st).2.2), ifE (fun hc => ⟨_, c_impl_within _ _ _, ifB_cases (fun hw => ?_) (fun hw => ?_)⟩) (fun hc => ?_), ?_⟩
  · exact ⟨rfl, rfl, by rw [if_pos ⟨hc, notT hw⟩]⟩
  · exact ⟨rfl, rfl, by rw [if_neg (by rw [notF hw]; simp)]⟩
  · exact ⟨rfl, rfl, by rw [if_neg (by simp [hc])]⟩
  · rintro n s c ⟨rfl, rfl, rfl⟩
    unfold manyM
    by_cases hw : (numM 1 st).2.2 = 0 ∧ within (numM 1 st).1 0 most = false
    · rw [if_pos hw, if_pos hw]
      exact ifN_t (by decide) ⟨rfl, rfl⟩
    · rw [if_neg hw, if_neg hw]
      refine ifN (fun hc => ?_) (fun hc => ⟨rfl, rfl⟩)
      rw [numM_fail hc]; exact ⟨rfl, rfl⟩
/-! ### routines -/
def codeM (n : Int) (st : RdSt) : List Ins × RdSt :=
  if st.2 ≠ 0 then ([], st) else if n < 0 ∨ (st.1.length : Int) < n then ([], (st.1, 16)) else ((readB (st.1.take n.toNat)).2, (st.1.drop n.toNat, (readB (st.1.take n.toNat)).1))
def routM (st : RdSt) : Rou × RdSt := (((codeM (numM 2 st).1 (numM 2 st).2).1, ()), (codeM (numM 2 st).1 (numM 2 st).2).2)
theorem Sf.cod {t : ByteArray} {st : RdSt} (h : Sf t st) (n : Int) : Sf t (codeM n st).2 := by
  unfold codeM
  split
  · exact h
  · split
    · exact h.code 16
    · exact h.drop _ _
theorem Sf.rout {t : ByteArray} {st : RdSt} (h : Sf t st) : Sf t (routM st).2 := (h.num 2).cod _
theorem routM_len (st : RdSt) : (routM st).1.1.length ≤ 40 := by
  unfold routM codeM
  dsimp only
  split
  · exact Nat.zero_le _
  · split
    · exact Nat.zero_le _
    · exact readB_len _
theorem c_impl_routine {t : ByteArray} (st : RdSt) (h : Sf t st) :
    TT n_impl_decoder_routine [.one (.ptrB 0 0)] [iO st] (.agg [.row 1]) [iO (routM st).2, .row t_impl_Instr tIns (routM st).1.1] := by
  have h2 := (h.num 2).isB
  have hl := (h.num 2).len
  refine r_impl_decoder_routine (strL st.1) st.2 ⟨_, _, _, c_impl_number 2 (by simp [isZ]) st h, _, _, _, c_impl_bytes (numM 2 st).1 (numM 2 st).2 (h.num 2), ?_⟩
  unfold routM
  generalize (numM 2 st).1 = n
  generalize hs : (numM 2 st).2 = s1
  rw [hs] at h2 hl
  unfold byM codeM
  by_cases hc : s1.2 ≠ 0
  · rw [if_pos hc, if_pos hc]
    exact ifN_t hc ⟨rfl, rfl⟩
  rw [if_neg hc, if_neg hc]
  by_cases hn : n < 0 ∨ (s1.1.length : Int) < n
  · rw [if_pos hn, if_pos hn]
    exact ifN_t (show (16 : Int) ≠ 0 by decide) ⟨rfl, rfl⟩
  rw [if_neg hn, if_neg hn]
  have hb : isB (s1.1.take n.toNat) := fun x hx => h2 x (List.mem_of_mem_take hx)
  have k := c_impl_readCode (strL (s1.1.take n.toNat)) (by rw [strL_size, List.length_take]; omega)
  rw [toBytes hb] at k
  exact ifN_f (show s1.2 = 0 by simpa using hc) ⟨_, _, k, rfl, rfl⟩

/-! ### tasks -/
def taskM (st : RdSt) : Tsk × RdSt :=
  let a := numM 1 st; let b := numM 4 a.2; let c := numM 4 b.2; let d := numM 1 c.2; let e := numM 1 d.2; let f := numM 1 e.2
  ((a.1, (b.1, (c.1, (d.1, (e.1, (f.1, ())))))), f.2)
theorem Sf.task {t : ByteArray} {st : RdSt} (h : Sf t st) : Sf t (taskM st).2 := (((((h.num 1).num 4).num 4).num 1).num 1).num 1
theorem c_impl_task {t : ByteArray} (st : RdSt) (h : Sf t st) :
    TT n_impl_decoder_task [.one (.ptrB 0 0)] [iO st] (tsk (taskM st).1.1 (taskM st).1.2.1 (taskM st).1.2.2.1 (taskM st).1.2.2.2.1 (taskM st).1.2.2.2.2.1 (taskM st).1.2.2.2.2.2.1) [iO (taskM st).2] :=
  r_impl_decoder_task (strL st.1) st.2 ⟨_, _, _, c_impl_number 1 (by simp [isZ]) st h, _, _, _, c_impl_number 4 (by simp [isZ]) _ (h.num 1), _, _, _, c_impl_number 4 (by simp [isZ]) _ ((h.num 1).num 4),
    _, _, _, c_impl_number 1 (by simp [isZ]) _ (((h.num 1).num 4).num 4), _, _, _, c_impl_number 1 (by simp [isZ]) _ ((((h.num 1).num 4).num 4).num 1), _, _, _, c_impl_number 1 (by simp [isZ]) _ (((((h.num 1).num 4).num 4).num 1).num 1), rfl, rfl⟩
end Go.Ry

set_option linter.unusedVariables false
set_option linter.unusedSimpArgs false
namespace Go.Ry
open Go.Proofs

def repO {α : Type} (f : RdSt → α × RdSt) : Nat → RdSt → List α × RdSt
  | 0, st => ([], st)
  | n + 1, st => ((f st).1 :: (repO f n (f st).2).1, (repO f n (f st).2).2)
/-- N rounds from st0 on are r and k more from st on. -/
def repI {α : Type} (f : RdSt → α × RdSt) (z : List α × RdSt) (r : List α) (k : Nat) (st : RdSt) : Prop := z = (r ++ (repO f k st).1, (repO f k st).2)
theorem repI_start {α : Type} (f : RdSt → α × RdSt) (k : Nat) (st : RdSt) : repI f (repO f k st) [] k st := rfl
theorem repI_step {α : Type} {f : RdSt → α × RdSt} {z : List α × RdSt} {r : List α} {k : Nat} {st : RdSt} (h : repI f z r (k + 1) st) : repI f z (r ++ [(f st).1]) k (f st).2 := by
  unfold repI at h ⊢
  rw [h]; simp [repO]
theorem repI_end {α : Type} {f : RdSt → α × RdSt} {z : List α × RdSt} {r : List α} {st : RdSt} (h : repI f z r 0 st) : z = (r, st) := by
  unfold repI at h
  rw [h]; simp [repO]
theorem Sf.repO {α : Type} {f : RdSt → α × RdSt} {t : ByteArray} (hf : ∀ st, Sf t st → Sf t (f st).2) : ∀ (n : Nat) (st : RdSt), Sf t st → Sf t (repO f n st).2
  | 0, st, h => h
  | n + 1, st, h => Sf.repO hf n _ (hf st h)
theorem repO_len {α : Type} {f : RdSt → α × RdSt} : ∀ (n : Nat) (st : RdSt), (repO f n st).1.length = n
  | 0, st => rfl
  | n + 1, st => by simp [repO, repO_len n]
theorem repO_all {α : Type} {f : RdSt → α × RdSt} {p : α → Prop} (hf : ∀ st, p (f st).1) : ∀ (n : Nat) (st : RdSt), ∀ x ∈ (repO f n st).1, p x
  | 0, st => by simp [repO]
  | n + 1, st => by
    intro x hx
    simp only [repO, List.mem_cons] at hx
    rcases hx with rfl | hx
    · exact hf st
    · exact repO_all hf n _ x hx
def phK (st : RdSt) : List Int × RdSt := repO (numM 1) (manyM 8 st).1.toNat (manyM 8 st).2
def phR (st : RdSt) : List Rou × RdSt := repO routM (manyM 6 st).1.toNat (manyM 6 st).2
def phT (st : RdSt) : List Tsk × RdSt := repO taskM (manyM 5 st).1.toNat (manyM 5 st).2
theorem Sf.phK {t : ByteArray} {st : RdSt} (h : Sf t st) : Sf t (phK st).2 := Sf.repO (fun _ h => h.num 1) _ _ (h.many 8)
theorem Sf.phR {t : ByteArray} {st : RdSt} (h : Sf t st) : Sf t (phR st).2 := Sf.repO (fun _ h => h.rout) _ _ (h.many 6)
theorem Sf.phT {t : ByteArray} {st : RdSt} (h : Sf t st) : Sf t (phT st).2 := Sf.repO (fun _ h => h.task) _ _ (h.many 5)
def st0 (t : ByteArray) : RdSt := (bytesL t, 0)
theorem Sf.zero {t : ByteArray} (h : t.size ≤ 65536) : Sf t (st0 t) := ⟨h, 0, Nat.zero_le _, rfl⟩
def iK (t : ByteArray) : List Int × RdSt := phK (st0 t)
def iR (t : ByteArray) : List Rou × RdSt := phR (iK t).2
def iT (t : ByteArray) : List Tsk × RdSt := phT (iR t).2
def iSf (t : ByteArray) : Int × RdSt := numM 1 (iT t).2
def bitL (n : Int) (k : Nat) : List Bool := (List.range k).map fun j : Nat => bitJ n (j : Int)
theorem bitL_succ {n : Int} {k : Nat} : bitL n (k + 1) = bitL n k ++ [bitJ n k] := by simp [bitL, List.range_succ]
theorem bitL_len {n : Int} {k : Nat} : (bitL n k).length = k := by simp [bitL]
theorem iKR {t : ByteArray} (h : t.size ≤ 65536) : Sf t (iK t).2 ∧ Sf t (iR t).2 ∧ Sf t (iT t).2 ∧ Sf t (iSf t).2 := by
  have a := (Sf.zero h).phK
  have b := a.phR
  have c := b.phT
  exact ⟨a, b, c, c.num 1⟩
theorem iS_range {t : ByteArray} (h : t.size ≤ 65536) : -128 ≤ (iSf t).1 ∧ (iSf t).1 ≤ 127 := numM_one (iKR h).2.2.1
@[reducible] def tRou' : Ty := .pair (.slice tIns) .unit
@[reducible] def rwK (l : List Int) : Ob := .row t_int (.int .i64) l
@[reducible] def rwR (l : List Rou) : Ob := .nest t_impl_Routine tRou ⟨0, t_impl_Instr, tIns⟩ l none
@[reducible] def rwT (l : List Tsk) : Ob := .row t_impl_Task tTsk l
@[reducible] def rwS (l : List Bool) : Ob := .row t_bool .bool l
end Go.Ry

set_option linter.unusedVariables false
set_option linter.unusedSimpArgs false
namespace Go.Ry
open Go.Proofs

/-- The code of what is read, and the program. -/
def imgC (t : ByteArray) : Int :=
  if (iSf t).2.2 ≠ 0 then (iSf t).2.2 else if (iSf t).2.1 ≠ [] then 8 else (checkM (iK t).1 (iR t).1 (iT t).1 (bitL (iSf t).1 8)).2
def imgE (s : ByteArray) : Int := if 65536 < s.size then 2 else if frameE (bytesL s) ≠ 0 then frameE (bytesL s) else imgC (frameS s)
@[reducible] def ret4 (c : Int) : Ent := .tup [(true, [.row 0, .row 1, .row 2, .row 3]), (false, [cI c])]
def imgK (s : ByteArray) : List Int := if imgE s = 0 then (iK (frameS s)).1 else []
def imgR (s : ByteArray) : List Rou := if imgE s = 0 then (iR (frameS s)).1 else []
def imgT (s : ByteArray) : List Tsk := if imgE s = 0 then (iT (frameS s)).1 else []
def imgF (s : ByteArray) : List Bool := if imgE s = 0 then bitL (iSf (frameS s)).1 8 else []
@[reducible] def imgO (s : ByteArray) : List Ob := [rwK (imgK s), rwR (imgR s), rwT (imgT s), rwS (imgF s)]
theorem frameS_size {s : ByteArray} (h : s.size ≤ 65536) : (frameS s).size ≤ 65536 := by
  unfold frameS
  split
  · rw [ByteArray.size_extract]; omega
  · show (0 : Nat) ≤ 65536; decide
theorem prg_small (t : ByteArray) : prgSmall (iK t).1 (iR t).1 (iT t).1 (bitL (iSf t).1 8) := by
  have a := manyM_range (most := 8) (st := st0 t) (by decide)
  have b := manyM_range (most := 6) (st := (iK t).2) (by decide)
  have c := manyM_range (most := 5) (st := (iR t).2) (by decide)
  refine ⟨?_, ⟨?_, ?_⟩, ?_, ?_⟩
  · unfold iK phK; rw [repO_len]; omega
  · unfold iR phR; rw [repO_len]; omega
  · intro r hr
    have := repO_all (f := routM) (p := fun x => x.1.length ≤ 40) routM_len _ _ r hr
    have h2 : r.1.length ≤ 40 := this
    omega
  · unfold iT phT; rw [repO_len]; omega
  · rw [bitL_len]; decide
theorem img_bad {s : ByteArray} (h : imgE s ≠ 0) : imgO s = [rwK [], rwR [], rwT [], rwS []] := by
  unfold imgO imgK imgR imgT imgF
  rw [if_neg h, if_neg h, if_neg h, if_neg h]
theorem img_good {s : ByteArray} (h : imgE s = 0) : imgO s = [rwK (iK (frameS s)).1, rwR (iR (frameS s)).1, rwT (iT (frameS s)).1, rwS (bitL (iSf (frameS s)).1 8)] := by
  unfold imgO imgK imgR imgT imgF
  rw [if_pos h, if_pos h, if_pos h, if_pos h]
theorem bad_eq {s : ByteArray} {c : Int} (e : imgE s = c) (h : c ≠ 0) : ret4 c = ret4 (imgE s) ∧ [rwK [], rwR [], rwT [], rwS []] = imgO s := by
  rw [img_bad (by rw [e]; exact h), e]; exact ⟨rfl, rfl⟩
theorem good_eq {s : ByteArray} (e : imgE s = 0) : ret4 0 = ret4 (imgE s) ∧ [rwK (iK (frameS s)).1, rwR (iR (frameS s)).1, rwT (iT (frameS s)).1, rwS (bitL (iSf (frameS s)).1 8)] = imgO s := by
  rw [img_good e, e]; exact ⟨rfl, rfl⟩
theorem c_impl_ReadImage (s : ByteArray) : TT n_impl_ReadImage [eS s] [] (ret4 (imgE s)) (imgO s) := by
  by_cases hg : 65536 < s.size
  · have : imgE s = 2 := by unfold imgE; rw [if_pos (by omega)]
    exact r_impl_ReadImage s ⟨_, _, c_impl_ReadFrame_long s hg, ifN_t (by decide) (bad_eq this (by decide))⟩
  have h : s.size ≤ 65536 := by omega
  have hts := frameS_size h
  have ei : imgE s = if frameE (bytesL s) ≠ 0 then frameE (bytesL s) else imgC (frameS s) := by unfold imgE; rw [if_neg hg]
  refine r_impl_ReadImage s ⟨_, _, c_impl_ReadFrame s h, ifN (fun hc => ?_) (fun hc => ?_)⟩
  · rw [if_pos hc] at ei
    exact bad_eq ei hc
  rw [if_neg (not_not_intro hc)] at ei
  have hgood := good_eq (s := s)
  have hbad := fun {c : Int} => bad_eq (s := s) (c := c)
  revert ei hts hgood
  generalize frameS s = t
  intro h ei hgood
  obtain ⟨hk, hr, ht, hs⟩ := iKR h
  have h0 := Sf.zero h
  have k0 := c_impl_count 8 (by decide) (st0 t) h0
  have e0 : iO (st0 t) = .box [.str t, cI 0] := by
    show Ob.box [.str (strL (bytesL t)), cI 0] = _
    rw [strL_bytesL]
  rw [e0] at k0
  refine ⟨fun s c a => s = strL (iK t).2.1 ∧ c = (iK t).2.2 ∧ a = (iK t).1,
    ⟨_, _, _, k0, fun m n i s c a => ∃ st, Sf t st ∧ 0 ≤ i ∧ i ≤ n ∧ n ≤ 8 ∧ m = (n - i).toNat ∧ s = strL st.1 ∧ c = st.2 ∧ repI (numM 1) (iK t) a (n - i).toNat st ∧ (a.length : Int) = i,
      ⟨_, _, h0.many 8, by decide, (manyM_range (by decide)).1, (manyM_range (by decide)).2, rfl, rfl, rfl, by rw [Int.sub_zero]; exact repI_start _ _ _, rfl⟩, ?_⟩, ?_⟩
  · rintro m n i s c a ⟨st, hst, h1, h2, h3, rfl, rfl, rfl, h4, h5⟩
    refine ifP (fun hlt => ⟨_, _, _, c_impl_number 1 (by simp [isZ]) st hst, by simp; omega, ?_⟩) (fun hge => ?_)
    · rw [show (n - i).toNat = (n - (i + 1)).toNat + 1 by omega] at h4
      rw [w64 (by omega)]
      exact ⟨_, by omega, _, hst.num 1, by omega, by omega, h3, rfl, rfl, rfl, repI_step h4, by simp; omega⟩
    · rw [show (n - i).toNat = 0 by omega] at h4
      have := repI_end h4
      rw [this]
      exact ⟨rfl, rfl, rfl⟩
  rintro s c a ⟨rfl, rfl, rfl⟩
  refine ⟨fun s c a b => s = strL (iR t).2.1 ∧ c = (iR t).2.2 ∧ a = (iK t).1 ∧ b = (iR t).1,
    ⟨_, _, _, c_impl_count 6 (by decide) (iK t).2 hk, fun m n i s c a b => ∃ st, Sf t st ∧ 0 ≤ i ∧ i ≤ n ∧ n ≤ 6 ∧ m = (n - i).toNat ∧ s = strL st.1 ∧ c = st.2 ∧ repI routM (iR t) b (n - i).toNat st ∧ (b.length : Int) = i ∧ a = (iK t).1,
      ⟨_, _, hk.many 6, by decide, (manyM_range (by decide)).1, (manyM_range (by decide)).2, rfl, rfl, rfl, by rw [Int.sub_zero]; exact repI_start _ _ _, rfl, rfl⟩, ?_⟩, ?_⟩
  · rintro m n i s c a b ⟨st, hst, h1, h2, h3, rfl, rfl, rfl, h4, h5, rfl⟩
    refine ifP (fun hlt => ⟨_, _, _, c_impl_routine st hst, by simp; omega, ?_⟩) (fun hge => ?_)
    · rw [show (n - i).toNat = (n - (i + 1)).toNat + 1 by omega] at h4
      rw [w64 (by omega)]
      exact ⟨_, by omega, _, hst.rout, by omega, by omega, h3, rfl, rfl, rfl, repI_step h4, by simp; omega, rfl⟩
    · rw [show (n - i).toNat = 0 by omega] at h4
      have := repI_end h4
      rw [this]
      exact ⟨rfl, rfl, rfl, rfl⟩
  rintro s c a b ⟨rfl, rfl, rfl, rfl⟩
  refine ⟨fun s c a b d => s = strL (iT t).2.1 ∧ c = (iT t).2.2 ∧ a = (iK t).1 ∧ b = (iR t).1 ∧ d = (iT t).1,
    ⟨_, _, _, c_impl_count 5 (by decide) (iR t).2 hr, fun m n i s c a b d => ∃ st, Sf t st ∧ 0 ≤ i ∧ i ≤ n ∧ n ≤ 5 ∧ m = (n - i).toNat ∧ s = strL st.1 ∧ c = st.2 ∧ repI taskM (iT t) d (n - i).toNat st ∧ (d.length : Int) = i ∧ a = (iK t).1 ∧ b = (iR t).1,
      ⟨_, _, hr.many 5, by decide, (manyM_range (by decide)).1, (manyM_range (by decide)).2, rfl, rfl, rfl, by rw [Int.sub_zero]; exact repI_start _ _ _, rfl, rfl, rfl⟩, ?_⟩, ?_⟩
  · rintro m n i s c a b d ⟨st, hst, h1, h2, h3, rfl, rfl, rfl, h4, h5, rfl, rfl⟩
    refine ifP (fun hlt => ⟨_, _, _, _, _, _, _, _, c_impl_task st hst, by simp; omega, ?_⟩) (fun hge => ?_)
    · rw [show (n - i).toNat = (n - (i + 1)).toNat + 1 by omega] at h4
      rw [w64 (by omega)]
      exact ⟨_, by omega, _, hst.task, by omega, by omega, h3, rfl, rfl, rfl, repI_step h4, by simp; omega, rfl, rfl⟩
    · rw [show (n - i).toNat = 0 by omega] at h4
      have := repI_end h4
      rw [this]
      exact ⟨rfl, rfl, rfl, rfl, rfl⟩
  rintro s c a b d ⟨rfl, rfl, rfl, rfl, rfl⟩
  have hn := iS_range h
  refine ⟨_, _, _, c_impl_number 1 (by simp [isZ]) _ ht, fun s c a b d e => s = strL (iSf t).2.1 ∧ c = (iSf t).2.2 ∧ a = (iK t).1 ∧ b = (iR t).1 ∧ d = (iT t).1 ∧ e = bitL (iSf t).1 8,
    ⟨fun m n i s c a b d e => n = (iSf t).1 ∧ 0 ≤ i ∧ i ≤ 8 ∧ m = (8 - i).toNat ∧ s = strL (iSf t).2.1 ∧ c = (iSf t).2.2 ∧ a = (iK t).1 ∧ b = (iR t).1 ∧ d = (iT t).1 ∧ e = bitL (iSf t).1 i.toNat,
      ⟨_, rfl, by decide, by decide, rfl, rfl, rfl, rfl, rfl, rfl, rfl⟩, ?_⟩, ?_⟩
  · rintro m n i s c a b d e ⟨rfl, h1, h2, rfl, rfl, rfl, rfl, rfl, rfl, rfl⟩
    refine ifP (fun hlt => ⟨h1, ?_, ?_⟩) (fun hge => ?_)
    · simp [bitL_len]; omega
    · rw [w64 (x := i + 1) (by omega)]
      exact ⟨_, by omega, rfl, by omega, by omega, rfl, rfl, rfl, rfl, rfl, rfl, by rw [toNat_succ h1, bitL_succ, Int.toNat_of_nonneg h1]; rfl⟩
    · rw [show i.toNat = 8 by omega]; exact ⟨rfl, rfl, rfl, rfl, rfl, rfl⟩
  rintro s c a b d e ⟨rfl, rfl, rfl, rfl, rfl, rfl⟩
  have eb : (!(ByteArray.toList (strL (iSf t).2.1) == ByteArray.toList (⟨#[]⟩ : ByteArray))) = decide ((iSf t).2.1 ≠ []) := by
    rw [toList_beq, ← decide_not, decide_eq_decide, bytesL_iff, toBytes hs.isB]; rfl
  rw [eb]
  have ef : firstOf_ [(iSf t).2.2, if decide ((iSf t).2.1 ≠ []) = true then 8 else 0] = if (iSf t).2.2 ≠ 0 then (iSf t).2.2 else if (iSf t).2.1 ≠ [] then 8 else 0 := by
    by_cases h1 : (iSf t).2.2 = 0 <;> by_cases h2 : (iSf t).2.1 = [] <;> simp [firstOf_, h1, h2]
  have kf := c_impl_first [(iSf t).2.2, if decide ((iSf t).2.1 ≠ []) = true then 8 else 0] (by simp)
  rw [ef] at kf
  refine ⟨_, c_impl_when _ _, _, kf, fun c a b d e => c = imgC t ∧ a = (iK t).1 ∧ b = (iR t).1 ∧ d = (iT t).1 ∧ e = bitL (iSf t).1 8, ?_, ?_⟩
  · unfold imgC
    by_cases h1 : (iSf t).2.2 ≠ 0
    · rw [if_pos h1, if_pos h1]
      exact ifE_f h1 ⟨rfl, rfl, rfl, rfl, rfl⟩
    · rw [if_neg h1, if_neg h1]
      by_cases h2 : (iSf t).2.1 ≠ []
      · rw [if_pos h2, if_pos h2]
        exact ifE_f (by decide) ⟨rfl, rfl, rfl, rfl, rfl⟩
      · rw [if_neg h2, if_neg h2]
        exact ifE_t rfl ⟨_, _, c_impl_CheckProgram _ _ _ _ (prg_small t), rfl, rfl, rfl, rfl, rfl⟩
  · rintro c a b d e ⟨rfl, rfl, rfl, rfl, rfl⟩
    refine ifN (fun hne => hbad ei hne) (fun heq => ?_)
    rw [heq] at ei
    exact hgood ei
end Go.Ry
