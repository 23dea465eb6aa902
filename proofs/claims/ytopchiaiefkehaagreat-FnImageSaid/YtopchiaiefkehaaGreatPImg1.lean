/- Reading an image, bit by bit: numbers, counts, routines, tasks. No condition. -/
import Derived.Test.YtopchiaiefkehaaGreatPByt3
import Derived.Test.YtopchiaiefkehaaGreatPVer6
set_option linter.unusedVariables false
set_option linter.unusedSimpArgs false
namespace Go.Ry
open Go.Proofs

def bitJ (n i : Int) : Bool := bits .and .i64 (Int.fdiv n (2 ^ min (Int.toNat i) (IntKind.bits .i64))) 1 == 1
def bitS (n i : Int) : Bool := bits .and .i64 n (wI (1 * 2 ^ min (Int.toNat (IntKind.wrap .u64 i)) (IntKind.bits .i64))) != 0
theorem bit_all : ∀ i : Fin 8, ∀ n : Fin 256, bitJ ((n.val : Int) - 128) (i.val : Int) = bitS ((n.val : Int) - 128) (i.val : Int) := by decide +kernel
theorem bit_eq {n i : Int} (hn : -128 ≤ n ∧ n ≤ 127) (hi : 0 ≤ i ∧ i < 8) : bitJ n i = bitS n i := by
  have := bit_all ⟨i.toNat, by omega⟩ ⟨(n + 128).toNat, by omega⟩
  simp only [Int.toNat_of_nonneg hi.1, Int.toNat_of_nonneg (show 0 ≤ n + 128 by omega)] at this
  rw [show n + 128 - 128 = n by omega] at this
  exact this

/-- What is left, and the code. -/
abbrev RdSt := List Int × Int
@[reducible] def iO (st : RdSt) : Ob := .box [.str (strL st.1), cI st.2]
@[reducible] def sO (t : ByteArray) (st : RdSt) : Ob := .box [.str t, cI ((t.size : Int) - (st.1.length : Int)), cI st.2]
def Sf (t : ByteArray) (st : RdSt) : Prop := t.size ≤ 65536 ∧ ∃ k : Nat, k ≤ t.size ∧ st.1 = (bytesL t).drop k
theorem Sf.len {t : ByteArray} {st : RdSt} (h : Sf t st) : st.1.length ≤ t.size ∧ t.size ≤ 65536 ∧ st.1 = (bytesL t).drop (t.size - st.1.length) := by
  obtain ⟨h1, k, hk, e⟩ := h
  have hl : st.1.length = t.size - k := by rw [e, List.length_drop, bytesL_size]
  refine ⟨by omega, h1, ?_⟩
  rw [hl, show t.size - (t.size - k) = k by omega]; exact e
theorem Sf.isB {t : ByteArray} {st : RdSt} (h : Sf t st) : isB st.1 := fun x hx => bytesL_isB t x (by rw [h.len.2.2] at hx; exact List.mem_of_mem_drop hx)
theorem Sf.drop {t : ByteArray} {st : RdSt} (h : Sf t st) (n : Nat) (c : Int) : Sf t (st.1.drop n, c) := by
  obtain ⟨h1, k, hk, e⟩ := h
  by_cases hn : k + n ≤ t.size
  · exact ⟨h1, k + n, hn, by show st.1.drop n = _; rw [e, List.drop_drop]⟩
  · exact ⟨h1, t.size, Nat.le_refl _, by show st.1.drop n = _; rw [e, List.drop_drop, List.drop_eq_nil_of_le (by rw [bytesL_size]; omega), List.drop_eq_nil_of_le (by rw [bytesL_size]; omega)]⟩
theorem Sf.code {t : ByteArray} {st : RdSt} (h : Sf t st) (c : Int) : Sf t (st.1, c) := h.drop 0 c
theorem strL_extract {l : List Int} (h : isB l) {a b : Nat} (hb : b ≤ l.length) : (strL l).extract a b = strL ((l.take b).drop a) := by
  have hs : isB ((l.take b).drop a) := fun x hx => h x (List.mem_of_mem_take (List.mem_of_mem_drop hx))
  apply bytesL_inj
  rw [bytes_extract _ (by rw [strL_size]; exact hb), toBytes h, toBytes hs]

/-! ### numbers -/
def byM (n : Int) (st : RdSt) : List Int × RdSt :=
  if st.2 ≠ 0 then ([], st) else if n < 0 ∨ (st.1.length : Int) < n then ([], (st.1, 16)) else (st.1.take n.toNat, (st.1.drop n.toNat, st.2))
def numM (z : Nat) (st : RdSt) : Int × RdSt :=
  if st.2 ≠ 0 then (0, st) else if st.1.length < z then (0, (st.1, 16)) else (numZ z st.1, (st.1.drop z, st.2))
theorem Sf.num {t : ByteArray} {st : RdSt} (h : Sf t st) (z : Nat) : Sf t (numM z st).2 := by
  unfold numM
  split
  · exact h
  · split
    · exact h.code 16
    · exact h.drop z _
theorem Sf.byt {t : ByteArray} {st : RdSt} (h : Sf t st) (n : Int) : Sf t (byM n st).2 := by
  unfold byM
  split
  · exact h
  · split
    · exact h.code 16
    · exact h.drop _ _
theorem numM_one {t : ByteArray} {st : RdSt} (h : Sf t st) : -128 ≤ (numM 1 st).1 ∧ (numM 1 st).1 ≤ 127 := by
  unfold numM
  split
  · show (-128 : Int) ≤ 0 ∧ (0 : Int) ≤ 127; decide
  · split
    · show (-128 : Int) ≤ 0 ∧ (0 : Int) ≤ 127; decide
    · exact numZ_one h.isB
theorem numM_fail {z : Nat} {st : RdSt} (h : (numM z st).2.2 ≠ 0) : (numM z st).1 = 0 := by
  revert h
  unfold numM
  split
  · intro _; rfl
  · split
    · intro _; rfl
    · rename_i h1 h2
      intro h
      exact absurd h h1
theorem c_impl_bytes {t : ByteArray} (n : Int) (st : RdSt) (h : Sf t st) : TT n_impl_decoder_bytes [.one (.ptrB 0 0), eI n] [iO st] (eS (strL (byM n st).1)) [iO (byM n st).2] := by
  have hz := strL_size st.1
  refine r_impl_decoder_bytes n (strL st.1) st.2 ?_
  unfold v_impl_decoder_bytes byM
  refine ifN (fun hc => ?_) (fun hc => ⟨_, c_impl_within _ _ _, ?_⟩)
  · rw [if_pos hc]; exact ⟨rfl, rfl⟩
  · rw [if_neg (not_not_intro hc)]
    refine ifB_cases (fun hw => ?_) (fun hw => ?_)
    · have := within_not.1 (notT hw)
      rw [if_pos (by omega)]; exact ⟨rfl, rfl⟩
    · have hw' := within_iff.1 (notF hw)
      rw [if_neg (by omega)]
      refine ⟨⟨by omega, by omega, by omega⟩, ⟨by omega, by omega, by omega⟩, ?_⟩
      rw [hz, show (((st.1.length : Nat) : Int)).toNat = st.1.length by omega, strL_extract h.isB (by omega), strL_extract h.isB (Nat.le_refl _), List.take_length]
      exact ⟨rfl, rfl⟩
theorem c_impl_number {t : ByteArray} (z : Nat) (hz : isZ z) (st : RdSt) (h : Sf t st) : TT n_impl_decoder_number [.one (.ptrB 0 0), eI z] [iO st] (eI (numM z st).1) [iO (numM z st).2] := by
  have hz' : 1 ≤ z ∧ z ≤ 4 := by rcases hz with h | h | h <;> omega
  have k := c_impl_bytes z st h
  refine r_impl_decoder_number z (strL st.1) st.2 ?_
  unfold v_impl_decoder_number numM
  refine ⟨_, _, _, k, ?_⟩
  unfold byM
  by_cases hc : st.2 ≠ 0
  · rw [if_pos hc, if_pos hc]
    exact ifN_t hc ⟨rfl, rfl⟩
  · rw [if_neg hc, if_neg hc]
    by_cases hl : st.1.length < z
    · rw [if_pos (by omega), if_pos hl]
      exact ifN_t (show (16 : Int) ≠ 0 by decide) ⟨rfl, rfl⟩
    · rw [if_neg (by omega), if_neg hl]
      have hs : (strL (st.1.take z)).size = z := by rw [strL_size, List.length_take]; omega
      have kt := c_impl_take (strL (st.1.take z)) (by rw [hs]; exact hz)
      rw [hs, toBytes (fun x hx => h.isB x (List.mem_of_mem_take hx))] at kt
      have e : numZ z (st.1.take z) = numZ z st.1 := by unfold numZ; rw [List.take_take, Nat.min_self]
      rw [e] at kt
      exact ifN_f (show st.2 = 0 by simpa using hc) ⟨_, kt, rfl, rfl⟩
def failM (n : Int) (st : RdSt) : RdSt := if st.2 = 0 then (st.1, n) else st
theorem c_spec_fail (t : ByteArray) (n : Int) (st : RdSt) : TT n_spec_l08Reader_fail [.one (.ptrB 0 0), eI n] [sO t st] (.tup []) [sO t (failM n st)] := by
  refine r_spec_l08Reader_fail n t _ st.2 (ifE (fun hc => ?_) (fun hc => ?_))
  · unfold failM; rw [if_pos hc]; exact ⟨rfl, rfl⟩
  · unfold failM; rw [if_neg hc]; exact ⟨rfl, rfl⟩
theorem c_spec_number {t : ByteArray} (z : Nat) (hz : isZ z) (st : RdSt) (h : Sf t st) : TT n_spec_l08Reader_number [.one (.ptrB 0 0), eI z] [sO t st] (eI (numM z st).1) [sO t (numM z st).2] := by
  have hz' : 1 ≤ z ∧ z ≤ 4 := by rcases hz with h | h | h <;> omega
  obtain ⟨h1, h2, h3⟩ := h.len
  have hf := c_spec_fail t 16 st
  refine r_spec_l08Reader_number z t _ st.2 ?_
  unfold v_spec_l08Reader_number numM
  refine ifN (fun hc => ?_) (fun hc => ?_)
  · rw [if_pos hc]
    unfold failM at hf
    rw [if_neg hc] at hf
    exact ⟨_, _, _, hf, rfl, rfl⟩
  · rw [if_neg (not_not_intro hc), w64 (x := (t.size : Int) - ((t.size : Int) - (st.1.length : Int))) (by omega)]
    refine ifP (fun hl => ?_) (fun hl => ?_)
    · rw [if_pos (by omega)]
      unfold failM at hf
      rw [if_pos hc] at hf
      exact ⟨_, _, _, hf, rfl, rfl⟩
    · rw [if_neg (by omega)]
      have kt := c_spec_l01Take t (t.size - st.1.length) z hz (by omega) h2
      rw [← h3, show ((t.size - st.1.length : Nat) : Int) = (t.size : Int) - (st.1.length : Int) by omega] at kt
      refine ⟨_, kt, rfl, ?_⟩
      rw [w64 (by omega)]
      show [Ob.box [.str t, cI ((t.size : Int) - (st.1.length : Int) + z), cI st.2]] = [Ob.box [.str t, cI ((t.size : Int) - ((st.1.drop z).length : Int)), cI st.2]]
      rw [List.length_drop, show (t.size : Int) - (st.1.length : Int) + z = (t.size : Int) - ((st.1.length - z : Nat) : Int) by omega]

/-! ### counts -/
def manyM (most : Int) (st : RdSt) : Int × RdSt :=
  if (numM 1 st).2.2 = 0 ∧ within (numM 1 st).1 0 most = false then (0, ((numM 1 st).2.1, 6)) else numM 1 st
theorem Sf.many {t : ByteArray} {st : RdSt} (h : Sf t st) (most : Int) : Sf t (manyM most st).2 := by
  unfold manyM
  split
  · exact (h.num 1).code 6
  · exact h.num 1
theorem manyM_range {most : Int} {st : RdSt} (hm : 0 ≤ most) : 0 ≤ (manyM most st).1 ∧ (manyM most st).1 ≤ most := by
  unfold manyM
  split
  · show (0 : Int) ≤ 0 ∧ (0 : Int) ≤ most; omega
  · rename_i h
    by_cases hc : (numM 1 st).2.2 = 0
    · cases hw : within (numM 1 st).1 0 most
      · exact absurd ⟨hc, hw⟩ h
      · exact within_iff.1 hw
    · rw [numM_fail hc]; exact ⟨by decide, hm⟩
theorem c_impl_count {t : ByteArray} (most : Int) (hm : 0 ≤ most) (st : RdSt) (h : Sf t st) : TT n_impl_decoder_count [.one (.ptrB 0 0), eI most] [iO st] (eI (manyM most st).1) [iO (manyM most st).2] := by
  refine r_impl_decoder_count most (strL st.1) st.2 ⟨_, _, _, c_impl_number 1 (by simp [isZ]) st h, ?_⟩
  refine ⟨fun n s c => n = (numM 1 st).1 ∧ s = strL (numM 1 st).2.1 ∧ c = (if (numM 1 st).2.2 = 0 ∧ within (numM 1 st).1 0 most = false then 6 else (numM 1 st).2.2), ifE (fun hc => ⟨_, c_impl_within _ _ _, ifB_cases (fun hw => ?_) (fun hw => ?_)⟩) (fun hc => ?_), ?_⟩
  · exact ⟨rfl, rfl, by rw [if_pos ⟨hc, notT hw⟩]⟩
  · exact ⟨rfl, rfl, by rw [if_neg (by rw [notF hw]; simp)]⟩
  · exact ⟨rfl, rfl, by rw [if_neg (by simp [hc])]⟩
  · rintro n s c ⟨rfl, rfl, rfl⟩
    unfold manyM
    by_cases hw : (numM 1 st).2.2 = 0 ∧ within (numM 1 st).1 0 most = false
    · rw [if_pos hw, if_pos hw]
      exact ifN_t (by decide) ⟨rfl, rfl⟩
    · rw [if_neg hw, if_neg hw]
      refine ifN (fun hc => ?_) (fun hc => ⟨rfl, rfl⟩)
      rw [numM_fail hc]; exact ⟨rfl, rfl⟩
theorem c_spec_many {t : ByteArray} (most : Int) (hm : 0 ≤ most) (st : RdSt) (h : Sf t st) : TT n_spec_l08Reader_many [.one (.ptrB 0 0), eI most] [sO t st] (eI (manyM most st).1) [sO t (manyM most st).2] := by
  refine r_spec_l08Reader_many most t _ st.2 ⟨_, _, _, _, c_spec_number 1 (by simp [isZ]) st h, _, c_spec_l01In _ _ _, ifB_cases (fun hw => ?_) (fun hw => ?_)⟩
  · have hw' := notT hw
    have hf := c_spec_fail t 6 (numM 1 st).2
    unfold manyM
    by_cases hc : (numM 1 st).2.2 = 0
    · rw [if_pos ⟨hc, hw'⟩]
      unfold failM at hf
      rw [if_pos hc] at hf
      exact ⟨_, _, _, hf, rfl, rfl⟩
    · rw [numM_fail hc] at hw'
      exact absurd ⟨by decide, hm⟩ (within_not.1 hw')
  · unfold manyM
    rw [if_neg (by rw [notF hw]; simp)]
    exact ⟨rfl, rfl⟩

/-! ### routines -/
def codeM (n : Int) (st : RdSt) : List Ins × RdSt :=
  if st.2 ≠ 0 then ([], st) else if n < 0 ∨ (st.1.length : Int) < n then ([], (st.1, 16)) else ((readB (st.1.take n.toNat)).2, (st.1.drop n.toNat, (readB (st.1.take n.toNat)).1))
def routM (st : RdSt) : Rou × RdSt := (((codeM (numM 2 st).1 (numM 2 st).2).1, ()), (codeM (numM 2 st).1 (numM 2 st).2).2)
theorem Sf.cod {t : ByteArray} {st : RdSt} (h : Sf t st) (n : Int) : Sf t (codeM n st).2 := by
  unfold codeM
  split
  · exact h
  · split
    · exact h.code 16
    · exact h.drop _ _
theorem Sf.rout {t : ByteArray} {st : RdSt} (h : Sf t st) : Sf t (routM st).2 := (h.num 2).cod _
theorem routM_len (st : RdSt) : (routM st).1.1.length ≤ 40 := by
  unfold routM codeM
  dsimp only
  split
  · exact Nat.zero_le _
  · split
    · exact Nat.zero_le _
    · exact readB_len _
theorem c_spec_code1 {t : ByteArray} (n : Int) (hn : -2147483648 ≤ n ∧ n ≤ 4294967295) (st : RdSt) (h : Sf t st) :
    TT n_spec_l08Reader_code1 [.one (.ptrB 0 0), eI n] [sO t st] (.one (.row 1)) [sO t (codeM n st).2, .row t_impl_Instr tIns (codeM n st).1] := by
  obtain ⟨h1, h2, h3⟩ := h.len
  have hf := c_spec_fail t 16 st
  refine r_spec_l08Reader_code1 n t _ st.2 ?_
  unfold v_spec_l08Reader_code1 codeM
  refine ifN (fun hc => ?_) (fun hc => ?_)
  · rw [if_pos hc]; exact ⟨rfl, rfl⟩
  unfold failM at hf
  rw [if_pos hc] at hf
  rw [if_neg (not_not_intro hc), w64 (x := (t.size : Int) - ((t.size : Int) - (st.1.length : Int))) (by omega)]
  refine ifP (fun hl => ?_) (fun hl => ifP (fun hl2 => ?_) (fun hl2 => ?_))
  · rw [if_pos (by omega)]
    exact ⟨_, _, _, hf, rfl, rfl⟩
  · rw [if_pos (by omega)]
    exact ⟨_, _, _, hf, rfl, rfl⟩
  · rw [if_neg (by omega), w64 (x := (t.size : Int) - (st.1.length : Int) + n) (by omega)]
    refine ⟨⟨by omega, by omega, by omega⟩, ?_⟩
    have e1 : ((t.size : Int) - (st.1.length : Int)).toNat = t.size - st.1.length := by omega
    have e2 : ((t.size : Int) - (st.1.length : Int) + n).toNat = t.size - st.1.length + n.toNat := by omega
    rw [e1, e2]
    have eb : bytesL (t.extract (t.size - st.1.length) (t.size - st.1.length + n.toNat)) = st.1.take n.toNat := by
      rw [bytes_extract t (by omega), List.drop_take, ← h3]; congr 1; omega
    have k := c_spec_l02ReadBytes (t.extract (t.size - st.1.length) (t.size - st.1.length + n.toNat)) (by rw [ByteArray.size_extract]; omega)
    rw [eb] at k
    have hf2 := c_spec_fail t (readB (st.1.take n.toNat)).1 (st.1.drop n.toNat, st.2)
    unfold failM at hf2
    rw [if_pos hc] at hf2
    have e3 : sO t (st.1.drop n.toNat, st.2) = .box [.str t, cI ((t.size : Int) - (st.1.length : Int) + n), cI st.2] := by
      show Ob.box [.str t, cI ((t.size : Int) - ((st.1.drop n.toNat).length : Int)), cI st.2] = _
      rw [List.length_drop, show (t.size : Int) - (st.1.length : Int) + n = (t.size : Int) - ((st.1.length - n.toNat : Nat) : Int) by omega]
    rw [e3] at hf2
    exact ⟨_, _, k, _, _, _, hf2, rfl, rfl⟩
theorem c_impl_routine {t : ByteArray} (st : RdSt) (h : Sf t st) :
    TT n_impl_decoder_routine [.one (.ptrB 0 0)] [iO st] (.agg [.row 1]) [iO (routM st).2, .row t_impl_Instr tIns (routM st).1.1] := by
  have h2 := (h.num 2).isB
  have hl := (h.num 2).len
  refine r_impl_decoder_routine (strL st.1) st.2 ⟨_, _, _, c_impl_number 2 (by simp [isZ]) st h, _, _, _, c_impl_bytes (numM 2 st).1 (numM 2 st).2 (h.num 2), ?_⟩
  unfold routM
  generalize (numM 2 st).1 = n
  generalize hs : (numM 2 st).2 = s1
  rw [hs] at h2 hl
  unfold byM codeM
  by_cases hc : s1.2 ≠ 0
  · rw [if_pos hc, if_pos hc]
    exact ifN_t hc ⟨rfl, rfl⟩
  rw [if_neg hc, if_neg hc]
  by_cases hn : n < 0 ∨ (s1.1.length : Int) < n
  · rw [if_pos hn, if_pos hn]
    exact ifN_t (show (16 : Int) ≠ 0 by decide) ⟨rfl, rfl⟩
  rw [if_neg hn, if_neg hn]
  have hb : isB (s1.1.take n.toNat) := fun x hx => h2 x (List.mem_of_mem_take hx)
  have k := c_impl_readCode (strL (s1.1.take n.toNat)) (by rw [strL_size, List.length_take]; omega)
  rw [toBytes hb] at k
  exact ifN_f (show s1.2 = 0 by simpa using hc) ⟨_, _, k, rfl, rfl⟩

/-! ### tasks -/
def taskM (st : RdSt) : Tsk × RdSt :=
  let a := numM 1 st; let b := numM 4 a.2; let c := numM 4 b.2; let d := numM 1 c.2; let e := numM 1 d.2; let f := numM 1 e.2
  ((a.1, (b.1, (c.1, (d.1, (e.1, (f.1, ())))))), f.2)
theorem Sf.task {t : ByteArray} {st : RdSt} (h : Sf t st) : Sf t (taskM st).2 := (((((h.num 1).num 4).num 4).num 1).num 1).num 1
theorem c_impl_task {t : ByteArray} (st : RdSt) (h : Sf t st) :
    TT n_impl_decoder_task [.one (.ptrB 0 0)] [iO st] (tsk (taskM st).1.1 (taskM st).1.2.1 (taskM st).1.2.2.1 (taskM st).1.2.2.2.1 (taskM st).1.2.2.2.2.1 (taskM st).1.2.2.2.2.2.1) [iO (taskM st).2] :=
  r_impl_decoder_task (strL st.1) st.2 ⟨_, _, _, c_impl_number 1 (by simp [isZ]) st h, _, _, _, c_impl_number 4 (by simp [isZ]) _ (h.num 1), _, _, _, c_impl_number 4 (by simp [isZ]) _ ((h.num 1).num 4),
    _, _, _, c_impl_number 1 (by simp [isZ]) _ (((h.num 1).num 4).num 4), _, _, _, c_impl_number 1 (by simp [isZ]) _ ((((h.num 1).num 4).num 4).num 1), _, _, _, c_impl_number 1 (by simp [isZ]) _ (((((h.num 1).num 4).num 4).num 1).num 1), rfl, rfl⟩
end Go.Ry
