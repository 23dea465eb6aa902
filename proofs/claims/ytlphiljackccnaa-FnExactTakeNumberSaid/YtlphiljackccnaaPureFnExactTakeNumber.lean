/- For every text, offset and size, the program's TakeNumber answers what the reference's TakeNumber answers. No condition. -/
import Derived.Test.YtlphiljackccnaaPFnExactTakeNumberx
import Derived.Test.YtlphiljackccnaaBase
set_option linter.unusedSimpArgs false
set_option linter.unusedVariables false
namespace Go.Proofs.Ytlphiljackccnaa.Pure
open Go.RowKit Go.Proofs.Ytlphiljackccnaa.PFnExactTakeNumber Go.Proofs.YtlphiljackccnaaW.PrintWords Go.Proofs.YtlphiljackccnaaW.PrintLast Go.Proofs.YtlphiljackccnaaW.PrintMore Go.Proofs.YtlphiljackccnaaB
theorem specTake (s : ByteArray) (a z : Int) (hs : (s.size : Int) ≤ 140737488351232) (ha : 0 ≤ a) (hz : z = 1 ∨ z = 2 ∨ z = 4) (hf : a + z ≤ s.size) :
    Ev (fun k => spec_l01Take.f k s a z) (takeV s a z) := by
  have h0 := bt_range s a
  have h1 := bt_range s (a + 1)
  have h2 := bt_range s (a + 2)
  have h3 := bt_range s (a + 3)
  refine ev_of 5 (fun k hk => ?_)
  obtain ⟨k, rfl⟩ : ∃ j, k = j + 5 := ⟨k - 5, by omega⟩
  unfold spec_l01Take.f
  have e1 : a + 2 - 1 = a + 1 := by omega
  have e2 : a + 4 - 1 = a + 3 := by omega
  have e3 : a + 1 - 1 = a := by omega
  rcases hz with rfl | rfl | rfl
  · iterate 2 (rw [spec_l01Take.l0]; simp (disch := omega) only [if_pos, if_neg, w64, e1, e2, e3, Int.reduceSub, Int.add_zero])
    simp (disch := omega) only [Int.reduceMul, shl_8, u64_8, if_pos, if_neg, w64, takeV, if_true, if_false]
    split <;> congr 1 <;> omega
  · iterate 3 (rw [spec_l01Take.l0]; simp (disch := omega) only [if_pos, if_neg, w64, e1, e2, e3, Int.reduceSub, Int.add_zero])
    simp (disch := omega) only [Int.reduceMul, shl_16, u64_16, if_pos, if_neg, w64, takeV, if_true, if_false]
    split <;> congr 1 <;> omega
  · iterate 5 (rw [spec_l01Take.l0]; simp (disch := omega) only [if_pos, if_neg, w64, e1, e2, e3, Int.reduceSub, Int.add_zero])
    simp (disch := omega) only [Int.reduceMul, shl_32, u64_32, if_pos, if_neg, w64, takeV, if_true, if_false]
    split <;> congr 1 <;> omega

theorem implTake (s : ByteArray) (hz : s.size = 1 ∨ s.size = 2 ∨ s.size = 4) :
    Ev (fun k => impl_take.f k s) (takeV s 0 s.size) := by
  have h0 := bt_range s 0
  have h1 := bt_range s 1
  have h2 := bt_range s 2
  have h3 := bt_range s 3
  refine ev_of 5 (fun k hk => ?_)
  obtain ⟨k, rfl⟩ : ∃ j, k = j + 5 := ⟨k - 5, by omega⟩
  unfold impl_take.f
  rcases hz with hz | hz | hz
  · have hz' : (s.size : Int) = 1 := by omega
    rw [hz']
    iterate 2 (rw [impl_take.l0]; simp (disch := omega) only [if_pos, if_neg, w64, hz', Int.reduceMul, Int.reduceSub, or_byte, or_zero, shl_7])
    simp (disch := omega) only [takeV, if_pos, if_neg, w64, if_true, if_false, Int.zero_add]
    split <;> rfl
  · have hz' : (s.size : Int) = 2 := by omega
    rw [hz']
    iterate 3 (rw [impl_take.l0]; simp (disch := omega) only [if_pos, if_neg, w64, hz', Int.reduceMul, Int.reduceSub, or_byte, or_zero, shl_15])
    simp (disch := omega) only [takeV, if_pos, if_neg, w64, if_true, if_false, Int.zero_add]
    split <;> split <;> first | (congr 1; omega) | omega
  · have hz' : (s.size : Int) = 4 := by omega
    rw [hz']
    iterate 5 (rw [impl_take.l0]; simp (disch := omega) only [if_pos, if_neg, w64, hz', Int.reduceMul, Int.reduceSub, or_byte, or_zero, shl_31])
    simp (disch := omega) only [takeV, if_pos, if_neg, w64, if_true, if_false, Int.zero_add]
    split <;> split <;> first | (congr 1; omega) | omega

def firstV : List Int → Int
  | [] => 0
  | c :: l => if c = 0 then firstV l else c
theorem first_from (l : List Int) (hl : (l.length : Int) ≤ 140737488351232) : ∀ (d : Nat) (i : Nat), i + d = l.length → ∀ k, d < k → impl_first.l0 k l l.length i = some (firstV (l.drop i)) := by
  intro d
  induction d with
  | zero =>
    intro i hi k hk
    obtain ⟨k, rfl⟩ : ∃ j, k = j + 1 := ⟨k - 1, by omega⟩
    rw [impl_first.l0, if_neg (by omega), List.drop_eq_nil_of_le (by omega)]; rfl
  | succ d ih =>
    intro i hi k hk
    obtain ⟨k, rfl⟩ : ∃ j, k = j + 1 := ⟨k - 1, by omega⟩
    have hlt : i < l.length := by omega
    have hr : rd l i = l[i] := by simp [rd, List.getD, hlt]
    rw [impl_first.l0, if_pos (by omega), if_pos (by omega), if_pos (by omega), hr, w64 (x := (i : Int) + 1) (by omega), List.drop_eq_getElem_cons hlt, firstV]
    split
    · exact ih (i + 1) (by omega) k (by omega)
    · rfl
theorem implFirst (l : List Int) (hl : (l.length : Int) ≤ 140737488351232) : Ev (fun k => impl_first.f k l) (firstV l) := by
  refine ev_of (l.length + 1) (fun k hk => ?_)
  unfold impl_first.f
  have := first_from l hl l.length 0 (by omega) k (by omega)
  simpa using this

theorem implWhen (b : Bool) (c : Int) : impl_when.f b c = some (if b = true then c else 0) := by unfold impl_when.f; split <;> rfl
theorem implLong (s : ByteArray) : impl_long.f s = some (if (s.size : Int) > 65536 then 2 else 0) := by
  unfold impl_long.f; rw [implWhen]; simp

theorem implWidth (z : Int) : impl_isWidth.f z = some (decide (z = 1 ∨ z = 2 ∨ z = 4)) := by
  unfold impl_isWidth.f; by_cases h1 : z = 1 <;> by_cases h2 : z = 2 <;> simp [h1, h2, Bool.beq_eq_decide_eq]
theorem specSize (z : Int) : spec_l01Size.f z = some (decide (z = 1 ∨ z = 2 ∨ z = 4)) := by
  unfold spec_l01Size.f; by_cases h1 : z = 1 <;> by_cases h2 : z = 2 <;> simp [h1, h2, Bool.beq_eq_decide_eq]

theorem implWithin (a b c : Int) : impl_within.f a b c = some (decide (b ≤ a ∧ a ≤ c)) := by
  unfold impl_within.f; by_cases h : a ≥ b
  · rw [if_pos h]; simp [h]
  · rw [if_neg h]; have : ¬ (b ≤ a) := h; simp [this]

def takeNumberV (s : ByteArray) (a z : Int) : Int × Int :=
  if (s.size : Int) > 65536 then (0, 2) else if z = 1 ∨ z = 2 ∨ z = 4 then (if 0 ≤ a ∧ a + z ≤ s.size then (takeV s a z, 0) else (0, 16)) else (0, 4)

theorem specTakeNumber (s : ByteArray) (a z : Int) (hs : (s.size : Int) ≤ 140737488351232) (ha : -9223372036854775808 ≤ a ∧ a ≤ 9223372036854775807) (hz : -9223372036854775808 ≤ z ∧ z ≤ 9223372036854775807) : Ev (fun k => spec_TakeNumber.f k s a z) (takeNumberV s a z) := by
  unfold spec_TakeNumber.f takeNumberV
  by_cases h1 : (s.size : Int) > 65536
  · simp only [if_pos h1]; exact Ev.now _
  simp only [if_neg h1, specSize, Option.bind_some, decide_eq_true_eq]
  by_cases h2 : z = 1 ∨ z = 2 ∨ z = 4
  · simp only [if_pos h2]
    by_cases h3 : 0 ≤ a ∧ a + z ≤ s.size
    · simp (disch := omega) only [if_neg, if_pos h3, w64]
      exact ev_bind (specTake s a z hs h3.1 h2 h3.2) (Ev.now _)
    · rw [if_neg h3]
      refine ev_congr (Ev.now _) (fun k => ?_)
      by_cases h4 : a < 0
      · rw [if_pos h4]
      · rw [if_neg h4]
        by_cases h5 : a > (s.size : Int)
        · rw [if_pos h5]
        · rw [if_neg h5, w64 (by omega), if_pos (by omega)]
  · simp only [if_neg h2]; exact Ev.now _
theorem implTakeNumber (s : ByteArray) (a z : Int) (hs : (s.size : Int) ≤ 140737488351232) (ha : -9223372036854775808 ≤ a ∧ a ≤ 9223372036854775807) (hz : -9223372036854775808 ≤ z ∧ z ≤ 9223372036854775807) : Ev (fun k => impl_TakeNumber.f k s a z) (takeNumberV s a z) := by
  unfold impl_TakeNumber.f takeNumberV
  simp only [implLong, implWidth, implWhen, Option.bind_some, implWithin]
  refine ev_bind (implFirst _ (by simp)) ?_
  by_cases h1 : (s.size : Int) > 65536
  · simp only [if_pos h1]; exact Ev.now _
  by_cases h2 : z = 1 ∨ z = 2 ∨ z = 4
  · simp only [if_neg h1, if_pos h2, h2, decide_true, Bool.not_true, firstV, if_true, if_false, Bool.false_eq_true, decide_eq_true_eq]
    by_cases h3 : 0 ≤ a ∧ a + z ≤ s.size
    · have h4 : (s.extract a.toNat (a + z).toNat).size = z.toNat := by rw [size_extract (by omega)]; omega
      simp (disch := omega) only [if_pos, w64]
      refine ev_bind (implTake _ (by omega)) (ev_some ?_)
      have : takeV (s.extract a.toNat (a + z).toNat) 0 ((s.extract a.toNat (a + z).toNat).size) = takeV s a z := by
        rw [h4, show ((z.toNat : Nat) : Int) = z by omega]
        rw [takeV_extract (by omega) h2 (by omega) (by omega), show ((a.toNat : Nat) : Int) + 0 = a by omega]
      rw [this]
    · simp (disch := omega) only [if_neg, w64]
      exact Ev.now _
  · simp only [if_neg h1, if_neg h2, h2, decide_false, Bool.not_false, firstV, if_true]; exact Ev.now _

theorem FnExactTakeNumber : laws_FnExactTakeNumber.Pure := by
  intro s a z hs ha hz
  have ha := w64_wf ha
  have hz := w64_wf hz
  refine Ev.rounds (g := fun k => laws_FnExactTakeNumber.f k s a z) ?_
  unfold laws_FnExactTakeNumber.f
  by_cases h : (s.size : Int) > 1048576
  · simp only [if_pos h]; exact Ev.now _
  simp only [if_neg h]
  refine ev_bind (specTakeNumber s a z (by omega) ha hz) (ev_bind (implTakeNumber s a z (by omega) ha hz) ?_)
  simp only [if_true]; exact Ev.now _
end Go.Proofs.Ytlphiljackccnaa.Pure
