/- For every text, the program's ReadFrame answers what the reference's ReadFrame answers. No condition. -/
import Derived.Test.YtlphiljackccnaaPFnExactReadFramex
import Derived.Test.YtlphiljackccnaaBase
set_option linter.unusedSimpArgs false
set_option linter.unusedVariables false
namespace Go.Proofs.Ytlphiljackccnaa.Pure
open Go.RowKit Go.Proofs.Ytlphiljackccnaa.PFnExactReadFrame Go.Proofs.YtlphiljackccnaaW.PrintWords Go.Proofs.YtlphiljackccnaaW.PrintLast Go.Proofs.YtlphiljackccnaaW.PrintMore Go.Proofs.YtlphiljackccnaaB
theorem specTake (s : ByteArray) (a z : Int) (hs : (s.size : Int) ≤ 140737488351232) (ha : 0 ≤ a) (hz : z = 1 ∨ z = 2 ∨ z = 4) (hf : a + z ≤ s.size) :
    Ev (fun k => spec_l01Take.f k s a z) (takeV s a z) := by
  have h0 := bt_range s a
  have h1 := bt_range s (a + 1)
  have h2 := bt_range s (a + 2)
  have h3 := bt_range s (a + 3)
  refine ev_of 5 (fun k hk => ?_)
  obtain ⟨k, rfl⟩ : ∃ j, k = j + 5 := ⟨k - 5, by omega⟩
  unfold spec_l01Take.f
  have e1 : a + 2 - 1 = a + 1 := by omega
  have e2 : a + 4 - 1 = a + 3 := by omega
  have e3 : a + 1 - 1 = a := by omega
  rcases hz with rfl | rfl | rfl
  · iterate 2 (rw [spec_l01Take.l0]; simp (disch := omega) only [if_pos, if_neg, w64, e1, e2, e3, Int.reduceSub, Int.add_zero])
    simp (disch := omega) only [Int.reduceMul, shl_8, u64_8, if_pos, if_neg, w64, takeV, if_true, if_false]
    split <;> congr 1 <;> omega
  · iterate 3 (rw [spec_l01Take.l0]; simp (disch := omega) only [if_pos, if_neg, w64, e1, e2, e3, Int.reduceSub, Int.add_zero])
    simp (disch := omega) only [Int.reduceMul, shl_16, u64_16, if_pos, if_neg, w64, takeV, if_true, if_false]
    split <;> congr 1 <;> omega
  · iterate 5 (rw [spec_l01Take.l0]; simp (disch := omega) only [if_pos, if_neg, w64, e1, e2, e3, Int.reduceSub, Int.add_zero])
    simp (disch := omega) only [Int.reduceMul, shl_32, u64_32, if_pos, if_neg, w64, takeV, if_true, if_false]
    split <;> congr 1 <;> omega

theorem implTake (s : ByteArray) (hz : s.size = 1 ∨ s.size = 2 ∨ s.size = 4) :
    Ev (fun k => impl_take.f k s) (takeV s 0 s.size) := by
  have h0 := bt_range s 0
  have h1 := bt_range s 1
  have h2 := bt_range s 2
  have h3 := bt_range s 3
  refine ev_of 5 (fun k hk => ?_)
  obtain ⟨k, rfl⟩ : ∃ j, k = j + 5 := ⟨k - 5, by omega⟩
  unfold impl_take.f
  rcases hz with hz | hz | hz
  · have hz' : (s.size : Int) = 1 := by omega
    rw [hz']
    iterate 2 (rw [impl_take.l0]; simp (disch := omega) only [if_pos, if_neg, w64, hz', Int.reduceMul, Int.reduceSub, or_byte, or_zero, shl_7])
    simp (disch := omega) only [takeV, if_pos, if_neg, w64, if_true, if_false, Int.zero_add]
    split <;> rfl
  · have hz' : (s.size : Int) = 2 := by omega
    rw [hz']
    iterate 3 (rw [impl_take.l0]; simp (disch := omega) only [if_pos, if_neg, w64, hz', Int.reduceMul, Int.reduceSub, or_byte, or_zero, shl_15])
    simp (disch := omega) only [takeV, if_pos, if_neg, w64, if_true, if_false, Int.zero_add]
    split <;> split <;> first | (congr 1; omega) | omega
  · have hz' : (s.size : Int) = 4 := by omega
    rw [hz']
    iterate 5 (rw [impl_take.l0]; simp (disch := omega) only [if_pos, if_neg, w64, hz', Int.reduceMul, Int.reduceSub, or_byte, or_zero, shl_31])
    simp (disch := omega) only [takeV, if_pos, if_neg, w64, if_true, if_false, Int.zero_add]
    split <;> split <;> first | (congr 1; omega) | omega

def firstV : List Int → Int
  | [] => 0
  | c :: l => if c = 0 then firstV l else c
theorem first_from (l : List Int) (hl : (l.length : Int) ≤ 140737488351232) : ∀ (d : Nat) (i : Nat), i + d = l.length → ∀ k, d < k → impl_first.l0 k l l.length i = some (firstV (l.drop i)) := by
  intro d
  induction d with
  | zero =>
    intro i hi k hk
    obtain ⟨k, rfl⟩ : ∃ j, k = j + 1 := ⟨k - 1, by omega⟩
    rw [impl_first.l0, if_neg (by omega), List.drop_eq_nil_of_le (by omega)]; rfl
  | succ d ih =>
    intro i hi k hk
    obtain ⟨k, rfl⟩ : ∃ j, k = j + 1 := ⟨k - 1, by omega⟩
    have hlt : i < l.length := by omega
    have hr : rd l i = l[i] := by simp [rd, List.getD, hlt]
    rw [impl_first.l0, if_pos (by omega), if_pos (by omega), if_pos (by omega), hr, w64 (x := (i : Int) + 1) (by omega), List.drop_eq_getElem_cons hlt, firstV]
    split
    · exact ih (i + 1) (by omega) k (by omega)
    · rfl
theorem implFirst (l : List Int) (hl : (l.length : Int) ≤ 140737488351232) : Ev (fun k => impl_first.f k l) (firstV l) := by
  refine ev_of (l.length + 1) (fun k hk => ?_)
  unfold impl_first.f
  have := first_from l hl l.length 0 (by omega) k (by omega)
  simpa using this

theorem implWhen (b : Bool) (c : Int) : impl_when.f b c = some (if b = true then c else 0) := by unfold impl_when.f; split <;> rfl
theorem implLong (s : ByteArray) : impl_long.f s = some (if (s.size : Int) > 65536 then 2 else 0) := by
  unfold impl_long.f; rw [implWhen]; simp

/-- The checksum of the first n bytes. -/
def sumTo (s : ByteArray) : Nat → Int
  | 0 => 1
  | n + 1 => Int.tmod (31 * sumTo s n + bt s n) 32749
theorem sumTo_range (s : ByteArray) : ∀ n, 0 ≤ sumTo s n ∧ sumTo s n < 32749
  | 0 => by simp [sumTo]
  | n + 1 => by
    have ih := sumTo_range s n
    have b := bt_range s n
    rw [sumTo, Int.tmod_eq_emod_of_nonneg (by omega)]; omega
theorem sumTo_extract (s : ByteArray) (e : Nat) (h : e ≤ s.size) : ∀ n, n ≤ e → sumTo (s.extract 0 e) n = sumTo s n
  | 0, _ => rfl
  | n + 1, hn => by rw [sumTo, sumTo, sumTo_extract s e h n (by omega), bt_extract (by omega) (by omega) h, show (((0 : Nat) : Int) + (n : Int)) = (n : Int) by omega]
theorem sumV_extract (s : ByteArray) (e : Nat) (h : e ≤ s.size) : sumTo (s.extract 0 e) (s.extract 0 e).size = sumTo s e := by
  have hz : (s.extract 0 e).size = e := by rw [size_extract h]; omega
  rw [hz]; exact sumTo_extract s e h e (Nat.le_refl _)
theorem specSum_from (s : ByteArray) (hs : (s.size : Int) ≤ 140737488351232) : ∀ (d i : Nat), i + d = s.size → ∀ k, d < k → spec_l01Sum.l0 k s (sumTo s i) i = some (sumTo s s.size) := by
  intro d
  induction d with
  | zero =>
    intro i hi k hk
    obtain ⟨k, rfl⟩ : ∃ j, k = j + 1 := ⟨k - 1, by omega⟩
    rw [spec_l01Sum.l0, if_neg (by omega), show i = s.size by omega]
  | succ d ih =>
    intro i hi k hk
    obtain ⟨k, rfl⟩ : ∃ j, k = j + 1 := ⟨k - 1, by omega⟩
    have r := sumTo_range s i
    have b := bt_range s i
    rw [spec_l01Sum.l0, if_pos (by omega), if_pos (by omega), w64 (x := 31 * _) (by omega), w64 (x := bt _ _) (by omega), w64 (x := 31 * _ + _) (by omega), w64 (x := (i : Int) + 1) (by omega)]
    exact ih (i + 1) (by omega) k (by omega)
theorem specSum (s : ByteArray) (hs : (s.size : Int) ≤ 140737488351232) : Ev (fun k => spec_l01Sum.f k s) (sumTo s s.size) := by
  refine ev_of (s.size + 1) (fun k hk => ?_)
  exact specSum_from s hs s.size 0 (by omega) k (by omega)
theorem implSum_from (s : ByteArray) (hs : (s.size : Int) ≤ 140737488351232) : ∀ (d i : Nat), i + d = s.size → ∀ k, d < k → impl_SumOf.l0 k s (sumTo s i) s.size i = some (sumTo s s.size) := by
  intro d
  induction d with
  | zero =>
    intro i hi k hk
    obtain ⟨k, rfl⟩ : ∃ j, k = j + 1 := ⟨k - 1, by omega⟩
    rw [impl_SumOf.l0, if_neg (by omega), show i = s.size by omega]
  | succ d ih =>
    intro i hi k hk
    obtain ⟨k, rfl⟩ : ∃ j, k = j + 1 := ⟨k - 1, by omega⟩
    have r := sumTo_range s i
    have b := bt_range s i
    rw [impl_SumOf.l0, if_pos (by omega), if_pos (by omega), if_pos (by omega), w64 (x := 31 * _) (by omega), w64 (x := bt _ _) (by omega), w64 (x := 31 * _ + _) (by omega), w64 (x := (i : Int) + 1) (by omega)]
    exact ih (i + 1) (by omega) k (by omega)
theorem implSum (s : ByteArray) : Ev (fun k => impl_SumOf.f k s) (if (s.size : Int) > 65536 then 0 else sumTo s s.size) := by
  unfold impl_SumOf.f
  by_cases h : (s.size : Int) > 65536
  · simp only [if_pos h]; exact Ev.now _
  · simp only [if_neg h]
    refine ev_of (s.size + 1) (fun k hk => ?_)
    exact implSum_from s (by omega) s.size 0 (by omega) k (by omega)

/-- What a frame's text reads as: the payload and the code. -/
def readFrameV (s : ByteArray) : ByteArray × Int :=
  if (s.size : Int) < 10 then (⟨#[]⟩, 16)
  else if (s.extract 0 4).toList = ([80, 76, 67, 49] : List UInt8) then
    (if takeV s 4 4 = s.size - 10 then
      (if takeV s (s.size - 2) 2 = sumTo s (s.size - 2) then (s.extract 8 (s.size - 2), 0) else (⟨#[]⟩, 9))
     else (⟨#[]⟩, 8))
  else (⟨#[]⟩, 3)
theorem specReadFrame0 (s : ByteArray) (hs : (s.size : Int) ≤ 140737488351232) : Ev (fun k => spec_l01ReadFrame.f k s) (readFrameV s) := by
  unfold spec_l01ReadFrame.f readFrameV
  by_cases h1 : (s.size : Int) < 10
  · simp only [if_pos h1]; exact Ev.now _
  simp (disch := omega) only [if_neg h1, if_pos, w64]
  by_cases h2 : (s.extract 0 4).toList = ([80, 76, 67, 49] : List UInt8)
  · simp only [if_pos h2]
    refine ev_bind (specTake s 4 4 hs (by omega) (by omega) (by omega)) ?_
    by_cases h3 : takeV s 4 4 = s.size - 10
    · simp only [if_pos h3]
      refine ev_bind (specTake s _ 2 hs (by omega) (by omega) (by omega)) ?_
      have hn : ((s.size : Int) - 2).toNat = s.size - 2 := by omega
      rw [hn]
      refine ev_bind (specSum _ (by rw [size_extract (by omega)]; omega)) ?_
      rw [sumV_extract s _ (by omega)]
      exact ev_ite
    · simp only [if_neg h3]; exact Ev.now _
  · simp only [if_neg h2]; exact Ev.now _
theorem specReadFrame (s : ByteArray) (hs : (s.size : Int) ≤ 140737488351232) : Ev (fun k => spec_ReadFrame.f k s) (if (s.size : Int) > 65536 then (⟨#[]⟩, 2) else readFrameV s) := by
  unfold spec_ReadFrame.f
  by_cases h : (s.size : Int) > 65536
  · simp only [if_pos h]; exact Ev.now _
  · simp only [if_neg h]; exact ev_bind (specReadFrame0 s hs) (Ev.now _)
theorem implReadFrame (s : ByteArray) (hs : (s.size : Int) ≤ 140737488351232) : Ev (fun k => impl_ReadFrame.f k s) (if (s.size : Int) > 65536 then (⟨#[]⟩, 2) else readFrameV s) := by
  unfold impl_ReadFrame.f readFrameV
  simp only [implLong, implWhen, Option.bind_some]
  refine ev_bind (implFirst _ (by simp)) ?_
  by_cases h0 : (s.size : Int) > 65536
  · simp only [if_pos h0, firstV]; exact Ev.now _
  by_cases h1 : (s.size : Int) < 10
  · simp only [if_neg h0, if_pos h1, firstV, decide_eq_true_eq, if_true, Int.reduceEq, if_false]; exact Ev.now _
  simp (disch := omega) only [if_neg h0, if_neg h1, firstV, decide_eq_true_eq, if_true, if_pos, w64]
  have z1 : (s.extract 4 8).size = 4 := by rw [size_extract (by omega)]
  have hn : ((s.size : Int) - 2).toNat = s.size - 2 := by omega
  have z2 : (s.extract (s.size - 2) s.size).size = 2 := by rw [size_extract (by omega)]; omega
  have t1 : takeV (s.extract 4 8) 0 (s.extract 4 8).size = takeV s 4 4 := by rw [z1]; exact takeV_extract (by omega) (by omega) (by omega) (by omega)
  have t2 : takeV (s.extract (s.size - 2) s.size) 0 (s.extract (s.size - 2) s.size).size = takeV s (s.size - 2) 2 := by
    rw [z2]; refine (takeV_extract (by omega) (by omega) (by omega) (by omega)).trans ?_
    rw [show (((s.size - 2 : Nat) : Int) + 0) = (s.size : Int) - 2 by omega]; rfl
  refine ev_bind (implTake _ (by omega)) ?_
  rw [t1, hn]
  refine ev_bind (implTake _ (by omega)) ?_
  rw [t2]
  refine ev_bind (implSum _) ?_
  have z3 : ¬ ((s.extract 0 (s.size - 2)).size : Int) > 65536 := by rw [size_extract (by omega)]; omega
  rw [sumV_extract s _ (by omega), if_neg z3]
  refine ev_bind (implFirst _ (by simp)) ?_
  by_cases h2 : (s.extract 0 4).toList = ([80, 76, 67, 49] : List UInt8)
  · by_cases h3 : takeV s 4 4 = s.size - 10
    · by_cases h4 : takeV s (s.size - 2) 2 = sumTo s (s.size - 2)
      · simp [h2, h3, h4, firstV]; exact Ev.now _
      · simp [h2, h3, h4, firstV]; exact Ev.now _
    · simp [h2, h3, firstV]; exact Ev.now _
  · simp [h2, firstV]; exact Ev.now _

theorem FnExactReadFrame : laws_FnExactReadFrame.Pure := by
  intro s hs
  refine Ev.rounds (g := fun k => laws_FnExactReadFrame.f k s) ?_
  unfold laws_FnExactReadFrame.f
  by_cases h : (s.size : Int) > 1048576
  · simp only [if_pos h]; exact Ev.now _
  simp only [if_neg h]
  refine ev_bind (specReadFrame s (by omega)) (ev_bind (implReadFrame s (by omega)) ?_)
  simp only [if_true]; exact Ev.now _
end Go.Proofs.Ytlphiljackccnaa.Pure
