/- Frames, read. No condition. -/
import Derived.Test.YtlfapnlaalnbjaaGreatPByt1
set_option linter.unusedVariables false
set_option linter.unusedSimpArgs false
namespace Go.Ry
open Go.Proofs

theorem toBytes {l : List Int} (h : isB l) : bytesL (strL l) = l := by
  induction l with
  | nil => rfl
  | cons x l ih =>
    have hx := h x (by simp)
    have := ih (fun y hy => h y (by simp [hy]))
    simp only [bytesL, strL, List.map_cons, List.toList_toArray] at this ⊢
    rw [this]
    have e : ((UInt8.ofNat x.toNat).toNat : Int) = x := by
      rw [UInt8.toNat_ofNat']; omega
    rw [e]
theorem strL_size (l : List Int) : (strL l).size = l.length := by simp [strL, ByteArray.size]
theorem strL_bytesL (s : ByteArray) : strL (bytesL s) = s := bytesL_inj (toBytes (bytesL_isB s))
theorem c_impl_long (s : ByteArray) : TT n_impl_long [eS s] [] (eI (if 65536 < s.size then 2 else 0)) [] := by
  refine r_impl_long s ⟨_, c_impl_when _ 2, ?_, rfl⟩
  simp only [decide_eq_true_eq, gt_iff_lt]
  by_cases h : 65536 < s.size
  · rw [if_pos h, if_pos (by omega)]
  · rw [if_neg h, if_neg (by omega)]

/-- The code of what is read as a frame. -/
def frameE (l : List Int) : Int :=
  if l.length < 10 then 16 else if l.take 4 ≠ [80, 76, 67, 49] then 3 else if numZ 4 (l.drop 4) ≠ (l.length : Int) - 10 then 8
  else if numZ 2 (l.drop (l.length - 2)) ≠ sumL 1 (l.take (l.length - 2)) then 9 else 0
def frameS (s : ByteArray) : ByteArray := if frameE (bytesL s) = 0 then s.extract 8 (s.size - 2) else ⟨#[]⟩
@[reducible] def strI (s : ByteArray) (n : Int) : Ent := .tup [(false, [.str s]), (false, [cI n])]
theorem magicA_bytes : bytesL (⟨#[80, 76, 67, 49]⟩ : ByteArray) = [80, 76, 67, 49] := by decide
theorem magic_eq (s : ByteArray) (h : 4 ≤ s.size) : (ByteArray.toList (s.extract (Int.toNat 0) (Int.toNat 4)) == ByteArray.toList (⟨#[80, 76, 67, 49]⟩ : ByteArray)) = decide ((bytesL s).take 4 = [80, 76, 67, 49]) := by
  rw [toList_beq, decide_eq_decide, bytesL_iff, bytes_extract s (by simpa using h), magicA_bytes]; rfl
theorem c_spec_l01ReadFrame (s : ByteArray) (h : s.size ≤ 65536) : TT n_spec_l01ReadFrame [eS s] [] (strI (frameS s) (frameE (bytesL s))) [] := by
  have hlen := bytesL_size s
  refine r_spec_l01ReadFrame s ?_
  unfold v_spec_l01ReadFrame frameS frameE
  rw [hlen]
  refine ifP (fun h10 => ?_) (fun h10 => ?_)
  · rw [if_pos (show s.size < 10 by omega)]; exact ⟨rfl, rfl⟩
  rw [if_neg (show ¬ s.size < 10 by omega), magic_eq s (by omega)]
  refine ⟨⟨by omega, by omega, by omega⟩, ifB_cases (fun c1 => ?_) (fun c1 => ?_)⟩
  · have c1 : (bytesL s).take 4 ≠ [80, 76, 67, 49] := of_decide_eq_false (notT c1)
    rw [if_pos c1]; exact ⟨rfl, rfl⟩
  have c1 : (bytesL s).take 4 = [80, 76, 67, 49] := of_decide_eq_true (notF c1)
  rw [if_neg (show ¬ (bytesL s).take 4 ≠ [80, 76, 67, 49] by simp [c1])]
  have t1 := c_spec_l01Take s 4 4 (by simp [isZ]) (by omega) h
  have t2 := c_spec_l01Take s (s.size - 2) 2 (by simp [isZ]) (by omega) h
  have u := c_spec_l01Sum (s.extract 0 (s.size - 2)) (by rw [ByteArray.size_extract]; omega)
  rw [bytes_extract s (by omega), List.drop_zero] at u
  rw [show ((s.size - 2 : Nat) : Int) = (s.size : Int) - 2 by omega] at t2
  rw [w64 (x := (s.size : Int) - 2) (by omega), w64 (x := (s.size : Int) - 10) (by omega), show ((s.size : Int) - 2).toNat = s.size - 2 by omega]
  refine ⟨_, t1, ifN (fun c2 => ?_) (fun c2 => ⟨⟨by omega, by omega, by omega⟩, _, t2, _, u, ifN (fun c3 => ?_) (fun c3 => ⟨⟨by omega, by omega, by omega⟩, ?_⟩)⟩)⟩
  · rw [if_pos c2]; exact ⟨rfl, rfl⟩
  · rw [if_neg (not_not_intro c2), if_pos c3]; exact ⟨rfl, rfl⟩
  · rw [if_neg (not_not_intro c2), if_neg (not_not_intro c3)]; exact ⟨rfl, rfl⟩
theorem c_impl_ReadFrame_long (s : ByteArray) (h : 65536 < s.size) : TT n_impl_ReadFrame [eS s] [] (strI ⟨#[]⟩ 2) [] := by
  have k0 := c_impl_long s
  rw [if_pos h] at k0
  have k1 := c_impl_when (decide ((s.size : Int) < 10)) 16
  refine r_impl_ReadFrame s ⟨_, k0, _, k1, _, c_impl_first _ (by simp), ?_⟩
  exact ifB_t (by simp [firstOf_]) ⟨by simp [firstOf_], rfl⟩
theorem c_impl_ReadFrame (s : ByteArray) (h : s.size ≤ 65536) : TT n_impl_ReadFrame [eS s] [] (strI (frameS s) (frameE (bytesL s))) [] := by
  have hlen := bytesL_size s
  have k0 := c_impl_long s
  rw [if_neg (by omega)] at k0
  have k1 := c_impl_when (decide ((s.size : Int) < 10)) 16
  refine r_impl_ReadFrame s ⟨_, k0, _, k1, _, c_impl_first _ (by simp), ?_⟩
  by_cases h10 : s.size < 10
  · have e : frameE (bytesL s) = 16 := by unfold frameE; rw [if_pos (by omega)]
    rw [if_pos (by simp; omega)]
    refine ifB_t (by simp [firstOf_]) ?_
    unfold frameS
    rw [e]; exact ⟨rfl, rfl⟩
  rw [if_neg (by simp; omega)]
  refine ifN_f rfl ⟨⟨by omega, by omega, by omega⟩, ⟨by omega, by omega, by omega⟩, ?_⟩
  rw [w64 (x := (s.size : Int) - 2) (by omega), w64 (x := (s.size : Int) - 10) (by omega), show ((s.size : Int) - 2).toNat = s.size - 2 by omega, show Int.toNat (s.size : Int) = s.size by omega]
  have z1 : (s.extract 4 8).size = 4 := by rw [ByteArray.size_extract]; omega
  have z2 : (s.extract (s.size - 2) s.size).size = 2 := by rw [ByteArray.size_extract]; omega
  have t1 := c_impl_take (s.extract 4 8) (by rw [z1]; simp [isZ])
  have t2 := c_impl_take (s.extract (s.size - 2) s.size) (by rw [z2]; simp [isZ])
  have u := c_impl_SumOf (s.extract 0 (s.size - 2)) (by rw [ByteArray.size_extract]; omega)
  have n1 : numZ 4 (bytesL (s.extract 4 8)) = numZ 4 ((bytesL s).drop 4) := by
    unfold numZ
    rw [bytes_extract s (by omega), List.drop_take, List.take_take]; rfl
  have n2 : numZ 2 (bytesL (s.extract (s.size - 2) s.size)) = numZ 2 ((bytesL s).drop (s.size - 2)) := by
    unfold numZ
    rw [bytes_extract s (by omega), List.drop_take, List.take_take, show min 2 (s.size - (s.size - 2)) = 2 by omega]
  rw [z1, n1] at t1
  rw [z2, n2] at t2
  rw [bytes_extract s (by omega), List.drop_zero] at u
  rw [magic_eq s (by omega)]
  refine ⟨⟨by omega, by omega, by omega⟩, ⟨by omega, by omega, by omega⟩, _, c_impl_when _ _, _, t1, _, c_impl_when _ _, _, t2, _, u, _, c_impl_when _ _, _, c_impl_first _ (by simp), ?_⟩
  unfold frameS frameE
  rw [if_neg (show ¬ (bytesL s).length < 10 by omega), hlen]
  by_cases c1 : (bytesL s).take 4 = [80, 76, 67, 49]
  · rw [if_neg (show ¬ (!decide ((bytesL s).take 4 = [80, 76, 67, 49])) = true by simp [c1]), if_neg (show ¬ (bytesL s).take 4 ≠ [80, 76, 67, 49] by simp [c1])]
    by_cases c2 : numZ 4 ((bytesL s).drop 4) = (s.size : Int) - 10
    · rw [if_neg (show ¬ numZ 4 ((bytesL s).drop 4) ≠ (s.size : Int) - 10 by simp [c2])]
      rw [if_neg (show ¬ (numZ 4 ((bytesL s).drop 4) != (s.size : Int) - 10) = true by simp [c2])]
      by_cases c3 : numZ 2 ((bytesL s).drop (s.size - 2)) = sumL 1 ((bytesL s).take (s.size - 2))
      · rw [if_neg (show ¬ (numZ 2 ((bytesL s).drop (s.size - 2)) != sumL 1 ((bytesL s).take (s.size - 2))) = true by simp [c3]), if_neg (show ¬ numZ 2 ((bytesL s).drop (s.size - 2)) ≠ sumL 1 ((bytesL s).take (s.size - 2)) by simp [c3])]
        exact ifN_f rfl ⟨⟨by omega, by omega, by omega⟩, rfl, rfl⟩
      · rw [if_pos (show (numZ 2 ((bytesL s).drop (s.size - 2)) != sumL 1 ((bytesL s).take (s.size - 2))) = true by simp [c3]), if_pos (show numZ 2 ((bytesL s).drop (s.size - 2)) ≠ sumL 1 ((bytesL s).take (s.size - 2)) from c3)]
        exact ifB_t rfl ⟨rfl, rfl⟩
    · rw [if_pos (show numZ 4 ((bytesL s).drop 4) ≠ (s.size : Int) - 10 from c2), if_pos (show (numZ 4 ((bytesL s).drop 4) != (s.size : Int) - 10) = true by simp [c2])]
      exact ifB_t rfl ⟨rfl, rfl⟩
  · rw [if_pos (show (!decide ((bytesL s).take 4 = [80, 76, 67, 49])) = true by simp [c1]), if_pos (show (bytesL s).take 4 ≠ [80, 76, 67, 49] from c1)]
    exact ifB_t rfl ⟨rfl, rfl⟩
end Go.Ry
