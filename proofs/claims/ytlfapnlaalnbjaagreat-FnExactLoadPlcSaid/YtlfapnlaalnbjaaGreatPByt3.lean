/- Code, read from bytes. No condition. -/
import Derived.Test.YtlfapnlaalnbjaaGreatPByt2
import Derived.Test.YtlfapnlaalnbjaaGreatPNum2
set_option linter.unusedVariables false
set_option linter.unusedSimpArgs false
namespace Go.Ry
open Go.Proofs

theorem c_impl_hasOperand (op : Int) : TT n_impl_hasOperand [eI op] [] (eB (rangeOf op).2.2) [] := r_impl_hasOperand op ⟨_, _, _, c_impl_rangeOf op, rfl, rfl⟩
def step1 (rec : List Int → List Ins → Int × List Ins) (b a : Int) (l : List Int) (out : List Ins) : Int × List Ins :=
  if instrOK b a = true then if 40 ≤ out.length then (6, []) else rec l (out ++ [(b, (a, ()))]) else (4, [])
/-- What is read from the bytes l on, out being read already; n bounds the rounds. -/
def parse : Nat → List Int → List Ins → Int × List Ins
  | 0, _, out => (0, out)
  | _ + 1, [], out => (0, out)
  | n + 1, b :: l, out =>
    if isOp b = true then
      if (rangeOf b).2.2 = true then
        if l.length < 4 then (16, []) else step1 (parse n) b (numZ 4 l) (l.drop 4) out
      else step1 (parse n) b 0 l out
    else (11, [])
theorem parse_fuel : ∀ (n m : Nat) (l : List Int) (out : List Ins), l.length ≤ n → l.length ≤ m → parse n l out = parse m l out
  | 0, m, l, out, h, _ => by
    have : l = [] := List.eq_nil_of_length_eq_zero (by omega)
    subst this
    cases m <;> rfl
  | n + 1, 0, l, out, _, h => by
    have : l = [] := List.eq_nil_of_length_eq_zero (by omega)
    subst this
    rfl
  | n + 1, m + 1, [], out, _, _ => rfl
  | n + 1, m + 1, b :: l, out, h, k => by
    simp only [List.length_cons] at h k
    have e1 : ∀ o, parse n (l.drop 4) o = parse m (l.drop 4) o := fun o => parse_fuel n m _ o (by simp; omega) (by simp; omega)
    have e2 : ∀ o, parse n l o = parse m l o := fun o => parse_fuel n m _ o (by omega) (by omega)
    simp only [parse, step1, e1, e2]
theorem parse_nil (n : Nat) (out : List Ins) : parse n [] out = (0, out) := by cases n <;> rfl
theorem parse_len : ∀ (n : Nat) (l : List Int) (out : List Ins), out.length ≤ 40 → (parse n l out).2.length ≤ 40
  | 0, _, out, h => h
  | _ + 1, [], out, h => h
  | n + 1, b :: l, out, h => by
    have st : ∀ (a : Int) (q : List Int), (step1 (parse n) b a q out).2.length ≤ 40 := by
      intro a q
      unfold step1
      split
      · split
        · exact Nat.zero_le _
        · exact parse_len n q _ (by simp; omega)
      · exact Nat.zero_le _
    simp only [parse]
    split
    · split
      · split
        · exact Nat.zero_le _
        · exact st _ _
      · exact st _ _
    · exact Nat.zero_le _
@[reducible] def retC (p : Int × List Ins) : Ent := .tup [(false, [.row 0]), (false, [cI p.1])]
@[reducible] def retO (p : Int × List Ins) : List Ob := [.row t_impl_Instr tIns p.2]
def readB (l : List Int) : Int × List Ins := parse l.length l []
theorem readB_len (l : List Int) : (readB l).2.length ≤ 40 := parse_len _ _ _ (Nat.zero_le _)

theorem c_spec_l02ReadBytes (s : ByteArray) (hs : s.size ≤ 65536) : TT n_spec_l02ReadBytes [eS s] [] (retC (readB (bytesL s))) (retO (readB (bytesL s))) := by
  have hb := bytesL_size s
  refine r_spec_l02ReadBytes s ⟨fun m i r => 0 ≤ i ∧ i ≤ s.size ∧ m = (s.size - i).toNat ∧ r.length ≤ 40 ∧ readB (bytesL s) = parse m ((bytesL s).drop i.toNat) r, ⟨_, rfl, by omega, by omega, rfl, by simp, by simp [readB, hb]⟩, ?_⟩
  rintro m i r ⟨h5, h6, rfl, h7, h8⟩
  refine ifP (fun hlt => ⟨⟨h5, hlt⟩, ?_⟩) (fun hge => ?_)
  · obtain ⟨k, hk⟩ : ∃ k, ((s.size : Int) - i).toNat = k + 1 := ⟨((s.size : Int) - i).toNat - 1, by omega⟩
    have b0 := bytes_at (s := s) (i := i.toNat)
    rw [hk, drop_getD (by omega) 0] at h8
    simp only [parse] at h8
    rw [w64 (x := (bytesL s).getD i.toNat 0) (by omega), w64 (x := i + 1) (by omega)]
    refine ⟨_, c_spec_l02Op _, ifB_cases (fun hn => ?_) (fun hn => ?_)⟩
    · rw [if_neg (by rw [notT hn]; simp)] at h8
      rw [h8]; exact ⟨rfl, rfl⟩
    rw [if_pos (notF hn)] at h8
    refine ⟨fun j q op a => 0 ≤ j ∧ j ≤ s.size ∧ i < j ∧ r = q ∧ readB (bytesL s) = step1 (parse k) op a ((bytesL s).drop j.toNat) r, ⟨_, _, _, c_spec_l02Has _, ifB_cases (fun hh => ?_) (fun hh => ?_)⟩, ?_⟩
    · rw [if_pos hh] at h8
      rw [w64 (x := (s.size : Int) - (i + 1)) (by omega)]
      refine ifP (fun hl => ?_) (fun hl => ?_)
      · rw [if_pos (by simp; omega)] at h8
        rw [h8]; exact ⟨rfl, rfl⟩
      · rw [if_neg (by simp; omega)] at h8
        refine ⟨_, by have := c_spec_l01Take s (i.toNat + 1) 4 (by simp [isZ]) (by omega) (by omega); rw [show ((i.toNat + 1 : Nat) : Int) = i + 1 by omega] at this; exact this, rfl, ?_, ?_, ?_, rfl, ?_⟩
        all_goals rw [w64 (x := i + 1 + 4) (by omega)]
        · omega
        · omega
        · omega
        · rw [h8, List.drop_drop, show (i + 1 + 4).toNat = i.toNat + 1 + 4 by omega]
    · rw [if_neg (by rw [hh]; simp)] at h8
      exact ⟨rfl, by omega, by omega, by omega, rfl, by rw [h8, show (i + 1).toNat = i.toNat + 1 by omega]⟩
    · rintro j _ op a ⟨h9, h10, h11, rfl, h12⟩
      unfold step1 at h12
      refine ⟨_, c_spec_l02OK _ _, ifB_cases (fun hn => ?_) (fun hn => ⟨by simp; omega, ?_⟩)⟩
      · rw [if_neg (by rw [notT hn]; simp)] at h12
        rw [h12]; exact ⟨rfl, rfl⟩
      · rw [if_pos (notF hn)] at h12
        refine ifP (fun hl => ?_) (fun hl => ?_)
        · simp at hl
          rw [if_pos (by omega)] at h12
          rw [h12]; exact ⟨rfl, rfl⟩
        · simp at hl
          rw [if_neg (by omega)] at h12
          refine ⟨_, ?_, rfl, h9, h10, rfl, by simp; omega, ?_⟩
          · omega
          · rw [h12]; exact parse_fuel _ _ _ _ (by simp; omega) (by simp; omega)
  · rw [List.drop_eq_nil_of_le (by omega), parse_nil] at h8
    rw [h8]; exact ⟨rfl, rfl⟩
theorem c_impl_readCode (s : ByteArray) (hs : s.size ≤ 65536) : TT n_impl_readCode [eS s] [] (retC (readB (bytesL s))) (retO (readB (bytesL s))) := by
  refine r_impl_readCode s ⟨fun m t r => m = t.size ∧ t.size ≤ s.size ∧ r.length ≤ 40 ∧ readB (bytesL s) = parse t.size (bytesL t) r, ⟨_, rfl, by omega, by simp, by rw [readB, bytesL_size]⟩, ?_⟩
  rintro m t r ⟨rfl, h5, h7, h8⟩
  have hb := bytesL_size t
  refine ifP (fun hgt => ?_) (fun hge => ?_)
  · obtain ⟨k, hk⟩ : ∃ k, t.size = k + 1 := ⟨t.size - 1, by omega⟩
    have b0 := bytes_at (s := t) (i := 0)
    have hc : bytesL t = (bytesL t).getD 0 0 :: (bytesL t).drop 1 := by
      have := drop_getD (l := bytesL t) (i := 0) (by omega) 0
      simpa using this
    rw [hk, hc] at h8
    simp only [parse] at h8
    refine ⟨⟨by omega, by omega⟩, ⟨by omega, by omega, by omega⟩, ?_⟩
    rw [show Int.toNat 0 = 0 by rfl, w64 (x := (bytesL t).getD 0 0) (by omega), show Int.toNat 1 = 1 by rfl, show (t.size : Int).toNat = t.size by omega]
    have ht1 : (t.extract 1 t.size).size = t.size - 1 := by rw [ByteArray.size_extract]; omega
    have ht1' : bytesL (t.extract 1 t.size) = (bytesL t).drop 1 := by
      rw [bytes_extract t (Nat.le_refl _), List.take_of_length_le (by omega)]
    refine ⟨_, c_impl_isOp _, ifB_cases (fun hn => ?_) (fun hn => ?_)⟩
    · rw [if_neg (by rw [notT hn]; simp)] at h8
      rw [h8]; exact ⟨rfl, rfl⟩
    rw [if_pos (notF hn)] at h8
    refine ⟨fun u q op a => u.size < t.size ∧ r = q ∧ readB (bytesL s) = step1 (parse k) op a (bytesL u) r, ⟨_, c_impl_hasOperand _, ifB_cases (fun hh => ?_) (fun hh => ?_)⟩, ?_⟩
    · rw [if_pos hh] at h8
      rw [ht1]
      refine ifP (fun hl => ?_) (fun hl => ?_)
      · rw [if_pos (by simp; omega)] at h8
        rw [h8]; exact ⟨rfl, rfl⟩
      · rw [if_neg (by simp; omega)] at h8
        rw [show Int.toNat 4 = 4 by rfl, show (((t.size - 1 : Nat) : Int)).toNat = t.size - 1 by omega]
        have ht2 : ((t.extract 1 t.size).extract 0 4).size = 4 := by rw [ByteArray.size_extract, ht1]; omega
        have e4 : numZ 4 (bytesL ((t.extract 1 t.size).extract 0 4)) = numZ 4 ((bytesL t).drop 1) := by
          rw [bytes_extract _ (by omega), ht1', numZ, numZ, List.drop_zero, List.take_take]; rfl
        have k4 := c_impl_take _ (by rw [ht2]; simp [isZ])
        rw [ht2, e4] at k4
        refine ⟨⟨by omega, by omega, by omega⟩, ⟨by omega, by omega, by omega⟩, _, k4, ?_, rfl, ?_⟩
        · rw [ByteArray.size_extract, ht1]; omega
        · rw [h8, bytes_extract _ (by omega), ht1', List.take_of_length_le (by simp; omega)]
    · rw [if_neg (by rw [hh]; simp)] at h8
      exact ⟨by omega, rfl, by rw [h8, ht1']⟩
    · rintro u _ op a ⟨h9, rfl, h12⟩
      have hub := bytesL_size u
      unfold step1 at h12
      refine ⟨_, c_impl_InstrOK _ _, _, c_impl_when _ _, _, c_impl_when _ _, _, c_impl_first _ (by simp), ?_⟩
      cases hi : instrOK op a
      · rw [if_neg (by rw [hi]; simp)] at h12
        refine ifN (fun _ => ?_) (fun he => by simp [firstOf_] at he)
        rw [h12]
        exact ⟨by simp [firstOf_], rfl⟩
      · rw [if_pos hi] at h12
        by_cases hl : r.length = 40
        · rw [if_pos (by omega)] at h12
          refine ifN (fun _ => ?_) (fun he => by simp [firstOf_, hl] at he)
          rw [h12]
          exact ⟨by simp [firstOf_, hl], rfl⟩
        · rw [if_neg (by omega)] at h12
          have hl' : ((r.length : Int) == 40) = false := by simp; omega
          refine ifN (fun he => by simp [firstOf_, hl'] at he) (fun _ => ⟨by simp; omega, _, ?_, rfl, by omega, by simp; omega, ?_⟩)
          · omega
          · rw [h12]; exact parse_fuel _ _ _ _ (by omega) (by omega)
  · have : bytesL t = [] := List.eq_nil_of_length_eq_zero (by omega)
    rw [this, parse_nil] at h8
    rw [h8]; exact ⟨rfl, rfl⟩
end Go.Ry
