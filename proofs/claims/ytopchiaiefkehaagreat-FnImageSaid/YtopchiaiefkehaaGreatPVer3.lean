/- The verifiers: one instruction (2). No condition. -/
import Derived.Test.YtopchiaiefkehaaGreatPVer2
set_option linter.unusedVariables false
set_option linter.unusedSimpArgs false
namespace Go.Ry
open Go.Proofs

theorem effect_size (op a : Int) (ks : List Int) : (effect op a ks).1.size ≤ 3 ∧ (effect op a ks).2.size ≤ 1 := by
  have ht : ∀ k, (takes k).size ≤ 3 := by
    intro k
    unfold takes takesL
    generalize Int.toNat (k - 1) = i
    match i with
    | 0 => decide
    | 1 => decide
    | 2 => decide
    | 3 => decide
    | n + 4 => simp; decide
  unfold effect
  split
  · decide
  split
  · decide
  split
  · decide
  split
  · decide
  split
  · decide
  split
  · decide
  split
  · decide
  split
  · decide
  split
  · decide
  split
  · exact ⟨ht _, by show bB.size ≤ 1; decide⟩
  · decide

/-! ### the program's -/
def stepI (at_ op a : Int) (ks : List Int) (n : Int) (s : ByteArray) (o : List OI) : Int × ByteArray × List OI :=
  if (op = 19 ∨ op = 20) ∧ (ks.length : Int) ≤ a then (5, s, o)
  else if op = 26 ∧ n ≤ a then (15, s, o)
  else if (s.size : Int) - (effect op a ks).1.size < baseI o then (13, s, o)
  else if s.extract (s.size - (effect op a ks).1.size) s.size ≠ (effect op a ks).1 then (12, s, o)
  else if (s.extract 0 (s.size - (effect op a ks).1.size) ++ (effect op a ks).2).size > 8 then (7, s.extract 0 (s.size - (effect op a ks).1.size) ++ (effect op a ks).2, o)
  else ((nestI at_ op (s.extract 0 (s.size - (effect op a ks).1.size) ++ (effect op a ks).2) o).1, s.extract 0 (s.size - (effect op a ks).1.size) ++ (effect op a ks).2, (nestI at_ op (s.extract 0 (s.size - (effect op a ks).1.size) ++ (effect op a ks).2) o).2)
def kindsIn (ks : List Int) : Prop := ks.length ≤ 8 ∧ ∀ i, i < ks.length → isKind (ks.getD i 0) = true
theorem c_impl_step (at_ op a : Int) (ks : List Int) (n : Int) (s : ByteArray) (o : List OI) (ho : o.length ≤ 4) (hs : s.size ≤ 8) (hb : 0 ≤ baseI o) (hk : kindsIn ks) (ha : 0 ≤ a ∨ op ≠ 19) :
    TT n_impl_verifier_step [.one (.ptrB 0 0), eI at_, .agg [cI op, cI a]] [vBox ks n s 1, .row t_impl_structure tOI o] (eI (stepI at_ op a ks n s o).1)
      [vBox ks n (stepI at_ op a ks n s o).2.1 2, .dead, .row t_impl_structure tOI (stepI at_ op a ks n s o).2.2] := by
  have hz := effect_size op a ks
  refine r_impl_verifier_step at_ op a ks n s o ⟨fun r => o = r ∧ ¬ ((op = 19 ∨ op = 20) ∧ (ks.length : Int) ≤ a) ∧ ¬ (op = 26 ∧ n ≤ a), ⟨fun b r => b = decide ((op = 19 ∨ op = 20) ∧ (ks.length : Int) ≤ a) ∧ o = r, ?_, ?_⟩, ?_⟩
  · refine ifE (fun h => ?_) (fun h => ifE (fun h2 => ?_) (fun h2 => ?_))
    · exact ⟨rfl, rfl, by simp [h], rfl⟩
    · exact ⟨rfl, rfl, by simp [h2], rfl⟩
    · exact ⟨rfl, rfl, by simp [h, h2], rfl⟩
  · rintro b r ⟨rfl, rfl⟩
    refine ifP (fun h => ?_) (fun h => ?_)
    · have e : stepI at_ op a ks n s o = (5, s, o) := by unfold stepI; rw [if_pos h]
      rw [e, List.take_length]; exact ⟨rfl, rfl⟩
    · refine ifE (fun h2 => ifP (fun h3 => ?_) (fun h3 => ?_)) (fun h2 => ⟨rfl, rfl, rfl, h, fun hc => h2 hc.1⟩)
      · have e : stepI at_ op a ks n s o = (15, s, o) := by unfold stepI; rw [if_neg h, if_pos ⟨h2, h3⟩]
        rw [e, List.take_length]; exact ⟨rfl, rfl⟩
      · exact ⟨rfl, rfl, rfl, h, fun hc => h3 hc.2⟩
  · rintro r ⟨rfl, h1, h2⟩
    have hbi : blockIn op a ks := fun h => by
      have hlt : a < ks.length := by
        have := fun hc => h1 ⟨.inl h, hc⟩
        omega
      exact ⟨by omega, hlt, hk.2 _ (by omega)⟩
    refine ⟨_, _, _, _, _, _, c_impl_effect op a ks n s o hbi, _, c_impl_base ks n s o ho, ?_⟩
    rw [w64 (by omega)]
    refine ifP (fun h3 => ?_) (fun h3 => ⟨by omega, ?_⟩)
    · have e : stepI at_ op a ks n s o = (13, s, o) := by unfold stepI; rw [if_neg h1, if_neg h2, if_pos h3]
      rw [e, List.take_length]; exact ⟨rfl, rfl⟩
    rw [show ((s.size : Int) - ((effect op a ks).1.size : Int)).toNat = s.size - (effect op a ks).1.size by omega, Int.toNat_natCast, toList_beq]
    refine ifB_cases (fun h4 => ?_) (fun h4 => ⟨by omega, ?_⟩)
    · have h4 : s.extract (s.size - (effect op a ks).1.size) s.size ≠ (effect op a ks).1 := by simpa using h4
      have e : stepI at_ op a ks n s o = (12, s, o) := by unfold stepI; rw [if_neg h1, if_neg h2, if_neg h3, if_pos h4]
      rw [e, List.take_length]; exact ⟨rfl, rfl⟩
    have h4 : ¬ (s.extract (s.size - (effect op a ks).1.size) s.size ≠ (effect op a ks).1) := by simpa using h4
    rw [show Int.toNat 0 = 0 from rfl]
    have hsz : (s.extract 0 (s.size - (effect op a ks).1.size)).size = s.size - (effect op a ks).1.size := by rw [size_extract _ (by omega), Nat.sub_zero]
    refine ⟨by omega, ifP (fun h5 => ?_) (fun h5 => ?_)⟩
    · have e : stepI at_ op a ks n s o = (7, s.extract 0 (s.size - (effect op a ks).1.size) ++ (effect op a ks).2, o) := by unfold stepI; rw [if_neg h1, if_neg h2, if_neg h3, if_neg h4, if_pos (by omega)]
      rw [e, List.take_length]; exact ⟨rfl, rfl⟩
    · have e : stepI at_ op a ks n s o = ((nestI at_ op (s.extract 0 (s.size - (effect op a ks).1.size) ++ (effect op a ks).2) o).1, s.extract 0 (s.size - (effect op a ks).1.size) ++ (effect op a ks).2, (nestI at_ op (s.extract 0 (s.size - (effect op a ks).1.size) ++ (effect op a ks).2) o).2) := by
        unfold stepI; rw [if_neg h1, if_neg h2, if_neg h3, if_neg h4, if_neg (by omega)]
      rw [e]
      exact ⟨_, _, _, _, _, c_impl_nest at_ op ks n _ o ho, rfl, rfl⟩

/-! ### the reference's -/
def lastS (o : List OS) : OS := o.getD (o.length - 1) dOS
def floorS (o : List OS) : Int := if o.length = 0 then 0 else ((lastS o).2.2.1.size : Int)
def nestS (at_ op : Int) (s : ByteArray) (o : List OS) : Int × List OS :=
  if op = 21 ∨ op = 24 then if o.length = 4 then (17, o) else (0, o ++ [(at_, (op, (s, ())))])
  else if o.length = 0 ∨ (op = 22 ∧ (lastS o).2.1 ≠ 21) then (14, o)
  else if s ≠ (lastS o).2.2.1 then (13, o)
  else if op = 22 then (0, o.set (o.length - 1) ((lastS o).1, (22, ((lastS o).2.2.1, ())))) else (0, o.take (o.length - 1))
@[reducible] def wBox (s : ByteArray) (k : Nat) : Ob := .box [.str s, .row k]
theorem c_spec_floor (s : ByteArray) (o : List OS) (ho : o.length ≤ 4) :
    TT n_spec_l04Walk_floor [.one (.ptrB 0 0)] [wBox s 1, .row t_spec_l04Open tOS o] (eI (floorS o)) [wBox s 1, .row t_spec_l04Open tOS o] := by
  refine r_spec_l04Walk_floor s o (ifE (fun h => ?_) (fun h => ?_))
  · exact ⟨by simp [floorS, show o.length = 0 by omega], rfl⟩
  · rw [last_nat ho (by omega), last_int ho]
    exact ⟨by omega, by simp [floorS, show ¬ o.length = 0 by omega, lastS], rfl⟩
theorem c_spec_nest (op a at_ : Int) (s : ByteArray) (o : List OS) (ho : o.length ≤ 4) :
    TT n_spec_l04Walk_nest [.one (.ptrB 0 0), .agg [cI op, cI a], eI at_] [wBox s 1, .row t_spec_l04Open tOS o] (eI (nestS at_ op s o).1) [wBox s 2, .dead, .row t_spec_l04Open tOS (nestS at_ op s o).2] := by
  refine r_spec_l04Walk_nest op a at_ s o ⟨fun b r => b = (op == 21 || op == 24) ∧ o = r, ?_, ?_⟩
  · repeat' (first | refine ifB_cases (fun _ => ?_) (fun _ => ?_) | refine ⟨rfl, ?_⟩ | fail)
    all_goals simp [*]
  rintro b r ⟨rfl, rfl⟩
  refine ifB_cases (fun h1 => ?_) (fun h1 => ?_)
  · have h1 : op = 21 ∨ op = 24 := by simpa using h1
    refine ifE (fun h2 => ?_) (fun h2 => ⟨by simp; omega, ?_⟩)
    · simp [nestS, h1, show o.length = 4 by omega]
      exact List.take_of_length_le (by omega)
    · simp [nestS, h1, show ¬ o.length = 4 by omega]
  have h1 : ¬ (op = 21 ∨ op = 24) := by simpa using h1
  refine ⟨fun r => o = r ∧ ¬ (o.length = 0 ∨ (op = 22 ∧ (lastS o).2.1 ≠ 21)), ?_, ?_⟩
  · refine ifE (fun h2 => ?_) (fun h2 => ?_)
    · have e : nestS at_ op s o = (14, o) := by unfold nestS; rw [if_neg h1, if_pos (.inl (by omega))]
      rw [e, List.take_length]; exact ⟨rfl, rfl⟩
    rw [last_nat ho (by omega), last_int ho]
    refine ifE (fun h3 => ⟨by omega, ifN (fun h4 => ?_) (fun h4 => ⟨rfl, rfl, rfl, ?_⟩)⟩) (fun h3 => ⟨rfl, rfl, rfl, ?_⟩)
    · have e : nestS at_ op s o = (14, o) := by unfold nestS; rw [if_neg h1, if_pos (.inr ⟨h3, h4⟩)]
      rw [e, List.take_length]; exact ⟨rfl, rfl⟩
    · rintro (hc | hc)
      · omega
      · exact hc.2 h4
    · rintro (hc | hc)
      · omega
      · exact h3 hc.1
  rintro r ⟨rfl, h2⟩
  have h0 : ¬ o.length = 0 := fun e => h2 (.inl e)
  rw [last_nat ho (by omega), last_int ho, toList_beq]
  refine ⟨by omega, ifB_cases (fun h3 => ?_) (fun h3 => ?_)⟩
  · have h3 : s ≠ (lastS o).2.2.1 := by
      have h3 : (!decide (s = (lastS o).2.2.1)) = true := h3
      simpa using h3
    have e : nestS at_ op s o = (13, o) := by unfold nestS; rw [if_neg h1, if_neg h2, if_pos h3]
    rw [e, List.take_length]; exact ⟨rfl, rfl⟩
  have h3 : ¬ (s ≠ (lastS o).2.2.1) := by
    have h3 : (!decide (s = (lastS o).2.2.1)) = false := h3
    simpa using h3
  refine ifE (fun h4 => ⟨by omega, ?_⟩) (fun h4 => ⟨by omega, ?_⟩)
  · have e : nestS at_ op s o = (0, o.set (o.length - 1) ((lastS o).1, (22, ((lastS o).2.2.1, ())))) := by unfold nestS; rw [if_neg h1, if_neg h2, if_neg h3, if_pos h4]
    rw [e, List.take_length]; exact ⟨rfl, rfl⟩
  · have e : nestS at_ op s o = (0, o.take (o.length - 1)) := by unfold nestS; rw [if_neg h1, if_neg h2, if_neg h3, if_neg h4]
    rw [e]; exact ⟨rfl, rfl⟩
def takeS (s t : ByteArray) (f : Int) : ByteArray × Int :=
  if (s.size : Int) - f < t.size then (e0, 13) else if s.extract (s.size - t.size) s.size ≠ t then (e0, 12) else (s.extract 0 (s.size - t.size), 0)
theorem c_spec_l04Take (s t : ByteArray) (f : Int) (hs : s.size ≤ 8) (ht : t.size ≤ 3) (hf : 0 ≤ f ∧ f ≤ 1048576) : TT n_spec_l04Take [eS s, eS t, eI f] [] (.tup [(false, [.str (takeS s t f).1]), (false, [cI (takeS s t f).2])]) [] := by
  refine r_spec_l04Take s t f ?_
  unfold v_spec_l04Take
  rw [w64 (by omega), w64 (by omega)]
  refine ifP (fun h => ?_) (fun h => ⟨by omega, ?_⟩)
  · exact ⟨by simp only [takeS, if_pos h], rfl⟩
  rw [show ((s.size : Int) - (t.size : Int)).toNat = s.size - t.size by omega, Int.toNat_natCast, toList_beq]
  refine ifB_cases (fun h2 => ?_) (fun h2 => ⟨by omega, ?_⟩)
  · have h2 : s.extract (s.size - t.size) s.size ≠ t := by simpa using h2
    exact ⟨by simp only [takeS, if_neg h, if_pos h2], rfl⟩
  · have h2 : ¬ (s.extract (s.size - t.size) s.size ≠ t) := by simpa using h2
    exact ⟨by simp only [takeS, if_neg h, if_neg h2]; rfl, rfl⟩
end Go.Ry
