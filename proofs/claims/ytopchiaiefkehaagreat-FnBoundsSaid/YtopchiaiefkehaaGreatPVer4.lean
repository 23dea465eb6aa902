/- Texts Ver1, Ver2, Ver3, Ver4, one behind the other. No condition. -/
import Derived.Test.YtopchiaiefkehaaGreatPEff
set_option linter.unusedVariables false
set_option linter.unusedSimpArgs false
namespace Go.Ry
open Go.Proofs

abbrev OI := Int × Int × Bool × Bool × Unit
abbrev OS := Int × Int × ByteArray × Unit
@[reducible] def tOI : Ty := .pair (.int .i64) (.pair (.int .i64) (.pair .bool (.pair .bool .unit)))
@[reducible] def tOS : Ty := .pair (.int .i64) (.pair (.int .i64) (.pair .str .unit))
@[reducible] def vBox (ks : List Int) (n : Int) (s : ByteArray) (k : Nat) : Ob := .box [.sl (.int .i64) ks, cI n, .str s, .row k]
theorem c_impl_effect (op a : Int) (ks : List Int) (n : Int) (s : ByteArray) (o : List OI) (h : blockIn op a ks) :
    TT n_impl_verifier_effect [.one (.ptrB 0 0), .agg [cI op, cI a]] [vBox ks n s 1, .row t_impl_structure tOI o] (tupSS (effect op a ks).1 (effect op a ks).2) [vBox ks n s 1, .row t_impl_structure tOI o] := by
  refine r_impl_verifier_effect op a ks n s o ?_
  unfold v_impl_verifier_effect
  refine ⟨fun b r => b = (op == 1 || (op == 3 || op == 20)) ∧ o = r, ?_, ?_⟩
  · repeat' (first | refine ifB_cases (fun _ => ?_) (fun _ => ?_) | refine ⟨rfl, ?_⟩ | fail)
    all_goals simp [*]
  rintro b r ⟨rfl, rfl⟩
  refine ifB_cases (fun g1 => ?_) (fun g1 => ?_)
  · simp at g1; rcases g1 with rfl | rfl | rfl <;> simp_all [effect]
  refine ⟨fun b r => b = (op == 2 || (op == 5 || op == 7)) ∧ o = r, ?_, ?_⟩
  · repeat' (first | refine ifB_cases (fun _ => ?_) (fun _ => ?_) | refine ⟨rfl, ?_⟩ | fail)
    all_goals simp [*]
  rintro b r ⟨rfl, rfl⟩
  refine ifB_cases (fun g2 => ?_) (fun g2 => ?_)
  · simp at g2; rcases g2 with rfl | rfl | rfl <;> simp_all [effect]
  refine ifE (fun h4 => ?_) (fun h4 => ?_)
  · simp [effect, *]
  refine ⟨fun b r => b = (op == 6 || (op == 8 || op == 21)) ∧ o = r, ?_, ?_⟩
  · repeat' (first | refine ifB_cases (fun _ => ?_) (fun _ => ?_) | refine ⟨rfl, ?_⟩ | fail)
    all_goals simp [*]
  rintro b r ⟨rfl, rfl⟩
  refine ifB_cases (fun g6 => ?_) (fun g6 => ?_)
  · simp at g6; rcases g6 with rfl | rfl | rfl <;> simp_all [effect]
  refine ⟨fun b r => b = (op == 9 || (op == 10 || (op == 11 || op == 12))) ∧ o = r, ?_, ?_⟩
  · repeat' (first | refine ifB_cases (fun _ => ?_) (fun _ => ?_) | refine ⟨rfl, ?_⟩ | fail)
    all_goals simp [*]
  rintro b r ⟨rfl, rfl⟩
  refine ifB_cases (fun g9 => ?_) (fun g9 => ?_)
  · simp at g9; rcases g9 with rfl | rfl | rfl | rfl <;> simp_all [effect]
  refine ⟨fun b r => b = (op == 13 || op == 14) ∧ o = r, ?_, ?_⟩
  · repeat' (first | refine ifB_cases (fun _ => ?_) (fun _ => ?_) | refine ⟨rfl, ?_⟩ | fail)
    all_goals simp [*]
  rintro b r ⟨rfl, rfl⟩
  refine ifB_cases (fun g13 => ?_) (fun g13 => ?_)
  · simp at g13; rcases g13 with rfl | rfl <;> simp_all [effect]
  refine ⟨fun b r => b = (op == 15 || op == 16) ∧ o = r, ?_, ?_⟩
  · repeat' (first | refine ifB_cases (fun _ => ?_) (fun _ => ?_) | refine ⟨rfl, ?_⟩ | fail)
    all_goals simp [*]
  rintro b r ⟨rfl, rfl⟩
  refine ifB_cases (fun g15 => ?_) (fun g15 => ?_)
  · simp at g15; rcases g15 with rfl | rfl <;> simp_all [effect]
  refine ifE (fun h17 => ?_) (fun h17 => ?_)
  · simp_all [effect]
  refine ifE (fun h18 => ?_) (fun h18 => ?_)
  · simp_all [effect]
  refine ifE (fun h19 => ?_) (fun h19 => ?_)
  · obtain ⟨k1, k2, k3⟩ := h h19
    refine ⟨⟨k1, k2⟩, _, c_impl_takes _ k3, ?_⟩
    simp_all [effect]
  · simp_all [effect]
end Go.Ry

set_option linter.unusedVariables false
set_option linter.unusedSimpArgs false
namespace Go.Ry
open Go.Proofs

theorem last_nat {α : Type} {o : List α} (h : o.length ≤ 4) (h0 : 0 < o.length) : Int.toNat (wI ((o.length : Int) - 1)) = o.length - 1 := by rw [w64 (by omega)]; omega
theorem last_int {α : Type} {o : List α} (h : o.length ≤ 4) : wI ((o.length : Int) - 1) = (o.length : Int) - 1 := w64 (by omega)

/-! ### the program's -/
@[reducible] def dOI : OI := ((0 : Int), ((0 : Int), (false, (false, ()))))
@[reducible] def dOS : OS := ((0 : Int), ((0 : Int), ((⟨#[]⟩ : ByteArray), ())))
def lastI (o : List OI) : OI := o.getD (o.length - 1) dOI
def baseI (o : List OI) : Int := if o.length = 0 then 0 else (lastI o).2.1
def nestI (at_ op : Int) (s : ByteArray) (o : List OI) : Int × List OI :=
  if op = 21 ∨ op = 24 then if o.length = 4 then (17, o) else (0, o ++ [(at_, ((s.size : Int), (op == 21, (false, ()))))])
  else if op = 22 ∨ op = 23 then
    if o.length = 0 ∨ (op = 22 ∧ ((lastI o).2.2.1 = false ∨ (lastI o).2.2.2.1 = true)) then (14, o)
    else if (s.size : Int) ≠ (lastI o).2.1 then (13, o)
    else if op = 22 then (0, o.set (o.length - 1) ((lastI o).1, ((lastI o).2.1, ((lastI o).2.2.1, (true, ()))))) else (0, o.take (o.length - 1))
  else (0, o)
theorem c_impl_base (ks : List Int) (n : Int) (s : ByteArray) (o : List OI) (ho : o.length ≤ 4) :
    TT n_impl_verifier_base [.one (.ptrB 0 0)] [vBox ks n s 1, .row t_impl_structure tOI o] (eI (baseI o)) [vBox ks n s 1, .row t_impl_structure tOI o] := by
  refine r_impl_verifier_base ks n s o (ifE (fun h => ?_) (fun h => ?_))
  · exact ⟨by simp [baseI, show o.length = 0 by omega], rfl⟩
  · rw [last_nat ho (by omega), last_int ho]
    exact ⟨by omega, by simp [baseI, show ¬ o.length = 0 by omega, lastI], rfl⟩
theorem c_impl_nest (at_ op : Int) (ks : List Int) (n : Int) (s : ByteArray) (o : List OI) (ho : o.length ≤ 4) :
    TT n_impl_verifier_nest [.one (.ptrB 0 0), eI at_, eI op] [vBox ks n s 1, .row t_impl_structure tOI o] (eI (nestI at_ op s o).1) [vBox ks n s 2, .dead, .row t_impl_structure tOI (nestI at_ op s o).2] := by
  refine r_impl_verifier_nest at_ op ks n s o ⟨fun b r => b = (op == 21 || op == 24) ∧ o = r, ?_, ?_⟩
  · repeat' (first | refine ifB_cases (fun _ => ?_) (fun _ => ?_) | refine ⟨rfl, ?_⟩ | fail)
    all_goals simp [*]
  rintro b r ⟨rfl, rfl⟩
  refine ifB_cases (fun h1 => ?_) (fun h1 => ?_)
  · have h1 : op = 21 ∨ op = 24 := by simpa using h1
    refine ifE (fun h2 => ?_) (fun h2 => ⟨by simp; omega, ?_⟩)
    · simp [nestI, h1, show o.length = 4 by omega]
      exact List.take_of_length_le (by omega)
    · simp [nestI, h1, show ¬ o.length = 4 by omega]
  have h1 : ¬ (op = 21 ∨ op = 24) := by simpa using h1
  refine ⟨fun b r => b = (op == 22 || op == 23) ∧ o = r, ?_, ?_⟩
  · repeat' (first | refine ifB_cases (fun _ => ?_) (fun _ => ?_) | refine ⟨rfl, ?_⟩ | fail)
    all_goals simp [*]
  rintro b r ⟨rfl, rfl⟩
  refine ifB_cases (fun h2 => ?_) (fun h2 => ?_)
  rotate_left
  · have h2 : ¬ (op = 22 ∨ op = 23) := by simpa using h2
    simp [nestI, h1, h2]
  have h2 : op = 22 ∨ op = 23 := by simpa using h2
  rw [last_int ho]
  refine ⟨fun k b r => k = (o.length : Int) - 1 ∧ b = decide (o.length = 0 ∨ (op = 22 ∧ ((lastI o).2.2.1 = false ∨ (lastI o).2.2.2.1 = true))) ∧ o = r, ?_, ?_⟩
  · refine ifP (fun h3 => ⟨rfl, rfl, rfl, by simp [show o.length = 0 by omega], rfl⟩) (fun h3 => ?_)
    have h3 : ¬ o.length = 0 := by omega
    have e : ((o.length : Int) - 1).toNat = o.length - 1 := by omega
    rw [e]
    refine ifE (fun h4 => ⟨by omega, ifB_cases (fun h5 => ⟨rfl, rfl, rfl, ?_, rfl⟩) (fun h5 => ⟨by omega, rfl, rfl, rfl, ?_, rfl⟩)⟩) (fun h4 => ⟨rfl, rfl, rfl, by simp [h3, h4], rfl⟩)
    · have h5 : (!(lastI o).2.2.1) = true := h5
      simp only [Bool.not_eq_true'] at h5
      simp [h3, h4, h5]
    · have h5 : (!(lastI o).2.2.1) = false := h5
      simp only [Bool.not_eq_false'] at h5
      simp only [h3, h4, h5, false_or, true_and, Bool.true_eq_false]
      show (lastI o).2.2.2.1 = _
      cases (lastI o).2.2.2.1 <;> simp
  rintro k b r ⟨rfl, rfl, rfl⟩
  refine ifP (fun h3 => ?_) (fun h3 => ?_)
  · have e : nestI at_ op s o = (14, o) := by simp only [nestI, if_neg h1, if_pos h2, if_pos h3]
    rw [e, List.take_length]; exact ⟨rfl, rfl⟩
  have h3' : ¬ o.length = 0 := fun e => h3 (.inl e)
  have e : ((o.length : Int) - 1).toNat = o.length - 1 := by omega
  rw [e]
  refine ⟨by omega, ifN (fun h4 => ?_) (fun h4 => ?_)⟩
  · have h4 : ¬ (s.size : Int) = (lastI o).2.1 := h4
    have e : nestI at_ op s o = (13, o) := by simp only [nestI, if_neg h1, if_pos h2, if_neg h3, ne_eq, h4, not_false_eq_true, if_true]
    rw [e, List.take_length]; exact ⟨rfl, rfl⟩
  · have h4 : (s.size : Int) = (lastI o).2.1 := h4
    refine ifE (fun h5 => ⟨by omega, ?_⟩) (fun h5 => ⟨by omega, ?_⟩)
    · have e : nestI at_ op s o = (0, o.set (o.length - 1) ((lastI o).1, ((lastI o).2.1, ((lastI o).2.2.1, (true, ()))))) := by simp only [nestI, if_neg h1, if_pos h2, if_neg h3, ne_eq, h4, not_true_eq_false, if_false, if_pos h5]
      rw [e, List.take_length]; exact ⟨rfl, rfl⟩
    · have e : nestI at_ op s o = (0, o.take (o.length - 1)) := by simp only [nestI, if_neg h1, if_pos h2, if_neg h3, ne_eq, h4, not_true_eq_false, if_false, if_neg h5]
      rw [e]; exact ⟨rfl, rfl⟩
end Go.Ry

set_option linter.unusedVariables false
set_option linter.unusedSimpArgs false
namespace Go.Ry
open Go.Proofs

theorem effect_size (op a : Int) (ks : List Int) : (effect op a ks).1.size ≤ 3 ∧ (effect op a ks).2.size ≤ 1 := by
  have ht : ∀ k, (takes k).size ≤ 3 := by
    intro k
    unfold takes takesL
    generalize Int.toNat (k - 1) = i
    match i with
    | 0 => decide
    | 1 => decide
    | 2 => decide
    | 3 => decide
    | n + 4 => simp; decide
  unfold effect
  split
  · decide
  split
  · decide
  split
  · decide
  split
  · decide
  split
  · decide
  split
  · decide
  split
  · decide
  split
  · decide
  split
  · decide
  split
  · exact ⟨ht _, by show bB.size ≤ 1; decide⟩
  · decide

/-! ### the program's -/
def stepI (at_ op a : Int) (ks : List Int) (n : Int) (s : ByteArray) (o : List OI) : Int × ByteArray × List OI :=
  if (op = 19 ∨ op = 20) ∧ (ks.length : Int) ≤ a then (5, s, o)
  else if op = 26 ∧ n ≤ a then (15, s, o)
  else if (s.size : Int) - (effect op a ks).1.size < baseI o then (13, s, o)
  else if s.extract (s.size - (effect op a ks).1.size) s.size ≠ (effect op a ks).1 then (12, s, o)
  else if (s.extract 0 (s.size - (effect op a ks).1.size) ++ (effect op a ks).2).size > 8 then (7, s.extract 0 (s.size - (effect op a ks).1.size) ++ (effect op a ks).2, o)
  else ((nestI at_ op (s.extract 0 (s.size - (effect op a ks).1.size) ++ (effect op a ks).2) o).1, s.extract 0 (s.size - (effect op a ks).1.size) ++ (effect op a ks).2, (nestI at_ op (s.extract 0 (s.size - (effect op a ks).1.size) ++ (effect op a ks).2) o).2)
def kindsIn (ks : List Int) : Prop := ks.length ≤ 8 ∧ ∀ i, i < ks.length → isKind (ks.getD i 0) = true
theorem c_impl_step (at_ op a : Int) (ks : List Int) (n : Int) (s : ByteArray) (o : List OI) (ho : o.length ≤ 4) (hs : s.size ≤ 8) (hb : 0 ≤ baseI o) (hk : kindsIn ks) (ha : 0 ≤ a ∨ op ≠ 19) :
    TT n_impl_verifier_step [.one (.ptrB 0 0), eI at_, .agg [cI op, cI a]] [vBox ks n s 1, .row t_impl_structure tOI o] (eI (stepI at_ op a ks n s o).1)
      [vBox ks n (stepI at_ op a ks n s o).2.1 2, .dead, .row t_impl_structure tOI (stepI at_ op a ks n s o).2.2] := by
  have hz := effect_size op a ks
  refine r_impl_verifier_step at_ op a ks n s o ⟨fun r => o = r ∧ ¬ ((op = 19 ∨ op = 20) ∧ (ks.length : Int) ≤ a) ∧ ¬ (op = 26 ∧ n ≤ a), ⟨fun b r => b = decide ((op = 19 ∨ op = 20) ∧ (ks.length : Int) ≤ a) ∧ o = r, ?_, ?_⟩, ?_⟩
  · refine ifE (fun h => ?_) (fun h => ifE (fun h2 => ?_) (fun h2 => ?_))
    · exact ⟨rfl, rfl, by simp [h], rfl⟩
    · exact ⟨rfl, rfl, by simp [h2], rfl⟩
    · exact ⟨rfl, rfl, by simp [h, h2], rfl⟩
  · rintro b r ⟨rfl, rfl⟩
    refine ifP (fun h => ?_) (fun h => ?_)
    · have e : stepI at_ op a ks n s o = (5, s, o) := by unfold stepI; rw [if_pos h]
      rw [e, List.take_length]; exact ⟨rfl, rfl⟩
    · refine ifE (fun h2 => ifP (fun h3 => ?_) (fun h3 => ?_)) (fun h2 => ⟨rfl, rfl, rfl, h, fun hc => h2 hc.1⟩)
      · have e : stepI at_ op a ks n s o = (15, s, o) := by unfold stepI; rw [if_neg h, if_pos ⟨h2, h3⟩]
        rw [e, List.take_length]; exact ⟨rfl, rfl⟩
      · exact ⟨rfl, rfl, rfl, h, fun hc => h3 hc.2⟩
  · rintro r ⟨rfl, h1, h2⟩
    have hbi : blockIn op a ks := fun h => by
      have hlt : a < ks.length := by
        have := fun hc => h1 ⟨.inl h, hc⟩
        omega
      exact ⟨by omega, hlt, hk.2 _ (by omega)⟩
    refine ⟨_, _, _, _, _, _, c_impl_effect op a ks n s o hbi, _, c_impl_base ks n s o ho, ?_⟩
    rw [w64 (by omega)]
    refine ifP (fun h3 => ?_) (fun h3 => ⟨by omega, ?_⟩)
    · have e : stepI at_ op a ks n s o = (13, s, o) := by unfold stepI; rw [if_neg h1, if_neg h2, if_pos h3]
      rw [e, List.take_length]; exact ⟨rfl, rfl⟩
    rw [show ((s.size : Int) - ((effect op a ks).1.size : Int)).toNat = s.size - (effect op a ks).1.size by omega, Int.toNat_natCast, toList_beq]
    refine ifB_cases (fun h4 => ?_) (fun h4 => ⟨by omega, ?_⟩)
    · have h4 : s.extract (s.size - (effect op a ks).1.size) s.size ≠ (effect op a ks).1 := by simpa using h4
      have e : stepI at_ op a ks n s o = (12, s, o) := by unfold stepI; rw [if_neg h1, if_neg h2, if_neg h3, if_pos h4]
      rw [e, List.take_length]; exact ⟨rfl, rfl⟩
    have h4 : ¬ (s.extract (s.size - (effect op a ks).1.size) s.size ≠ (effect op a ks).1) := by simpa using h4
    rw [show Int.toNat 0 = 0 from rfl]
    have hsz : (s.extract 0 (s.size - (effect op a ks).1.size)).size = s.size - (effect op a ks).1.size := by rw [size_extract _ (by omega), Nat.sub_zero]
    refine ⟨by omega, ifP (fun h5 => ?_) (fun h5 => ?_)⟩
    · have e : stepI at_ op a ks n s o = (7, s.extract 0 (s.size - (effect op a ks).1.size) ++ (effect op a ks).2, o) := by unfold stepI; rw [if_neg h1, if_neg h2, if_neg h3, if_neg h4, if_pos (by omega)]
      rw [e, List.take_length]; exact ⟨rfl, rfl⟩
    · have e : stepI at_ op a ks n s o = ((nestI at_ op (s.extract 0 (s.size - (effect op a ks).1.size) ++ (effect op a ks).2) o).1, s.extract 0 (s.size - (effect op a ks).1.size) ++ (effect op a ks).2, (nestI at_ op (s.extract 0 (s.size - (effect op a ks).1.size) ++ (effect op a ks).2) o).2) := by
        unfold stepI; rw [if_neg h1, if_neg h2, if_neg h3, if_neg h4, if_neg (by omega)]
      rw [e]
      exact ⟨_, _, _, _, _, c_impl_nest at_ op ks n _ o ho, rfl, rfl⟩

/-! ### the reference's -/
def lastS (o : List OS) : OS := o.getD (o.length - 1) dOS
def floorS (o : List OS) : Int := if o.length = 0 then 0 else ((lastS o).2.2.1.size : Int)
def nestS (at_ op : Int) (s : ByteArray) (o : List OS) : Int × List OS :=
  if op = 21 ∨ op = 24 then if o.length = 4 then (17, o) else (0, o ++ [(at_, (op, (s, ())))])
  else if o.length = 0 ∨ (op = 22 ∧ (lastS o).2.1 ≠ 21) then (14, o)
  else if s ≠ (lastS o).2.2.1 then (13, o)
  else if op = 22 then (0, o.set (o.length - 1) ((lastS o).1, (22, ((lastS o).2.2.1, ())))) else (0, o.take (o.length - 1))
@[reducible] def wBox (s : ByteArray) (k : Nat) : Ob := .box [.str s, .row k]
theorem c_spec_floor (s : ByteArray) (o : List OS) (ho : o.length ≤ 4) :
    TT n_spec_l04Walk_floor [.one (.ptrB 0 0)] [wBox s 1, .row t_spec_l04Open tOS o] (eI (floorS o)) [wBox s 1, .row t_spec_l04Open tOS o] := by
  refine r_spec_l04Walk_floor s o (ifE (fun h => ?_) (fun h => ?_))
  · exact ⟨by simp [floorS, show o.length = 0 by omega], rfl⟩
  · rw [last_nat ho (by omega), last_int ho]
    exact ⟨by omega, by simp [floorS, show ¬ o.length = 0 by omega, lastS], rfl⟩
theorem c_spec_nest (op a at_ : Int) (s : ByteArray) (o : List OS) (ho : o.length ≤ 4) :
    TT n_spec_l04Walk_nest [.one (.ptrB 0 0), .agg [cI op, cI a], eI at_] [wBox s 1, .row t_spec_l04Open tOS o] (eI (nestS at_ op s o).1) [wBox s 2, .dead, .row t_spec_l04Open tOS (nestS at_ op s o).2] := by
  refine r_spec_l04Walk_nest op a at_ s o ⟨fun b r => b = (op == 21 || op == 24) ∧ o = r, ?_, ?_⟩
  · repeat' (first | refine ifB_cases (fun _ => ?_) (fun _ => ?_) | refine ⟨rfl, ?_⟩ | fail)
    all_goals simp [*]
  rintro b r ⟨rfl, rfl⟩
  refine ifB_cases (fun h1 => ?_) (fun h1 => ?_)
  · have h1 : op = 21 ∨ op = 24 := by simpa using h1
    refine ifE (fun h2 => ?_) (fun h2 => ⟨by simp; omega, ?_⟩)
    · simp [nestS, h1, show o.length = 4 by omega]
      exact List.take_of_length_le (by omega)
    · simp [nestS, h1, show ¬ o.length = 4 by omega]
  have h1 : ¬ (op = 21 ∨ op = 24) := by simpa using h1
  refine ⟨fun r => o = r ∧ ¬ (o.length = 0 ∨ (op = 22 ∧ (lastS o).2.1 ≠ 21)), ?_, ?_⟩
  · refine ifE (fun h2 => ?_) (fun h2 => ?_)
    · have e : nestS at_ op s o = (14, o) := by unfold nestS; rw [if_neg h1, if_pos (.inl (by omega))]
      rw [e, List.take_length]; exact ⟨rfl, rfl⟩
    rw [last_nat ho (by omega), last_int ho]
    refine ifE (fun h3 => ⟨by omega, ifN (fun h4 => ?_) (fun h4 => ⟨rfl, rfl, rfl, ?_⟩)⟩) (fun h3 => ⟨rfl, rfl, rfl, ?_⟩)
    · have e : nestS at_ op s o = (14, o) := by unfold nestS; rw [if_neg h1, if_pos (.inr ⟨h3, h4⟩)]
      rw [e, List.take_length]; exact ⟨rfl, rfl⟩
    · rintro (hc | hc)
      · omega
      · exact hc.2 h4
    · rintro (hc | hc)
      · omega
      · exact h3 hc.1
  rintro r ⟨rfl, h2⟩
  have h0 : ¬ o.length = 0 := fun e => h2 (.inl e)
  rw [last_nat ho (by omega), last_int ho, toList_beq]
  refine ⟨by omega, ifB_cases (fun h3 => ?_) (fun h3 => ?_)⟩
  · have h3 : s ≠ (lastS o).2.2.1 := by
      have h3 : (!decide (s = (lastS o).2.2.1)) = true := h3
      simpa using h3
    have e : nestS at_ op s o = (13, o) := by unfold nestS; rw [if_neg h1, if_neg h2, if_pos h3]
    rw [e, List.take_length]; exact ⟨rfl, rfl⟩
  have h3 : ¬ (s ≠ (lastS o).2.2.1) := by
    have h3 : (!decide (s = (lastS o).2.2.1)) = false := h3
    simpa using h3
  refine ifE (fun h4 => ⟨by omega, ?_⟩) (fun h4 => ⟨by omega, ?_⟩)
  · have e : nestS at_ op s o = (0, o.set (o.length - 1) ((lastS o).1, (22, ((lastS o).2.2.1, ())))) := by unfold nestS; rw [if_neg h1, if_neg h2, if_neg h3, if_pos h4]
    rw [e, List.take_length]; exact ⟨rfl, rfl⟩
  · have e : nestS at_ op s o = (0, o.take (o.length - 1)) := by unfold nestS; rw [if_neg h1, if_neg h2, if_neg h3, if_neg h4]
    rw [e]; exact ⟨rfl, rfl⟩
def takeS (s t : ByteArray) (f : Int) : ByteArray × Int :=
  if (s.size : Int) - f < t.size then (e0, 13) else if s.extract (s.size - t.size) s.size ≠ t then (e0, 12) else (s.extract 0 (s.size - t.size), 0)
theorem c_spec_l04Take (s t : ByteArray) (f : Int) (hs : s.size ≤ 8) (ht : t.size ≤ 3) (hf : 0 ≤ f ∧ f ≤ 1048576) : TT n_spec_l04Take [eS s, eS t, eI f] [] (.tup [(false, [.str (takeS s t f).1]), (false, [cI (takeS s t f).2])]) [] := by
  refine r_spec_l04Take s t f ?_
  unfold v_spec_l04Take
  rw [w64 (by omega), w64 (by omega)]
  refine ifP (fun h => ?_) (fun h => ⟨by omega, ?_⟩)
  · exact ⟨by simp only [takeS, if_pos h], rfl⟩
  rw [show ((s.size : Int) - (t.size : Int)).toNat = s.size - t.size by omega, Int.toNat_natCast, toList_beq]
  refine ifB_cases (fun h2 => ?_) (fun h2 => ⟨by omega, ?_⟩)
  · have h2 : s.extract (s.size - t.size) s.size ≠ t := by simpa using h2
    exact ⟨by simp only [takeS, if_neg h, if_pos h2], rfl⟩
  · have h2 : ¬ (s.extract (s.size - t.size) s.size ≠ t) := by simpa using h2
    exact ⟨by simp only [takeS, if_neg h, if_neg h2]; rfl, rfl⟩
end Go.Ry

set_option linter.unusedVariables false
set_option linter.unusedSimpArgs false
namespace Go.Ry
open Go.Proofs

def stepS (at_ op a : Int) (ks : List Int) (n : Int) (s : ByteArray) (o : List OS) : Int × ByteArray × List OS :=
  if (op = 19 ∨ op = 20) ∧ (ks.length : Int) ≤ a then (5, s, o)
  else if op = 26 ∧ n ≤ a then (15, s, o)
  else if (takeS s (effect op a ks).1 (floorS o)).2 ≠ 0 then ((takeS s (effect op a ks).1 (floorS o)).2, s, o)
  else if (takeS s (effect op a ks).1 (floorS o)).1.size + (effect op a ks).2.size > 8 then (7, s, o)
  else if within op 21 24 = true then ((nestS at_ op ((takeS s (effect op a ks).1 (floorS o)).1 ++ (effect op a ks).2) o).1, (takeS s (effect op a ks).1 (floorS o)).1 ++ (effect op a ks).2, (nestS at_ op ((takeS s (effect op a ks).1 (floorS o)).1 ++ (effect op a ks).2) o).2)
  else (0, (takeS s (effect op a ks).1 (floorS o)).1 ++ (effect op a ks).2, o)
theorem takeS_size (s t : ByteArray) (f : Int) (hs : s.size ≤ 8) : (takeS s t f).1.size ≤ 8 := by
  unfold takeS
  split
  · exact (by decide : e0.size ≤ 8)
  split
  · exact (by decide : e0.size ≤ 8)
  · rw [size_extract _ (by omega)]; omega
theorem c_spec_step (at_ op a : Int) (ks : List Int) (n : Int) (s : ByteArray) (o : List OS) (ho : o.length ≤ 4) (hs : s.size ≤ 8) (hf : 0 ≤ floorS o ∧ floorS o ≤ 8) (hk : kindsIn ks) (ha : 0 ≤ a ∨ op ≠ 19) :
    TT n_spec_l04Walk_step [.one (.ptrB 0 0), .agg [cI op, cI a], eI at_, .one (.sl (.int .i64) ks), eI n] [wBox s 1, .row t_spec_l04Open tOS o] (eI (stepS at_ op a ks n s o).1)
      [wBox (stepS at_ op a ks n s o).2.1 2, .dead, .row t_spec_l04Open tOS (stepS at_ op a ks n s o).2.2] := by
  have hz := effect_size op a ks
  have ht := takeS_size s (effect op a ks).1 (floorS o) hs
  refine r_spec_l04Walk_step op a at_ ks n s o ⟨fun r => o = r ∧ ¬ ((op = 19 ∨ op = 20) ∧ (ks.length : Int) ≤ a), ?_, ?_⟩
  · have k5 : ((op = 19 ∨ op = 20) ∧ (ks.length : Int) ≤ a) → stepS at_ op a ks n s o = (5, s, o) := fun h => by unfold stepS; rw [if_pos h]
    refine ifE (fun h => ifP (fun h2 => ?_) (fun h2 => ⟨rfl, rfl, rfl, fun hc => h2 hc.2⟩)) (fun h => ifE (fun h3 => ifP (fun h2 => ?_) (fun h2 => ⟨rfl, rfl, rfl, fun hc => h2 hc.2⟩)) (fun h3 => ⟨rfl, rfl, rfl, fun hc => hc.1.elim h h3⟩))
    · rw [k5 ⟨.inl h, h2⟩, List.take_length]; exact ⟨rfl, rfl⟩
    · rw [k5 ⟨.inr h3, h2⟩, List.take_length]; exact ⟨rfl, rfl⟩
  rintro r ⟨rfl, h1⟩
  refine ⟨fun r => o = r ∧ ¬ (op = 26 ∧ n ≤ a), ?_, ?_⟩
  · refine ifE (fun h => ifP (fun h2 => ?_) (fun h2 => ⟨rfl, rfl, rfl, fun hc => h2 hc.2⟩)) (fun h => ⟨rfl, rfl, rfl, fun hc => h hc.1⟩)
    have e : stepS at_ op a ks n s o = (15, s, o) := by unfold stepS; rw [if_neg h1, if_pos ⟨h, h2⟩]
    rw [e, List.take_length]; exact ⟨rfl, rfl⟩
  rintro r ⟨rfl, h2⟩
  have hbi : blockIn op a ks := fun h => by
    have hlt : a < ks.length := by
      have := fun hc => h1 ⟨.inl h, hc⟩
      omega
    exact ⟨by omega, hlt, hk.2 _ (by omega)⟩
  have key := c_spec_l04Take s (effect op a ks).1 (floorS o) hs hz.1 ⟨hf.1, by omega⟩
  refine ⟨_, _, c_spec_l04Sign op a ks hbi, fun u t c r => u = (effect op a ks).2 ∧ t = (takeS s (effect op a ks).1 (floorS o)).1 ∧ c = (takeS s (effect op a ks).1 (floorS o)).2 ∧ o = r,
    ⟨⟨_, c_spec_floor s o ho, _, _, key, rfl, rfl, rfl, rfl, rfl, rfl⟩, ⟨_, c_spec_floor s o ho, _, _, key, rfl, rfl, rfl, rfl, rfl, rfl⟩⟩, ?_⟩
  rintro u t c r ⟨rfl, rfl, rfl, rfl⟩
  refine ifN (fun h3 => ?_) (fun h3 => ?_)
  · have e : stepS at_ op a ks n s o = ((takeS s (effect op a ks).1 (floorS o)).2, s, o) := by unfold stepS; rw [if_neg h1, if_neg h2, if_pos h3]
    rw [e, List.take_length]; exact ⟨rfl, rfl⟩
  have h3 : ¬ ((takeS s (effect op a ks).1 (floorS o)).2 ≠ 0) := fun hc => hc h3
  rw [w64 (by omega)]
  refine ifP (fun h4 => ?_) (fun h4 => ⟨by omega, _, c_spec_l01In _ _ _, ifB_cases (fun h5 => ?_) (fun h5 => ?_)⟩)
  · have e : stepS at_ op a ks n s o = (7, s, o) := by unfold stepS; rw [if_neg h1, if_neg h2, if_neg h3, if_pos (by omega)]
    rw [e, List.take_length]; exact ⟨rfl, rfl⟩
  · have e : stepS at_ op a ks n s o = ((nestS at_ op ((takeS s (effect op a ks).1 (floorS o)).1 ++ (effect op a ks).2) o).1, (takeS s (effect op a ks).1 (floorS o)).1 ++ (effect op a ks).2, (nestS at_ op ((takeS s (effect op a ks).1 (floorS o)).1 ++ (effect op a ks).2) o).2) := by
      unfold stepS; rw [if_neg h1, if_neg h2, if_neg h3, if_neg (by omega), if_pos h5]
    rw [e]
    exact ⟨_, _, _, c_spec_nest op a at_ _ o ho, rfl, rfl⟩
  · have e : stepS at_ op a ks n s o = (0, (takeS s (effect op a ks).1 (floorS o)).1 ++ (effect op a ks).2, o) := by
      unfold stepS; rw [if_neg h1, if_neg h2, if_neg h3, if_neg (by omega), if_neg (by rw [h5]; exact Bool.false_ne_true)]
    rw [e, List.take_length]; exact ⟨rfl, rfl⟩

/-! ### the two agree -/
def toI (x : OS) : OI := (x.1, ((x.2.2.1.size : Int), ((x.2.1 == 21 || x.2.1 == 22), (x.2.1 == 22, ()))))
structure Open (s : ByteArray) (o : List OS) : Prop where
  len : o.length ≤ 4
  size : s.size ≤ 8
  pre : ∀ x ∈ o, pre x.2.2.1 s
  rise : o.Pairwise fun x y => x.2.2.1.size ≤ y.2.2.1.size
theorem last_mem {o : List OS} (h : ¬ o.length = 0) : lastS o ∈ o := by
  unfold lastS
  rw [List.getD_eq_getElem?_getD, List.getElem?_eq_getElem (by omega)]
  exact List.getElem_mem _
theorem last_map {o : List OS} (h : ¬ o.length = 0) : lastI (o.map toI) = toI (lastS o) := by
  unfold lastI lastS
  rw [List.length_map, List.getD_eq_getElem?_getD, List.getD_eq_getElem?_getD, List.getElem?_map, List.getElem?_eq_getElem (by omega)]
  rfl
theorem base_map (o : List OS) : baseI (o.map toI) = floorS o := by
  unfold baseI floorS
  rw [List.length_map]
  by_cases h : o.length = 0
  · rw [if_pos h, if_pos h]
  · rw [if_neg h, if_neg h, last_map h]; rfl
theorem Open.floor {s : ByteArray} {o : List OS} (h : Open s o) : 0 ≤ floorS o ∧ floorS o ≤ 8 := by
  unfold floorS
  split
  · omega
  · rename_i h0
    have := (h.pre _ (last_mem h0)).size
    have := h.size
    omega
theorem Open.below {s : ByteArray} {o : List OS} (h : Open s o) {x : OS} (hx : x ∈ o) : (x.2.2.1.size : Int) ≤ floorS o := by
  have h0 : ¬ o.length = 0 := fun e => by rw [List.eq_nil_of_length_eq_zero e] at hx; simp at hx
  unfold floorS
  rw [if_neg h0]
  obtain ⟨i, hi, rfl⟩ := List.getElem_of_mem hx
  have hl : lastS o = o[o.length - 1] := by unfold lastS; rw [List.getD_eq_getElem?_getD, List.getElem?_eq_getElem (by omega)]; rfl
  rw [hl]
  by_cases he : i = o.length - 1
  · subst he; omega
  · have := (List.pairwise_iff_getElem.1 h.rise) i (o.length - 1) hi (by omega) (by omega)
    omega
theorem nest_rel {at_ op : Int} {s : ByteArray} {o : List OS} (h : Open s o) (hop : op = 21 ∨ op = 22 ∨ op = 23 ∨ op = 24) :
    (nestI at_ op s (o.map toI)).1 = (nestS at_ op s o).1 ∧ ((nestS at_ op s o).1 = 0 → (nestI at_ op s (o.map toI)).2 = (nestS at_ op s o).2.map toI ∧ Open s (nestS at_ op s o).2) := by
  unfold nestI nestS
  by_cases h1 : op = 21 ∨ op = 24
  · rw [if_pos h1, if_pos h1, List.length_map]
    by_cases h2 : o.length = 4
    · rw [if_pos h2, if_pos h2]; exact ⟨rfl, fun hc => by simp at hc⟩
    · rw [if_neg h2, if_neg h2]
      refine ⟨rfl, fun _ => ⟨?_, ?_, h.size, ?_, ?_⟩⟩
      · rw [List.map_append]
        congr 1
        simp only [List.map_cons, List.map_nil, toI]
        rcases h1 with rfl | rfl <;> rfl
      · have := h.len
        simp; omega
      · intro x hx
        rcases List.mem_append.1 hx with hx | hx
        · exact h.pre x hx
        · simp only [List.mem_singleton] at hx
          subst hx
          exact pre.refl s
      · rw [List.pairwise_append]
        refine ⟨h.rise, by simp, fun x hx y hy => ?_⟩
        simp only [List.mem_singleton] at hy
        subst hy
        exact (h.pre x hx).size
  · have h2 : op = 22 ∨ op = 23 := by omega
    rw [if_neg h1, if_neg h1, if_pos h2, List.length_map]
    by_cases h0 : o.length = 0
    · rw [if_pos (.inl h0), if_pos (.inl h0)]; exact ⟨rfl, fun hc => by simp at hc⟩
    · rw [last_map h0]
      have hc : (o.length = 0 ∨ (op = 22 ∧ ((toI (lastS o)).2.2.1 = false ∨ (toI (lastS o)).2.2.2.1 = true))) ↔ (o.length = 0 ∨ (op = 22 ∧ (lastS o).2.1 ≠ 21)) := by
        simp only [toI, h0, false_or]
        by_cases e : (lastS o).2.1 = 21
        · simp [e]
        · by_cases e2 : (lastS o).2.1 = 22 <;> simp [e, e2]
      by_cases h3 : o.length = 0 ∨ (op = 22 ∧ (lastS o).2.1 ≠ 21)
      · rw [if_pos (hc.2 h3), if_pos h3]; exact ⟨rfl, fun hc => by simp at hc⟩
      · rw [if_neg (fun e => h3 (hc.1 e)), if_neg h3]
        have hp := h.pre _ (last_mem h0)
        by_cases h4 : s = (lastS o).2.2.1
        · rw [if_neg (show ¬ ((s.size : Int) ≠ (toI (lastS o)).2.1) from fun e => e (congrArg (fun b : ByteArray => (b.size : Int)) h4)), if_neg (show ¬ (s ≠ (lastS o).2.2.1) from fun e => e h4)]
          by_cases h5 : op = 22
          · rw [if_pos h5, if_pos h5]
            have h6 : (lastS o).2.1 = 21 := Classical.not_not.1 fun e => h3 (.inr ⟨h5, e⟩)
            refine ⟨rfl, fun _ => ⟨?_, ?_, h.size, ?_, ?_⟩⟩
            · rw [List.map_set]
              simp [toI, h6]
            · simpa using h.len
            · intro x hx
              rcases List.mem_or_eq_of_mem_set hx with hx | hx
              · exact h.pre x hx
              · subst hx; exact hp
            · rw [List.pairwise_iff_getElem]
              intro i j hi hj hij
              simp only [List.length_set] at hi hj
              have hr := List.pairwise_iff_getElem.1 h.rise
              have hl : (lastS o).2.2.1 = (o[o.length - 1]).2.2.1 := by unfold lastS; rw [List.getD_eq_getElem?_getD, List.getElem?_eq_getElem (by omega)]; rfl
              have hset : ∀ (k : Nat) (hk : k < o.length) (hk' : k < (o.set (o.length - 1) ((lastS o).1, (22, ((lastS o).2.2.1, ())))).length), ((o.set (o.length - 1) ((lastS o).1, (22, ((lastS o).2.2.1, ()))))[k]).2.2.1 = (o[k]).2.2.1 := by
                intro k hk hk'
                rw [List.getElem_set]
                split
                · rename_i e
                  simp only [← e, hl]
                · rfl
              rw [hset i hi, hset j hj]
              exact hr i j hi hj hij
          · rw [if_neg h5, if_neg h5]
            refine ⟨rfl, fun _ => ⟨by rw [List.map_take], ?_, h.size, fun x hx => h.pre x (List.mem_of_mem_take hx), h.rise.sublist (List.take_sublist _ _)⟩⟩
            have := h.len
            simp; omega
        · rw [if_pos ?_, if_pos h4]
          · exact ⟨rfl, fun hc => by simp at hc⟩
          · intro e
            exact h4 (hp.eq (by simp only [toI] at e; omega))
theorem step_rel {at_ op a : Int} {ks : List Int} {n : Int} {s : ByteArray} {o : List OS} (h : Open s o) :
    (stepI at_ op a ks n s (o.map toI)).1 = (stepS at_ op a ks n s o).1 ∧
      ((stepS at_ op a ks n s o).1 = 0 → (stepI at_ op a ks n s (o.map toI)).2.1 = (stepS at_ op a ks n s o).2.1 ∧ (stepI at_ op a ks n s (o.map toI)).2.2 = (stepS at_ op a ks n s o).2.2.map toI ∧ Open (stepS at_ op a ks n s o).2.1 (stepS at_ op a ks n s o).2.2) := by
  have hz := effect_size op a ks
  unfold stepI stepS
  by_cases h1 : (op = 19 ∨ op = 20) ∧ (ks.length : Int) ≤ a
  · rw [if_pos h1, if_pos h1]; exact ⟨rfl, fun hc => by simp at hc⟩
  rw [if_neg h1, if_neg h1]
  by_cases h2 : op = 26 ∧ n ≤ a
  · rw [if_pos h2, if_pos h2]; exact ⟨rfl, fun hc => by simp at hc⟩
  rw [if_neg h2, if_neg h2, base_map]
  have hfl := h.floor
  have hsz := h.size
  by_cases h3 : (s.size : Int) - (effect op a ks).1.size < floorS o
  · have e : takeS s (effect op a ks).1 (floorS o) = (e0, 13) := by unfold takeS; rw [if_pos (by omega)]
    rw [if_pos h3, e, if_pos (by decide)]; exact ⟨rfl, fun hc => by simp at hc⟩
  rw [if_neg h3]
  by_cases h4 : s.extract (s.size - (effect op a ks).1.size) s.size ≠ (effect op a ks).1
  · have e : takeS s (effect op a ks).1 (floorS o) = (e0, 12) := by unfold takeS; rw [if_neg (by omega), if_pos h4]
    rw [if_pos h4, e, if_pos (by decide)]; exact ⟨rfl, fun hc => by simp at hc⟩
  have e : takeS s (effect op a ks).1 (floorS o) = (s.extract 0 (s.size - (effect op a ks).1.size), 0) := by unfold takeS; rw [if_neg (by omega), if_neg h4]
  rw [if_neg h4, e, if_neg (show ¬ ((s.extract 0 (s.size - (effect op a ks).1.size), (0 : Int)).2 ≠ 0) from fun e => e rfl)]
  dsimp only
  have hx : (s.extract 0 (s.size - (effect op a ks).1.size)).size = s.size - (effect op a ks).1.size := by rw [size_extract _ (by omega), Nat.sub_zero]
  by_cases h5 : (s.extract 0 (s.size - (effect op a ks).1.size)).size + (effect op a ks).2.size > 8
  · rw [if_pos (by rw [size_append]; exact h5), if_pos h5]; exact ⟨rfl, fun hc => by simp at hc⟩
  rw [if_neg (by rw [size_append]; exact h5), if_neg h5]
  have ho : Open (s.extract 0 (s.size - (effect op a ks).1.size) ++ (effect op a ks).2) o := by
    refine ⟨h.len, by rw [size_append]; omega, fun x hx => ?_, h.rise⟩
    have := h.below hx
    exact ((h.pre x hx).extract (by omega) (by omega)).append _
  by_cases h6 : within op 21 24 = true
  · rw [if_pos h6]
    have h6' := within_iff.1 h6
    obtain ⟨k1, k2⟩ := nest_rel (at_ := at_) ho (by omega : op = 21 ∨ op = 22 ∨ op = 23 ∨ op = 24)
    exact ⟨k1, fun hc => ⟨rfl, (k2 hc).1, (k2 hc).2⟩⟩
  · rw [if_neg h6]
    have h6' : ¬ (21 ≤ op ∧ op ≤ 24) := fun e => h6 (within_iff.2 e)
    have e : nestI at_ op (s.extract 0 (s.size - (effect op a ks).1.size) ++ (effect op a ks).2) (o.map toI) = (0, o.map toI) := by
      unfold nestI; rw [if_neg (by omega), if_neg (by omega)]
    rw [e]
    exact ⟨rfl, fun _ => ⟨rfl, rfl, ho⟩⟩
end Go.Ry
