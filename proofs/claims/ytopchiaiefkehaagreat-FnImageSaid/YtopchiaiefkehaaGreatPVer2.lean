/- The verifiers: one instruction, and all of a code. No condition. -/
import Derived.Test.YtopchiaiefkehaaGreatPVer1
set_option linter.unusedVariables false
set_option linter.unusedSimpArgs false
namespace Go.Ry
open Go.Proofs

theorem last_nat {α : Type} {o : List α} (h : o.length ≤ 4) (h0 : 0 < o.length) : Int.toNat (wI ((o.length : Int) - 1)) = o.length - 1 := by rw [w64 (by omega)]; omega
theorem last_int {α : Type} {o : List α} (h : o.length ≤ 4) : wI ((o.length : Int) - 1) = (o.length : Int) - 1 := w64 (by omega)

/-! ### the program's -/
@[reducible] def dOI : OI := ((0 : Int), ((0 : Int), (false, (false, ()))))
@[reducible] def dOS : OS := ((0 : Int), ((0 : Int), ((⟨#[]⟩ : ByteArray), ())))
def lastI (o : List OI) : OI := o.getD (o.length - 1) dOI
def baseI (o : List OI) : Int := if o.length = 0 then 0 else (lastI o).2.1
def nestI (at_ op : Int) (s : ByteArray) (o : List OI) : Int × List OI :=
  if op = 21 ∨ op = 24 then if o.length = 4 then (17, o) else (0, o ++ [(at_, ((s.size : Int), (op == 21, (false, ()))))])
  else if op = 22 ∨ op = 23 then
    if o.length = 0 ∨ (op = 22 ∧ ((lastI o).2.2.1 = false ∨ (lastI o).2.2.2.1 = true)) then (14, o)
    else if (s.size : Int) ≠ (lastI o).2.1 then (13, o)
    else if op = 22 then (0, o.set (o.length - 1) ((lastI o).1, ((lastI o).2.1, ((lastI o).2.2.1, (true, ()))))) else (0, o.take (o.length - 1))
  else (0, o)
theorem c_impl_base (ks : List Int) (n : Int) (s : ByteArray) (o : List OI) (ho : o.length ≤ 4) :
    TT n_impl_verifier_base [.one (.ptrB 0 0)] [vBox ks n s 1, .row t_impl_structure tOI o] (eI (baseI o)) [vBox ks n s 1, .row t_impl_structure tOI o] := by
  refine r_impl_verifier_base ks n s o (ifE (fun h => ?_) (fun h => ?_))
  · exact ⟨by simp [baseI, show o.length = 0 by omega], rfl⟩
  · rw [last_nat ho (by omega), last_int ho]
    exact ⟨by omega, by simp [baseI, show ¬ o.length = 0 by omega, lastI], rfl⟩
theorem c_impl_nest (at_ op : Int) (ks : List Int) (n : Int) (s : ByteArray) (o : List OI) (ho : o.length ≤ 4) :
    TT n_impl_verifier_nest [.one (.ptrB 0 0), eI at_, eI op] [vBox ks n s 1, .row t_impl_structure tOI o] (eI (nestI at_ op s o).1) [vBox ks n s 2, .dead, .row t_impl_structure tOI (nestI at_ op s o).2] := by
  refine r_impl_verifier_nest at_ op ks n s o ⟨fun b r => b = (op == 21 || op == 24) ∧ o = r, ?_, ?_⟩
  · repeat' (first | refine ifB_cases (fun _ => ?_) (fun _ => ?_) | refine ⟨rfl, ?_⟩ | fail)
    all_goals simp [*]
  rintro b r ⟨rfl, rfl⟩
  refine ifB_cases (fun h1 => ?_) (fun h1 => ?_)
  · have h1 : op = 21 ∨ op = 24 := by simpa using h1
    refine ifE (fun h2 => ?_) (fun h2 => ⟨by simp; omega, ?_⟩)
    · simp [nestI, h1, show o.length = 4 by omega]
      exact List.take_of_length_le (by omega)
    · simp [nestI, h1, show ¬ o.length = 4 by omega]
  have h1 : ¬ (op = 21 ∨ op = 24) := by simpa using h1
  refine ⟨fun b r => b = (op == 22 || op == 23) ∧ o = r, ?_, ?_⟩
  · repeat' (first | refine ifB_cases (fun _ => ?_) (fun _ => ?_) | refine ⟨rfl, ?_⟩ | fail)
    all_goals simp [*]
  rintro b r ⟨rfl, rfl⟩
  refine ifB_cases (fun h2 => ?_) (fun h2 => ?_)
  rotate_left
  · have h2 : ¬ (op = 22 ∨ op = 23) := by simpa using h2
    simp [nestI, h1, h2]
  have h2 : op = 22 ∨ op = 23 := by simpa using h2
  rw [last_int ho]
  refine ⟨fun k b r => k = (o.length : Int) - 1 ∧ b = decide (o.length = 0 ∨ (op = 22 ∧ ((lastI o).2.2.1 = false ∨ (lastI o).2.2.2.1 = true))) ∧ o = r, ?_, ?_⟩
  · refine ifP (fun h3 => ⟨rfl, rfl, rfl, by simp [show o.length = 0 by omega], rfl⟩) (fun h3 => ?_)
    have h3 : ¬ o.length = 0 := by omega
    have e : ((o.length : Int) - 1).toNat = o.length - 1 := by omega
    rw [e]
    refine ifE (fun h4 => ⟨by omega, ifB_cases (fun h5 => ⟨rfl, rfl, rfl, ?_, rfl⟩) (fun h5 => ⟨by omega, rfl, rfl, rfl, ?_, rfl⟩)⟩) (fun h4 => ⟨rfl, rfl, rfl, by simp [h3, h4], rfl⟩)
    · have h5 : (!(lastI o).2.2.1) = true := h5
      simp only [Bool.not_eq_true'] at h5
      simp [h3, h4, h5]
    · have h5 : (!(lastI o).2.2.1) = false := h5
      simp only [Bool.not_eq_false'] at h5
      simp only [h3, h4, h5, false_or, true_and, Bool.true_eq_false]
      show (lastI o).2.2.2.1 = _
      cases (lastI o).2.2.2.1 <;> simp
  rintro k b r ⟨rfl, rfl, rfl⟩
  refine ifP (fun h3 => ?_) (fun h3 => ?_)
  · have e : nestI at_ op s o = (14, o) := by simp only [nestI, if_neg h1, if_pos h2, if_pos h3]
    rw [e, List.take_length]; exact ⟨rfl, rfl⟩
  have h3' : ¬ o.length = 0 := fun e => h3 (.inl e)
  have e : ((o.length : Int) - 1).toNat = o.length - 1 := by omega
  rw [e]
  refine ⟨by omega, ifN (fun h4 => ?_) (fun h4 => ?_)⟩
  · have h4 : ¬ (s.size : Int) = (lastI o).2.1 := h4
    have e : nestI at_ op s o = (13, o) := by simp only [nestI, if_neg h1, if_pos h2, if_neg h3, ne_eq, h4, not_false_eq_true, if_true]
    rw [e, List.take_length]; exact ⟨rfl, rfl⟩
  · have h4 : (s.size : Int) = (lastI o).2.1 := h4
    refine ifE (fun h5 => ⟨by omega, ?_⟩) (fun h5 => ⟨by omega, ?_⟩)
    · have e : nestI at_ op s o = (0, o.set (o.length - 1) ((lastI o).1, ((lastI o).2.1, ((lastI o).2.2.1, (true, ()))))) := by simp only [nestI, if_neg h1, if_pos h2, if_neg h3, ne_eq, h4, not_true_eq_false, if_false, if_pos h5]
      rw [e, List.take_length]; exact ⟨rfl, rfl⟩
    · have e : nestI at_ op s o = (0, o.take (o.length - 1)) := by simp only [nestI, if_neg h1, if_pos h2, if_neg h3, ne_eq, h4, not_true_eq_false, if_false, if_neg h5]
      rw [e]; exact ⟨rfl, rfl⟩
end Go.Ry
