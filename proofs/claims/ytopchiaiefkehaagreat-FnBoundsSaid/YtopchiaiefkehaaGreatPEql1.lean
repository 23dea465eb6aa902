/- Equal lists of numbers and of bools. No condition. -/
import Derived.Test.YtopchiaiefkehaaGreatPNum2
set_option linter.unusedVariables false
set_option linter.unusedSimpArgs false
set_option synthInstance.maxSize 4000
namespace Go.Ry
open Go.Proofs

theorem ext_getD {α : Type} {l m : List α} {d : α} (hl : l.length = m.length) (h : ∀ j, j < l.length → l.getD j d = m.getD j d) : l = m := by
  apply List.ext_getElem hl
  intro i h1 h2
  have := h i h1
  rw [List.getD_eq_getElem?_getD, List.getD_eq_getElem?_getD, List.getElem?_eq_getElem h1, List.getElem?_eq_getElem h2] at this
  exact this
theorem c_Equal_int2 (a b : List Int) (ha : a.length ≤ 1048576) : TT n_slices_Equal_int_int [.one (.sl tyInt a), .one (.sl tyInt b)] [] (eB (decide (a = b))) [] := by
  refine r_slices_Equal_int_int a b (ifN (fun h => ⟨by rw [decide_eq_false (fun e => h (by rw [e]))], rfl⟩) (fun h => ?_))
  refine ⟨fun m i => 0 ≤ i ∧ i ≤ a.length ∧ m = (a.length - i).toNat ∧ ∀ j, j < i.toNat → a.getD j 0 = b.getD j 0, ⟨_, rfl, by omega, by omega, rfl, fun j hj => by simp at hj⟩, ?_⟩
  rintro m i ⟨h0, h1, rfl, h2⟩
  refine ifP (fun hlt => ⟨⟨h0, hlt⟩, ⟨h0, by omega⟩, ifN (fun he => ⟨by rw [decide_eq_false (fun e => he (by rw [e]))], rfl⟩) (fun he => ?_)⟩) (fun hge => ⟨by rw [decide_eq_true (ext_getD (d := 0) (by omega) fun j hj => h2 j (by omega))], rfl⟩)
  rw [w64 (x := i + 1) (by omega)]
  refine ⟨_, by omega, rfl, by omega, by omega, rfl, fun j hj => ?_⟩
  rcases Nat.lt_or_ge j i.toNat with h8 | h8
  · exact h2 j h8
  · rw [show j = i.toNat by omega]; exact he
theorem c_Equal_bool2 (a b : List Bool) (ha : a.length ≤ 1048576) : TT n_slices_Equal_bool_bool [.one (.sl .bool a), .one (.sl .bool b)] [] (eB (decide (a = b))) [] := by
  refine r_slices_Equal_bool_bool a b (ifN (fun h => ⟨by rw [decide_eq_false (fun e => h (by rw [e]))], rfl⟩) (fun h => ?_))
  refine ⟨fun m i => 0 ≤ i ∧ i ≤ a.length ∧ m = (a.length - i).toNat ∧ ∀ j, j < i.toNat → a.getD j false = b.getD j false, ⟨_, rfl, by omega, by omega, rfl, fun j hj => by simp at hj⟩, ?_⟩
  rintro m i ⟨h0, h1, rfl, h2⟩
  refine ifP (fun hlt => ⟨⟨h0, hlt⟩, ⟨h0, by omega⟩, ifB_cases (fun he => ⟨by rw [decide_eq_false (fun e => by rw [e] at he; simp at he)], rfl⟩) (fun he => ?_)⟩) (fun hge => ⟨by rw [decide_eq_true (ext_getD (d := false) (by omega) fun j hj => h2 j (by omega))], rfl⟩)
  rw [w64 (x := i + 1) (by omega)]
  refine ⟨_, by omega, rfl, by omega, by omega, rfl, fun j hj => ?_⟩
  rcases Nat.lt_or_ge j i.toNat with h8 | h8
  · exact h2 j h8
  · rw [show j = i.toNat by omega]
    simpa only [Bool.not_eq_false', beq_iff_eq] using he
end Go.Ry
