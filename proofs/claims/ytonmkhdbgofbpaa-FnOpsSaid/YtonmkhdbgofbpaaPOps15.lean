/- The law of operations. No condition. -/
import Derived.Test.YtonmkhdbgofbpaaPOps14
set_option linter.unusedVariables false
set_option linter.unusedSimpArgs false
namespace Go.Ry
open Go.Proofs

theorem effect_small (op a : Int) (ks : List Int) : (effect op a ks).1.size ≤ 3 ∧ (effect op a ks).2.size ≤ 1 := by
  have ht : ∀ k, (takes k).size ≤ 3 := fun k => by
    unfold takes
    by_cases h : (k - 1).toNat < 4
    · have : (k - 1).toNat = 0 ∨ (k - 1).toNat = 1 ∨ (k - 1).toNat = 2 ∨ (k - 1).toNat = 3 := by omega
      rcases this with e | e | e | e <;> rw [e] <;> decide
    · rw [List.getD_eq_getElem?_getD, List.getElem?_eq_none (by simp [takesL]; omega)]; decide
  unfold effect
  repeat' split
  all_goals first
    | exact ⟨ht (ks.getD a.toNat 0), show bB.size ≤ 1 by decide⟩
    | decide
    | fail
theorem bin_val {n : Int} (h : bin n) : isVal n = true := by rcases h with rfl | rfl <;> decide
theorem bin_within {n : Int} (h : bin n) : within n 0 1 = true := by rcases h with rfl | rfl <;> decide
@[reducible] def stk (v b c d e : Int) : List Int := [77, v, b, c, d, e]
theorem stk_arg {v b c d e : Int} (hv : isVal v = true) (hb : bin b) (hc : bin c) (hd : bin d) (he : bin e) {t : Nat} (ht : t ≤ 3) (i : Nat) (hi : i < t) : bin (ar ((stk v b c d e).drop ((stk v b c d e).length - t)) i) := by
  have h1 : t = 1 ∨ t = 2 ∨ t = 3 := by omega
  rcases h1 with rfl | rfl | rfl
  · have : i = 0 := by omega
    subst this; exact he
  · have : i = 0 ∨ i = 1 := by omega
    rcases this with rfl | rfl
    · exact hd
    · exact he
  · have : i = 0 ∨ i = 1 ∨ i = 2 := by omega
    rcases this with rfl | rfl | rfl
    · exact hc
    · exact hd
    · exact he
theorem stk_val {v b c d e : Int} (hb : bin b) (hc : bin c) (hd : bin d) (he : bin e) {t : Nat} (ht : t ≤ 3) (i : Nat) : isVal (ar ((stk v b c d e).drop ((stk v b c d e).length - t)) i) = true := by
  by_cases hi : i < t
  · have h1 : t = 1 ∨ t = 2 ∨ t = 3 := by omega
    rcases h1 with rfl | rfl | rfl
    · have : i = 0 := by omega
      subst this; exact bin_val he
    · have : i = 0 ∨ i = 1 := by omega
      rcases this with rfl | rfl
      · exact bin_val hd
      · exact bin_val he
    · have : i = 0 ∨ i = 1 ∨ i = 2 := by omega
      rcases this with rfl | rfl | rfl
      · exact bin_val hc
      · exact bin_val hd
      · exact bin_val he
  · have : ar ((stk v b c d e).drop ((stk v b c d e).length - t)) i = 0 := by
      unfold ar
      rw [List.getD_eq_getElem?_getD, List.getElem?_eq_none (by simp; omega)]; rfl
    rw [this]; decide
theorem stk_fits {v b c d e : Int} (hb : bin b) (hc : bin c) (hd : bin d) (he : bin e) (hv : isVal v = true) (op a : Int) (ks : List Int) : fitsM op a ks (stk v b c d e) = true := by
  obtain ⟨h1, h2⟩ := effect_small op a ks
  unfold fitsM
  rw [Bool.and_eq_true, onM_iff, decide_eq_true_eq]
  refine ⟨⟨by simp; omega, fun i hi => ?_⟩, by simp; omega⟩
  have hb' := stk_arg hv hb hc hd he h1 i hi
  unfold okI
  split
  · rw [bin_within hb', bin_val hb']; rfl
  · exact bin_val hb'
end Go.Ry
