/- The law of operations: joined. No condition. -/
import Derived.Test.YtonmkhdbgofbpaaPOps15
set_option linter.unusedVariables false
set_option linter.unusedSimpArgs false
namespace Go.Ry
open Go.Proofs

/-- What ApplyOp comes to on right data, a right instruction and that stack. -/
theorem app_ok {x : Dat} (hD : DatOK x) {op a v b c d e : Int} (hi : instrOK op a = true) (ha : op = 19 ∨ op = 20 → a < x.f.length) (hv : isVal v = true) (hb : bin b) (hc : bin c) (hd : bin d) (he : bin e) :
    appCode x op a (stk v b c d e) 9 = 10 ∨ (appCode x op a (stk v b c d e) 9 = 0 ∧ DatOK (appRes x op a (stk v b c d e) 9).1 ∧ ∃ t, (appRes x op a (stk v b c d e) 9).2 = 77 :: v :: t) := by
  have h9 : isTm 9 = true := by decide
  have hx := datOK_iff.2 hD
  have hf := stk_fits hb hc hd he hv op a (kindsD x.f)
  cases hct : isCtl op
  · have hp : preCode x op a (stk v b c d e) 9 = 0 := by
      unfold preCode
      rw [if_neg (by simp), if_neg (by simp [hx]), if_neg (by simp [hi]), if_neg (by simp [h9]), if_neg (by simp [hct]), if_neg (fun k => by have := ha k.1; omega)]
    have hcode : appCode x op a (stk v b c d e) 9 = 0 := by
      unfold appCode
      rw [if_neg (by simpa using hp), if_neg (by simp [hf])]
    have ho : onM (effect op a (kindsD x.f)).1 (stk v b c d e) = true := by
      unfold fitsM at hf
      rw [Bool.and_eq_true] at hf
      exact hf.1
    have fit := fit_of hp ho
    have hr : appRes x op a (stk v b c d e) 9 = appM x op a (argA x op a (stk v b c d e)) (argB x op a (stk v b c d e)) 9 := by unfold appRes; rw [if_pos hcode]
    have ht := (effect_small op a (kindsD x.f)).1
    refine .inr ⟨hcode, ?_, ?_⟩
    · rw [hr]
      exact appM_ok fit (fun i => stk_val hb hc hd he ht i) h9
    · rw [hr]
      obtain ⟨t, e1⟩ := appM_low x op a (argA x op a (stk v b c d e)) (argB x op a (stk v b c d e)) 9
      have hB : ∃ s, argB x op a (stk v b c d e) = 77 :: v :: s := by
        have h2 : tk x op a ≤ 3 := ht
        unfold argB
        generalize tk x op a = t at *
        have h1 : t = 0 ∨ t = 1 ∨ t = 2 ∨ t = 3 := by omega
        rcases h1 with rfl | rfl | rfl | rfl <;> exact ⟨_, rfl⟩
      obtain ⟨s, e2⟩ := hB
      exact ⟨s ++ t, by rw [e1, e2]; rfl⟩
  · refine .inl ?_
    have hp : preCode x op a (stk v b c d e) 9 = 10 := by
      unfold preCode
      rw [if_neg (by simp), if_neg (by simp [hx]), if_neg (by simp [hi]), if_neg (by simp [h9]), if_pos hct]
    unfold appCode
    rw [hp]; rfl
end Go.Ry
