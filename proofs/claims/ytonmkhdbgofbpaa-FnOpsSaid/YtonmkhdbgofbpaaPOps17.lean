/- The law of operations holds. No condition. -/
import Derived.Test.YtonmkhdbgofbpaaPOps16
set_option linter.unusedVariables false
set_option linter.unusedSimpArgs false
namespace Go.Ry
open Go.Proofs

theorem app_cut {x : Dat} (hD : DatOK x) {v b c d e : Int} (hv : isVal v = true) (hb : bin b) (hc : bin c) (hd : bin d) (he : bin e) :
    appCode x 25 0 (stk v b c d e) 9 = 0 ∧ appRes x 25 0 (stk v b c d e) 9 = (x, stk v b c d e) := by
  have hi : instrOK 25 0 = true := by decide
  have hcode : appCode x 25 0 (stk v b c d e) 9 = 0 := by
    rcases app_ok hD hi (fun k => by omega) hv hb hc hd he with h | h
    · exfalso
      have hx := datOK_iff.2 hD
      have hf := stk_fits hb hc hd he hv 25 0 (kindsD x.f)
      have hp : preCode x 25 0 (stk v b c d e) 9 = 0 := by
        unfold preCode
        rw [if_neg (by simp), if_neg (by simp [hx]), if_neg (by simp [hi]), if_neg (by decide), if_neg (by decide), if_neg (by omega)]
      unfold appCode at h
      rw [if_neg (by simpa using hp), if_neg (by simp [hf])] at h
      omega
    · exact h.1
  refine ⟨hcode, ?_⟩
  unfold appRes
  rw [if_pos hcode]
  simp [appM, argB, tk, effect]
  rfl
end Go.Ry
