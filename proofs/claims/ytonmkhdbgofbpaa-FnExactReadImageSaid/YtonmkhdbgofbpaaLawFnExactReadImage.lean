/- FnExactReadImage: whatever is handed in, it returns true, and what was handed in reads as it did. No condition. -/
import Derived.Test.YtonmkhdbgofbpaaRows
import Derived.Test.YtonmkhdbgofbpaaPImg4
import Derived.WalkKit
import Derived.ProofKit
import Derived.OpenShut
import Derived.ShutString
import Derived.ChangeOld
import Derived.Below
import Derived.SizedLaws
namespace Go.Proofs.Ytonmkhdbgofbpaa.fnExactReadImage
open Go.ChangeShapes Go.WideShapes Go.ChangeAt Go.RowKit Go.Ry
set_option linter.unusedVariables false
theorem own : ownKnob Try.prog.godebug = none := by kernel_rfl
theorem laidOut : laidOutB Try.prog = true := by kernel_rfl
theorem size : Try.f6.params.size = 1 := by kernel_rfl
theorem spec (H : Type) : ∀ ds : List (DataW H), ds.length = Try.f6.params.size → (Rows.fnExactReadImageSpec.fn H ds).results = [.lit (.bool true)] ∧ (Rows.fnExactReadImageSpec.fn H ds).args = ds ∧ (Rows.fnExactReadImageSpec.fn H ds).vars = [] := by
  intro ds h
  rw [size] at h
  match ds, h with
  | [d1], _ => exact ⟨rfl, rfl, rfl⟩
theorem runs (x : Vals [.str]) (hx : Vals.wf _ x) : Triple Try.prog 6 (Vals.ents _ x) [] (.one (.bool true)) [] :=
  c_laws_FnExactReadImage (x.1) hx.1
set_option maxRecDepth 100000 in
theorem lifted (os : Os) (started : os.Started) (H : Type) (enc : TypeId × Value → H) :
    ReturnsInHanded {} Try.checked os 6 .any (Rows.fnExactReadImageSpec.pre6 enc Try.prog Try.f6 Rows.fnExactReadImageRow.domain false) (Rows.fnExactReadImageSpec.post enc Try.prog Try.f6 false true false false) := by
  refine returnsInHanded_of_change_sized (C := Try.checked) own started (by kernel_rfl) Try.func6
    (ChangeSpec.witness6 (enc := enc) (C := Try.checked) false ⟨#[], #[.string ByteArray.empty], []⟩ 8 (by kernel_rfl) (by kernel_rfl) (by kernel_rfl) (by kernel_rfl)) ?_
  intro W base args ds gs before hval0 hW hcnd hsz0 _
  exact law_calls (c := bodyOf Try.f6) (tb := 4) laidOut Try.func6 (by kernel_rfl) (by kernel_rfl) (by kernel_rfl) (by kernel_rfl) Try.underlying4 rfl (spec H) runs W base args ds gs before hval0 hW
theorem over : Rows.fnExactReadImageRow.holds Try.pinned (OpenSpec.ofChange Rows.fnExactReadImageSpec) :=
  OpenClaim.holds_of_wide 6 Try.f6 rfl rfl rfl rfl rfl rfl rfl ⟨rfl, rfl, rfl, rfl, rfl⟩ rfl rfl rfl rfl rfl (by kernel_rfl) Try.func6 (by kernel_rfl)
    (of_decide_eq_true (by kernel_rfl)) (by unfold Func.isWrapper; first | (rw [if_pos (by decide +kernel)]; kernel_rfl) | (rw [if_neg (by decide +kernel)]; exact ⟨rfl, rfl⟩))
    (fun os started H enc _ => lifted os started H enc)
theorem proved : Rows.FnExactReadImageSaid := over
#print axioms proved
end Go.Proofs.Ytonmkhdbgofbpaa.fnExactReadImage
namespace Go.Proofs.Ytonmkhdbgofbpaa
/-- The row, under a short name, for the claim. -/
theorem fnExactReadImage_holds : Rows.FnExactReadImageSaid := fnExactReadImage.proved
end Go.Proofs.Ytonmkhdbgofbpaa
