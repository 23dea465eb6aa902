/- FnExactReadCode: whatever is handed in, it returns true, and what was handed in reads as it did. No condition. -/
import Derived.Test.YtlphiljackccnaaRows
import Derived.Test.YtlphiljackccnaaPCodeC
import Derived.WalkKit
import Derived.ProofKit
import Derived.OpenShut
import Derived.ShutString
import Derived.ChangeOld
import Derived.Below
import Derived.SizedLaws
namespace Go.Proofs.Ytlphiljackccnaa.fnExactReadCode
open Go.ChangeShapes Go.WideShapes Go.ChangeAt Go.RowKit Go.Ry
set_option linter.unusedVariables false
theorem own : ownKnob Try.prog.godebug = none := by kernel_rfl
theorem laidOut : laidOutB Try.prog = true := by kernel_rfl
theorem size : Try.f12.params.size = 1 := by kernel_rfl
theorem spec (H : Type) : ∀ ds : List (DataW H), ds.length = Try.f12.params.size → (Rows.fnExactReadCodeSpec.fn H ds).results = [.lit (.bool true)] ∧ (Rows.fnExactReadCodeSpec.fn H ds).args = ds ∧ (Rows.fnExactReadCodeSpec.fn H ds).vars = [] := by
  intro ds h
  rw [size] at h
  match ds, h with
  | [d1], _ => exact ⟨rfl, rfl, rfl⟩
theorem runs (x : Vals [.str]) (hx : Vals.wf _ x) : Triple Try.prog 12 (Vals.ents _ x) [] (.one (.bool true)) [] :=
  c_laws_FnExactReadCode (x.1)
set_option maxRecDepth 100000 in
theorem lifted (os : Os) (started : os.Started) (H : Type) (enc : TypeId × Value → H) :
    ReturnsInHanded {} Try.checked os 12 .any (Rows.fnExactReadCodeSpec.pre6 enc Try.prog Try.f12 Rows.fnExactReadCodeRow.domain false) (Rows.fnExactReadCodeSpec.post enc Try.prog Try.f12 false true false false) := by
  refine returnsInHanded_of_change_sized (C := Try.checked) own started (by kernel_rfl) Try.func12
    (ChangeSpec.witness6 (enc := enc) (C := Try.checked) false ⟨#[], #[.string ByteArray.empty], []⟩ 8 (by kernel_rfl) (by kernel_rfl) (by kernel_rfl) (by kernel_rfl)) ?_
  intro W base args ds gs before hval0 hW hcnd hsz0 _
  exact law_calls (c := bodyOf Try.f12) (tb := 4) laidOut Try.func12 (by kernel_rfl) (by kernel_rfl) (by kernel_rfl) (by kernel_rfl) Try.underlying4 rfl (spec H) runs W base args ds gs before hval0 hW
theorem over : Rows.fnExactReadCodeRow.holds Try.pinned (OpenSpec.ofChange Rows.fnExactReadCodeSpec) :=
  OpenClaim.holds_of_wide 12 Try.f12 rfl rfl rfl rfl rfl rfl rfl ⟨rfl, rfl, rfl, rfl, rfl⟩ rfl rfl rfl rfl rfl (by kernel_rfl) Try.func12 (by kernel_rfl)
    (of_decide_eq_true (by kernel_rfl)) (by unfold Func.isWrapper; first | (rw [if_pos (by decide +kernel)]; kernel_rfl) | (rw [if_neg (by decide +kernel)]; exact ⟨rfl, rfl⟩))
    (fun os started H enc _ => lifted os started H enc)
theorem proved : Rows.FnExactReadCodeSaid := over
#print axioms proved
end Go.Proofs.Ytlphiljackccnaa.fnExactReadCode
namespace Go.Proofs.Ytlphiljackccnaa
/-- The row, under a short name, for the claim. -/
theorem fnExactReadCode_holds : Rows.FnExactReadCodeSaid := fnExactReadCode.proved
end Go.Proofs.Ytlphiljackccnaa
