/- FnOps: whatever is handed in, it returns true, and what was handed in reads as it did. No condition. -/
import Derived.Test.YtonmkhdbgofbpaaRows
import Derived.Test.YtonmkhdbgofbpaaPOps18
import Derived.WalkKit
import Derived.ProofKit
import Derived.OpenShut
import Derived.ShutString
import Derived.ChangeOld
import Derived.Below
import Derived.SizedLaws
namespace Go.Proofs.Ytonmkhdbgofbpaa.fnOps
open Go.ChangeShapes Go.WideShapes Go.ChangeAt Go.RowKit Go.Ry
set_option linter.unusedVariables false
theorem own : ownKnob Try.prog.godebug = none := by kernel_rfl
theorem laidOut : laidOutB Try.prog = true := by kernel_rfl
theorem size : Try.f5.params.size = 2 := by kernel_rfl
theorem spec (H : Type) : ∀ ds : List (DataW H), ds.length = Try.f5.params.size → (Rows.fnOpsSpec.fn H ds).results = [.lit (.bool true)] ∧ (Rows.fnOpsSpec.fn H ds).args = ds ∧ (Rows.fnOpsSpec.fn H ds).vars = [] := by
  intro ds h
  rw [size] at h
  match ds, h with
  | [d1, d2], _ => exact ⟨rfl, rfl, rfl⟩
theorem runs (x : Vals [(.slice (.int .u8)), (.slice (.int .u8))]) (hx : Vals.wf _ x) : Triple Try.prog 5 (Vals.ents _ x) [] (.one (.bool true)) [] :=
  c_laws_FnOps (x.1) hx.1 (x.2.1) hx.2.1
set_option maxRecDepth 100000 in
theorem lifted (os : Os) (started : os.Started) (H : Type) (enc : TypeId × Value → H) :
    ReturnsInHanded {} Try.checked os 5 .any (Rows.fnOpsSpec.pre6 enc Try.prog Try.f5 Rows.fnOpsRow.domain false) (Rows.fnOpsSpec.post enc Try.prog Try.f5 false true false false) := by
  refine returnsInHanded_of_change_sized (C := Try.checked) own started (by kernel_rfl) Try.func5
    (ChangeSpec.witness6 (enc := enc) (C := Try.checked) false ⟨#[], #[.slice none 0 0, .slice none 0 0], []⟩ 8 (by kernel_rfl) (by kernel_rfl) (by kernel_rfl) (by kernel_rfl)) ?_
  intro W base args ds gs before hval0 hW hcnd hsz0 _
  exact law_calls (c := bodyOf Try.f5) (tb := 4) laidOut Try.func5 (by kernel_rfl) (by kernel_rfl) (by kernel_rfl) (by kernel_rfl) Try.underlying4 rfl (spec H) runs W base args ds gs before hval0 hW
theorem over : Rows.fnOpsRow.holds Try.pinned (OpenSpec.ofChange Rows.fnOpsSpec) :=
  OpenClaim.holds_of_wide 5 Try.f5 rfl rfl rfl rfl rfl rfl rfl ⟨rfl, rfl, rfl, rfl, rfl⟩ rfl rfl rfl rfl rfl (by kernel_rfl) Try.func5 (by kernel_rfl)
    (of_decide_eq_true (by kernel_rfl)) (by unfold Func.isWrapper; first | (rw [if_pos (by decide +kernel)]; kernel_rfl) | (rw [if_neg (by decide +kernel)]; exact ⟨rfl, rfl⟩))
    (fun os started H enc _ => lifted os started H enc)
theorem proved : Rows.FnOpsSaid := over
#print axioms proved
end Go.Proofs.Ytonmkhdbgofbpaa.fnOps
namespace Go.Proofs.Ytonmkhdbgofbpaa
/-- The row, under a short name, for the claim. -/
theorem fnOps_holds : Rows.FnOpsSaid := fnOps.proved
end Go.Proofs.Ytonmkhdbgofbpaa
