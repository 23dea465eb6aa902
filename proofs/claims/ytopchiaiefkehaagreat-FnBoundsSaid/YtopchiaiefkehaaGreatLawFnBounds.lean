/- FnBounds: whatever is handed in, it returns true, and what was handed in reads as it did. No condition. -/
import Derived.Test.YtopchiaiefkehaaGreatRows
import Derived.Test.YtopchiaiefkehaaGreatPBds2
import Derived.WalkKit
import Derived.ProofKit
import Derived.OpenShut
import Derived.ShutString
import Derived.ChangeOld
import Derived.Below
import Derived.SizedLaws
namespace Go.Proofs.YtopchiaiefkehaaGreat.fnBounds
open Go.ChangeShapes Go.WideShapes Go.ChangeAt Go.RowKit Go.Ry
set_option linter.unusedVariables false
theorem own : ownKnob Tryz.prog.godebug = none := by kernel_rfl
theorem laidOut : laidOutB Tryz.prog = true := by kernel_rfl
theorem size : Tryz.f4.params.size = 2 := by kernel_rfl
theorem spec (H : Type) : ∀ ds : List (DataW H), ds.length = Tryz.f4.params.size → (Rows.fnBoundsSpec.fn H ds).results = [.lit (.bool true)] ∧ (Rows.fnBoundsSpec.fn H ds).args = ds ∧ (Rows.fnBoundsSpec.fn H ds).vars = [] := by
  intro ds h
  rw [size] at h
  match ds, h with
  | [d1, d2], _ => exact ⟨rfl, rfl, rfl⟩
theorem runs (x : Vals [(.slice (.int .u8)), (.slice (.int .u8))]) (hx : Vals.wf _ x) : Triple Tryz.prog 4 (Vals.ents _ x) [] (.one (.bool true)) [] :=
  c_laws_FnBounds (x.1) hx.1 (x.2.1) hx.2.1
set_option maxRecDepth 100000 in
theorem lifted (os : Os) (started : os.Started) (H : Type) (enc : TypeId × Value → H) :
    ReturnsInHanded {} Tryz.checked os 4 .any (Rows.fnBoundsSpec.pre6 enc Tryz.prog Tryz.f4 Rows.fnBoundsRow.domain false) (Rows.fnBoundsSpec.post enc Tryz.prog Tryz.f4 false true false false) := by
  refine returnsInHanded_of_change_sized (C := Tryz.checked) own started (by kernel_rfl) Tryz.func4
    (ChangeSpec.witness6 (enc := enc) (C := Tryz.checked) false ⟨#[], #[.slice none 0 0, .slice none 0 0], []⟩ 8 (by kernel_rfl) (by kernel_rfl) (by kernel_rfl) (by kernel_rfl)) ?_
  intro W base args ds gs before hval0 hW hcnd hsz0 _
  exact law_calls (c := bodyOf Tryz.f4) (tb := 4) laidOut Tryz.func4 (by kernel_rfl) (by kernel_rfl) (by kernel_rfl) (by kernel_rfl) Tryz.underlying4 rfl (spec H) runs W base args ds gs before (fun _ h => by cases h) hval0 hW
theorem over : Rows.fnBoundsRow.holds Tryz.pinned (OpenSpec.ofChange Rows.fnBoundsSpec) :=
  OpenClaim.holds_of_wide 4 Tryz.f4 rfl rfl rfl rfl rfl rfl rfl ⟨rfl, rfl, rfl, rfl, rfl⟩ rfl rfl rfl rfl rfl (by kernel_rfl) Tryz.func4 (by kernel_rfl)
    (of_decide_eq_true (by kernel_rfl)) (by unfold Func.isWrapper; first | (rw [if_pos (by decide +kernel)]; kernel_rfl) | (rw [if_neg (by decide +kernel)]; exact ⟨rfl, rfl⟩))
    (fun os started H enc _ => lifted os started H enc)
theorem proved : Rows.FnBoundsSaid := over
#print axioms proved
end Go.Proofs.YtopchiaiefkehaaGreat.fnBounds
namespace Go.Proofs.YtopchiaiefkehaaGreat
/-- The row, under a short name, for the claim. -/
theorem fnBounds_holds : Rows.FnBoundsSaid := fnBounds.proved
end Go.Proofs.YtopchiaiefkehaaGreat
