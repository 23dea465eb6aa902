/- FnExactSamePlc: whatever is handed in, it returns true, and what was handed in reads as it did. No condition. -/
import Derived.Test.YthpolfpbioebnaaGreatRows
import Derived.Test.YthpolfpbioebnaaGreatPSam5
import Derived.WalkKit
import Derived.ProofKit
import Derived.OpenShut
import Derived.ShutString
import Derived.ChangeOld
import Derived.Below
import Derived.SizedLaws
namespace Go.Proofs.YthpolfpbioebnaaGreat.fnExactSamePlc
open Go.ChangeShapes Go.WideShapes Go.ChangeAt Go.RowKit Go.Ry
set_option linter.unusedVariables false
theorem own : ownKnob Tryz.prog.godebug = none := by kernel_rfl
theorem laidOut : laidOutB Tryz.prog = true := by kernel_rfl
theorem size : Tryz.f3.params.size = 2 := by kernel_rfl
theorem spec (H : Type) : ∀ ds : List (DataW H), ds.length = Tryz.f3.params.size → (Rows.fnExactSamePlcSpec.fn H ds).results = [.lit (.bool true)] ∧ (Rows.fnExactSamePlcSpec.fn H ds).args = ds ∧ (Rows.fnExactSamePlcSpec.fn H ds).vars = [] := by
  intro ds h
  rw [size] at h
  match ds, h with
  | [d1, d2], _ => exact ⟨rfl, rfl, rfl⟩
theorem runs (x : Vals [(.pair (.pair (.slice (.int .i64)) (.pair (.slice (.pair (.slice (.pair (.int .i64) (.pair (.int .i64) .unit))) .unit)) (.pair (.slice (.pair (.int .i64) (.pair (.int .i64) (.pair (.int .i64) (.pair (.int .i64) (.pair (.int .i64) (.pair (.int .i64) .unit))))))) (.pair (.slice .bool) .unit)))) (.pair (.pair (.slice (.int .i64)) (.pair (.slice (.pair (.int .i64) (.pair .bool (.pair (.int .i64) (.pair (.int .i64) .unit))))) (.pair (.slice .bool) (.pair (.slice .bool) (.pair (.slice .bool) (.pair (.slice .bool) (.pair (.int .i64) .unit))))))) (.pair (.int .i64) (.pair (.int .i64) (.pair (.int .i64) (.pair (.int .i64) (.pair .bool (.pair (.slice (.pair (.int .i64) (.pair (.int .i64) (.pair (.int .i64) (.pair (.int .i64) (.pair (.int .i64) (.pair (.int .i64) (.pair (.slice (.int .i64)) .unit)))))))) (.pair (.slice (.pair (.int .i64) (.pair (.int .i64) (.pair (.int .i64) (.pair (.int .i64) (.pair (.int .i64) (.pair (.pair (.slice (.pair (.int .i64) (.pair (.int .i64) (.pair (.slice (.int .i64)) .unit)))) (.pair (.slice (.int .i64)) .unit)) (.pair (.slice .bool) (.pair (.slice .bool) (.pair (.slice .bool) .unit)))))))))) (.pair (.slice (.pair (.int .i64) (.pair (.int .i64) (.pair (.int .i64) (.pair (.int .i64) .unit))))) .unit)))))))))), (.pair (.pair (.slice (.int .i64)) (.pair (.slice (.pair (.slice (.pair (.int .i64) (.pair (.int .i64) .unit))) .unit)) (.pair (.slice (.pair (.int .i64) (.pair (.int .i64) (.pair (.int .i64) (.pair (.int .i64) (.pair (.int .i64) (.pair (.int .i64) .unit))))))) (.pair (.slice .bool) .unit)))) (.pair (.pair (.slice (.int .i64)) (.pair (.slice (.pair (.int .i64) (.pair .bool (.pair (.int .i64) (.pair (.int .i64) .unit))))) (.pair (.slice .bool) (.pair (.slice .bool) (.pair (.slice .bool) (.pair (.slice .bool) (.pair (.int .i64) .unit))))))) (.pair (.int .i64) (.pair (.int .i64) (.pair (.int .i64) (.pair (.int .i64) (.pair .bool (.pair (.slice (.pair (.int .i64) (.pair (.int .i64) (.pair (.int .i64) (.pair (.int .i64) (.pair (.int .i64) (.pair (.int .i64) (.pair (.slice (.int .i64)) .unit)))))))) (.pair (.slice (.pair (.int .i64) (.pair (.int .i64) (.pair (.int .i64) (.pair (.int .i64) (.pair (.int .i64) (.pair (.pair (.slice (.pair (.int .i64) (.pair (.int .i64) (.pair (.slice (.int .i64)) .unit)))) (.pair (.slice (.int .i64)) .unit)) (.pair (.slice .bool) (.pair (.slice .bool) (.pair (.slice .bool) .unit)))))))))) (.pair (.slice (.pair (.int .i64) (.pair (.int .i64) (.pair (.int .i64) (.pair (.int .i64) .unit))))) .unit))))))))))]) (hx : Vals.wf _ x) : Triple Tryz.prog 3 (Vals.ents _ x) [] (.one (.bool true)) [] :=
  c_laws_FnExactSamePlc (x.1) hx.1 (x.2.1) hx.2.1
set_option maxRecDepth 100000 in
theorem lifted (os : Os) (started : os.Started) (H : Type) (enc : TypeId × Value → H) :
    ReturnsInHanded {} Tryz.checked os 3 .any (Rows.fnExactSamePlcSpec.pre6 enc Tryz.prog Tryz.f3 Rows.fnExactSamePlcRow.domain false) (Rows.fnExactSamePlcSpec.post enc Tryz.prog Tryz.f3 false true false false) := by
  refine returnsInHanded_of_change_sized (C := Tryz.checked) own started (by kernel_rfl) Tryz.func3
    (ChangeSpec.witness6 (enc := enc) (C := Tryz.checked) false ⟨#[], #[.agg #[.slice none 0 0, .slice none 0 0, .slice none 0 0, .slice none 0 0, .slice none 0 0, .slice none 0 0, .slice none 0 0, .slice none 0 0, .slice none 0 0, .slice none 0 0, .int .i64 0, .int .i64 0, .int .i64 0, .int .i64 0, .int .i64 0, .bool false, .slice none 0 0, .slice none 0 0, .slice none 0 0], .agg #[.slice none 0 0, .slice none 0 0, .slice none 0 0, .slice none 0 0, .slice none 0 0, .slice none 0 0, .slice none 0 0, .slice none 0 0, .slice none 0 0, .slice none 0 0, .int .i64 0, .int .i64 0, .int .i64 0, .int .i64 0, .int .i64 0, .bool false, .slice none 0 0, .slice none 0 0, .slice none 0 0]], []⟩ 8 (by kernel_rfl) (by kernel_rfl) (by kernel_rfl) (by kernel_rfl)) ?_
  intro W base args ds gs before hval0 hW hcnd hsz0 _
  exact law_calls (c := bodyOf Tryz.f3) (tb := 4) laidOut Tryz.func3 (by kernel_rfl) (by kernel_rfl) (by kernel_rfl) (by kernel_rfl) Tryz.underlying4 rfl (spec H) runs W base args ds gs before (fun _ h => by cases h) hval0 hW
theorem over : Rows.fnExactSamePlcRow.holds Tryz.pinned (OpenSpec.ofChange Rows.fnExactSamePlcSpec) :=
  OpenClaim.holds_of_wide 3 Tryz.f3 rfl rfl rfl rfl rfl rfl rfl ⟨rfl, rfl, rfl, rfl, rfl⟩ rfl rfl rfl rfl rfl (by kernel_rfl) Tryz.func3 (by kernel_rfl)
    (of_decide_eq_true (by kernel_rfl)) (by unfold Func.isWrapper; first | (rw [if_pos (by decide +kernel)]; kernel_rfl) | (rw [if_neg (by decide +kernel)]; exact ⟨rfl, rfl⟩))
    (fun os started H enc _ => lifted os started H enc)
theorem proved : Rows.FnExactSamePlcSaid := over
#print axioms proved
end Go.Proofs.YthpolfpbioebnaaGreat.fnExactSamePlc
namespace Go.Proofs.YthpolfpbioebnaaGreat
/-- The row, under a short name, for the claim. -/
theorem fnExactSamePlc_holds : Rows.FnExactSamePlcSaid := fnExactSamePlc.proved
end Go.Proofs.YthpolfpbioebnaaGreat
