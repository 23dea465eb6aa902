/- FnExactAdmitProgram: whatever is handed in, it returns true, and what was handed in reads as it did. No condition. -/
import Derived.Test.YtonmkhdbgofbpaaGreatRows
import Derived.Test.YtonmkhdbgofbpaaGreatPBnd5
import Derived.WalkKit
import Derived.ProofKit
import Derived.OpenShut
import Derived.ShutString
import Derived.ChangeOld
import Derived.Below
import Derived.SizedLaws
namespace Go.Proofs.YtonmkhdbgofbpaaGreat.fnExactAdmitProgram
open Go.ChangeShapes Go.WideShapes Go.ChangeAt Go.RowKit Go.Ry
set_option linter.unusedVariables false
theorem own : ownKnob Tryz.prog.godebug = none := by kernel_rfl
theorem laidOut : laidOutB Tryz.prog = true := by kernel_rfl
theorem size : Tryz.f4.params.size = 1 := by kernel_rfl
theorem spec (H : Type) : ∀ ds : List (DataW H), ds.length = Tryz.f4.params.size → (Rows.fnExactAdmitProgramSpec.fn H ds).results = [.lit (.bool true)] ∧ (Rows.fnExactAdmitProgramSpec.fn H ds).args = ds ∧ (Rows.fnExactAdmitProgramSpec.fn H ds).vars = [] := by
  intro ds h
  rw [size] at h
  match ds, h with
  | [d1], _ => exact ⟨rfl, rfl, rfl⟩
theorem runs (x : Vals [(.pair (.slice (.int .i64)) (.pair (.slice (.pair (.slice (.pair (.int .i64) (.pair (.int .i64) .unit))) .unit)) (.pair (.slice (.pair (.int .i64) (.pair (.int .i64) (.pair (.int .i64) (.pair (.int .i64) (.pair (.int .i64) (.pair (.int .i64) .unit))))))) (.pair (.slice .bool) .unit))))]) (hx : Vals.wf _ x) : Triple Tryz.prog 4 (Vals.ents _ x) [] (.one (.bool true)) [] :=
  c_laws_FnExactAdmitProgram (x.1) hx.1
set_option maxRecDepth 100000 in
theorem lifted (os : Os) (started : os.Started) (H : Type) (enc : TypeId × Value → H) :
    ReturnsInHanded {} Tryz.checked os 4 .any (Rows.fnExactAdmitProgramSpec.pre6 enc Tryz.prog Tryz.f4 Rows.fnExactAdmitProgramRow.domain false) (Rows.fnExactAdmitProgramSpec.post enc Tryz.prog Tryz.f4 false true false false) := by
  refine returnsInHanded_of_change_sized (C := Tryz.checked) own started (by kernel_rfl) Tryz.func4
    (ChangeSpec.witness6 (enc := enc) (C := Tryz.checked) false ⟨#[], #[.agg #[.slice none 0 0, .slice none 0 0, .slice none 0 0, .slice none 0 0]], []⟩ 8 (by kernel_rfl) (by kernel_rfl) (by kernel_rfl) (by kernel_rfl)) ?_
  intro W base args ds gs before hval0 hW hcnd hsz0 _
  exact law_calls (c := bodyOf Tryz.f4) (tb := 4) laidOut Tryz.func4 (by kernel_rfl) (by kernel_rfl) (by kernel_rfl) (by kernel_rfl) Tryz.underlying4 rfl (spec H) runs W base args ds gs before hval0 hW
theorem over : Rows.fnExactAdmitProgramRow.holds Tryz.pinned (OpenSpec.ofChange Rows.fnExactAdmitProgramSpec) :=
  OpenClaim.holds_of_wide 4 Tryz.f4 rfl rfl rfl rfl rfl rfl rfl ⟨rfl, rfl, rfl, rfl, rfl⟩ rfl rfl rfl rfl rfl (by kernel_rfl) Tryz.func4 (by kernel_rfl)
    (of_decide_eq_true (by kernel_rfl)) (by unfold Func.isWrapper; first | (rw [if_pos (by decide +kernel)]; kernel_rfl) | (rw [if_neg (by decide +kernel)]; exact ⟨rfl, rfl⟩))
    (fun os started H enc _ => lifted os started H enc)
theorem proved : Rows.FnExactAdmitProgramSaid := over
#print axioms proved
end Go.Proofs.YtonmkhdbgofbpaaGreat.fnExactAdmitProgram
namespace Go.Proofs.YtonmkhdbgofbpaaGreat
/-- The row, under a short name, for the claim. -/
theorem fnExactAdmitProgram_holds : Rows.FnExactAdmitProgramSaid := fnExactAdmitProgram.proved
end Go.Proofs.YtonmkhdbgofbpaaGreat
