/- A source's text: the law. No condition. -/
import Derived.Test.YtmcgmmmbnidpnaaDoorPSrc2
import Derived.Test.YtmcgmmmbnidpnaaDoorPStdTx
set_option linter.unusedVariables false
set_option linter.unusedSimpArgs false
namespace Go.Ry
open Go.Proofs
abbrev SrcT := Int × Int × Int × Int × Int × Int × List Int × Unit
@[reducible] def tSrc : Ty := .pair (.int .i64) (.pair (.int .i64) (.pair (.int .i64) (.pair (.int .i64) (.pair (.int .i64) (.pair (.int .i64) (.pair (.slice (.int .i64)) .unit))))))
@[reducible] def tTsk : Ty := .pair (.int .i64) (.pair (.int .i64) (.pair (.int .i64) (.pair (.int .i64) (.pair (.int .i64) (.pair (.int .i64) .unit)))))
theorem c_laws_FnExactSourceText (x : SrcT) (hw : Ty.wf tSrc x) (y : Int × Int × Int × Int × Int × Int × Unit) (hy : Ty.wf tTsk y) :
    TT n_laws_FnExactSourceText [srcE x.1 x.2.1 x.2.2.1 x.2.2.2.1 x.2.2.2.2.1 x.2.2.2.2.2.1 x.2.2.2.2.2.2.1, tsk y.1 y.2.1 y.2.2.1 y.2.2.2.1 y.2.2.2.2.1 y.2.2.2.2.2.1] [] (eB true) [] := by
  refine r_laws_FnExactSourceText _ _ _ _ _ _ _ _ _ _ _ _ _ ⟨_, c_sz_Source x 1048576 hw (by omega), ifP (fun _ => ⟨rfl, rfl⟩) (fun h0 => ?_)⟩
  have hs := (sz_Source_ok (l := x) (n := 1048576) (by omega)).2 (by omega)
  have t := c_to_Source x hs
  have u := c_to_Task y
  exact ⟨_, _, _, _, _, _, _, t, _, _, _, _, _, _, u, _, _, c_spec_SourceText _ _ _ _ _ _ _ _ _ _ _ _ _, _, _, _, _, _, _, _, t, _, _, _, _, _, _, u, _, _, c_impl_SourceText _ _ _ _ _ _ _ _ _ _ _ _ _,
    ifB_f (by rw [toList_beq]; simp) (ifN_f rfl ⟨_, _, _, _, _, _, _, t, _, c_eq_Source x hs, ifB_f rfl ⟨rfl, rfl⟩⟩)⟩
end Go.Ry
