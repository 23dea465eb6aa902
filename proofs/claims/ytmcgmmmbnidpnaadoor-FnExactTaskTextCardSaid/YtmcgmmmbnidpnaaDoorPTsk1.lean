/- A task's text: the law. No condition. -/
import Derived.Test.YtmcgmmmbnidpnaaDoorPTxt3
import Derived.Test.YtmcgmmmbnidpnaaDoorPStdTx
set_option linter.unusedVariables false
set_option linter.unusedSimpArgs false
namespace Go.Ry
open Go.Proofs
theorem c_laws_FnExactTaskText (x : Int × Int × Int × Int × Int × Int × Unit) (hw : Ty.wf (.pair (.int .i64) (.pair (.int .i64) (.pair (.int .i64) (.pair (.int .i64) (.pair (.int .i64) (.pair (.int .i64) .unit)))))) x) :
    TT n_laws_FnExactTaskText [tsk x.1 x.2.1 x.2.2.1 x.2.2.2.1 x.2.2.2.2.1 x.2.2.2.2.2.1] [] (eB true) [] := by
  have t := c_to_Task x
  exact r_laws_FnExactTaskText _ _ _ _ _ _ ⟨_, _, _, _, _, _, t, _, _, c_spec_TaskText _ _ _ _ _ _, _, _, _, _, _, _, t, _, _, c_impl_TaskText _ _ _ _ _ _, ifB_f (by rw [toList_beq]; simp) (ifN_f rfl ⟨rfl, rfl⟩)⟩
end Go.Ry
