/- Processors: the law of PlcOK. No condition. -/
import Derived.Test.YthpolfpbioebnaaGreatPPlc6
import Derived.Test.YthpolfpbioebnaaGreatPStdSp
set_option linter.unusedVariables false
set_option linter.unusedSimpArgs false
namespace Go.Ry
open Go.Proofs
abbrev PlT := (List Int × List Rou × List Tsk × List Bool × Unit) × (List Int × List FbT × List Bool × List Bool × List Bool × List Bool × Int × Unit) × Int × Int × Int × Int × Bool × List Sc × List Jb × List Dn1 × Unit
@[reducible] def tPlc : Ty := .pair (.pair (.slice (.int .i64)) (.pair (.slice tRou) (.pair (.slice tTsk) (.pair (.slice .bool) .unit)))) (.pair (.pair (.slice (.int .i64)) (.pair (.slice tFb) (.pair (.slice .bool) (.pair (.slice .bool) (.pair (.slice .bool) (.pair (.slice .bool) (.pair (.int .i64) .unit)))))))
  (.pair (.int .i64) (.pair (.int .i64) (.pair (.int .i64) (.pair (.int .i64) (.pair .bool (.pair (.slice tSc) (.pair (.slice tJb) (.pair (.slice tDn1) .unit)))))))))
@[reducible] def plX (x : PlT) : Pl := ⟨x.1.1, x.1.2.1, x.1.2.2.1, x.1.2.2.2.1, ⟨x.2.1.1, x.2.1.2.1, x.2.1.2.2.1, x.2.1.2.2.2.1, x.2.1.2.2.2.2.1, x.2.1.2.2.2.2.2.1, x.2.1.2.2.2.2.2.2.1⟩, x.2.2.1, x.2.2.2.1, x.2.2.2.2.1, x.2.2.2.2.2.1, x.2.2.2.2.2.2.1, x.2.2.2.2.2.2.2.1, x.2.2.2.2.2.2.2.2.1, x.2.2.2.2.2.2.2.2.2.1⟩
theorem plX_sm {x : PlT} (h : sm_Plc x) : (plX x).Sm := by
  obtain ⟨h1, h2, h3, h4, h5⟩ := h
  exact ⟨h2.1, h2.2.1, h2.2.2.2.2.2, h1.1, h3.1, h4.1, h5, fun j hj => ⟨(h4.2 j hj).1.1.1, (h4.2 j hj).1.2, fun f hf => (h4.2 j hj).1.1.2 f hf⟩⟩
theorem plX_prg {x : PlT} (h : sm_Plc x) : prgSmall (plX x).ks (plX x).rs (plX x).ts (plX x).sf := ⟨h.1.1, h.1.2.1, h.1.2.2.1, h.1.2.2.2⟩
end Go.Ry
