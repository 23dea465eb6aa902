/- The law on the lines of programs. No condition. -/
import Derived.Test.YtlfapnlaalnbjaaGreatDoorPPln2
import Derived.Test.YtlfapnlaalnbjaaGreatDoorPTxt2
import Derived.Test.YtlfapnlaalnbjaaGreatDoorPMkNest
set_option linter.unusedVariables false
set_option linter.unusedSimpArgs false
namespace Go.Ry
open Go.Proofs
theorem c_laws_FnExactProgramLines (p : List Int × List Rou × List Tsk × List Bool × Unit) (hw : Ty.wf (.pair (.slice (.int .i64)) (.pair (.slice tRou) (.pair (.slice tTsk) (.pair (.slice .bool) .unit)))) p) :
    TT n_laws_FnExactProgramLines [prgE p.1 p.2.1 p.2.2.1 p.2.2.2.1] [] (eB true) [] := by
  obtain ⟨ks, rs, ts, sf, ⟨⟩⟩ := p
  refine r_laws_FnExactProgramLines ks rs ts sf ⟨_, c_sz_Program (ks, (rs, (ts, (sf, ())))) 1048576 hw (by omega), ifP (fun _ => ⟨rfl, rfl⟩) (fun h0 => ?_)⟩
  have hs := (sz_Program_ok (l := (ks, (rs, (ts, (sf, ()))))) (n := 1048576) (by omega)).2 (by omega)
  have hp : prgSmall ks rs ts sf := ⟨hs.1, hs.2.1, hs.2.2.1, hs.2.2.2⟩
  have t := c_to_Program (ks, (rs, (ts, (sf, ())))) hs
  have ci := c_impl_ProgramLines ks rs ts sf hp
  have cs := c_spec_ProgramLines ks rs ts sf hp
  have hl := linesT_len (ks := ks) (rs := rs) (ts := ts) (sf := sf)
  generalize linesT ks rs ts sf = B at *
  have te := c_eq_StringS B.1 (by omega)
  have th := c_held_StringS B.1 (by omega) 1 (by omega)
  have tk := c_mark_StringS B.1 (by omega) 1 (by omega)
  obtain ⟨k, ks', rs', ts', sf', k0, k1, hm⟩ := c_mark_Program (ks, (rs, (ts, (sf, ())))) hs
  exact ⟨_, _, _, _, t, _, _, cs, _, _, _, _, t, _, _, ci, _, te, ifB_f rfl (ifN_f rfl ⟨_, _, _, _, t, _, c_eq_Program (ks, (rs, (ts, (sf, ())))) hs, ifB_f rfl ⟨_, _, _, _, _, hm, ifP_f (by omega) ⟨_, te, ifB_f rfl (ifN_f rfl
    ⟨_, _, tk, _, th, ifP_f (by omega) (ifN_f rfl ⟨_, _, _, _, t, _, _, ci, _, te, ifB_f rfl (ifN_f rfl ⟨_, th, ifP_f (by omega) (ifN_f rfl ⟨rfl, rfl⟩)⟩)⟩)⟩)⟩⟩⟩)⟩
end Go.Ry
