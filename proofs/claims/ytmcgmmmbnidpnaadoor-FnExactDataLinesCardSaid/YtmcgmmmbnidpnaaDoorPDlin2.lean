/- The lines of data: the law. No condition. -/
import Derived.Test.YtmcgmmmbnidpnaaDoorPDlin1
import Derived.Test.YtmcgmmmbnidpnaaDoorPTxt2
import Derived.Test.YtmcgmmmbnidpnaaDoorPStdTx
import Derived.Test.YtmcgmmmbnidpnaaDoorPMarkTx
set_option linter.unusedVariables false
set_option linter.unusedSimpArgs false
namespace Go.Ry
open Go.Proofs
abbrev DatT := List Int × List FbT × List Bool × List Bool × List Bool × List Bool × Int × Unit
@[reducible] def tDat : Ty := .pair (.slice (.int .i64)) (.pair (.slice tFb) (.pair (.slice .bool) (.pair (.slice .bool) (.pair (.slice .bool) (.pair (.slice .bool) (.pair (.int .i64) .unit))))))
@[reducible] def datX (x : DatT) : Dat := ⟨x.1, x.2.1, x.2.2.1, x.2.2.2.1, x.2.2.2.2.1, x.2.2.2.2.2.1, x.2.2.2.2.2.2.1⟩
def mkDatN (g : List Int) (f : List FbT) (a b c d : List Bool) : Int := 1 + 1 * (g.length : Int) + 4 * (f.length : Int) + 1 * (a.length : Int) + 1 * (b.length : Int) + 1 * (c.length : Int) + 1 * (d.length : Int)
theorem ex_mark_Data (w : Int) (g : List Int) (f : List FbT) (a b c d : List Bool) (hg : g.length ≤ 1048576) (hf : f.length ≤ 1048576) (ha : a.length ≤ 1048576) (hb : b.length ≤ 1048576) (hc : c.length ≤ 1048576) (hd : d.length ≤ 1048576) :
    ∃ (n : Int) (g' : List Int) (f' : List FbT) (a' b' c' d' : List Bool), 0 ≤ n ∧ TT n_laws_markData [.agg [.row 0, .row 1, .row 2, .row 3, .row 4, .row 5, cI w], eI 1]
      [.row t_int (.int .i64) g, .row t_impl_Fb tFb f, .row t_bool .bool a, .row t_bool .bool b, .row t_bool .bool c, .row t_bool .bool d] (eI n)
      [.row t_int (.int .i64) g', .row t_impl_Fb tFb f', .row t_bool .bool a', .row t_bool .bool b', .row t_bool .bool c', .row t_bool .bool d'] := by
  refine ⟨_, _, _, _, _, _, _, ?_, r_laws_markData w 1 g f a b c d ⟨_, _, c_mark_IntS g hg 1 (by omega), _, _, c_mark_FbS f hf _ (by omega), _, _, c_mark_BoolS a ha _ (by omega), _, _, c_mark_BoolS b hb _ (by omega), _, _, c_mark_BoolS c hc _ (by omega), _, _, c_mark_BoolS d hd _ (by omega), rfl, rfl⟩⟩
  omega
theorem c_laws_FnExactDataLines (x : DatT) (hw : Ty.wf tDat x) : TT n_laws_FnExactDataLines [.agg (datX x).cs] [] (eB true) [] := by
  refine r_laws_FnExactDataLines _ _ _ _ _ _ _ ⟨_, c_sz_Data x 1048576 hw (by omega), ifP (fun _ => ⟨rfl, rfl⟩) (fun h0 => ?_)⟩
  have hs := (sz_Data_ok (l := x) (n := 1048576) (by omega)).2 (by omega)
  obtain ⟨s1, s2, s3, s4, s5, s6⟩ := hs
  have hs : sm_Data x := ⟨s1, s2, s3, s4, s5, s6⟩
  have hm : (dataM (datX x)).1.length ≤ 1048576 := by
    unfold dataM
    split
    · rename_i h
      have := dataLines_len (datX x) (data_facts h).2.1
      show (dataLines (datX x)).length ≤ _
      omega
    · simp
  have t := c_to_Data x hs
  have t1 := c_spec_DataLines (datX x)
  have t2 := c_impl_DataLines (datX x) s1
  have te := c_eq_StringS (dataM (datX x)).1 hm
  have th := c_held_StringS (dataM (datX x)).1 hm 1 (by omega)
  obtain ⟨n, g', f', a', b', c', d', hn, tm⟩ := ex_mark_Data x.2.2.2.2.2.2.1 x.1 x.2.1 x.2.2.1 x.2.2.2.1 x.2.2.2.2.1 x.2.2.2.2.2.1 s1 s2 s3 s4 s5 s6
  exact ⟨_, _, _, _, _, _, _, t, _, _, t1, _, _, _, _, _, _, _, t, _, _, t2, _, te, ifB_f rfl (ifN_f rfl ⟨_, _, _, _, _, _, _, t, _, c_eq_Data x hs, ifB_f rfl ⟨_, _, _, _, _, _, _, tm, ifP_f (by omega) ⟨_, te, ifB_f rfl (ifN_f rfl
    ⟨_, _, c_mark_StringS _ hm 1 (by omega), _, th, ifP_f (by omega) (ifN_f rfl ⟨_, _, _, _, _, _, _, t, _, _, t2, _, te, ifB_f rfl (ifN_f rfl ⟨_, th, ifP_f (by omega) (ifN_f rfl ⟨rfl, rfl⟩)⟩)⟩)⟩)⟩⟩⟩)⟩
end Go.Ry
