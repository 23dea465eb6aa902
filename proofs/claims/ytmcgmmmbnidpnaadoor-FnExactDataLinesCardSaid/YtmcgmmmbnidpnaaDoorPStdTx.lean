/- What the laws' own functions do: sizes, copies, comparisons. No condition. -/
import Derived.Test.YtmcgmmmbnidpnaaDoorPNum1
set_option linter.unusedVariables false
set_option linter.unusedSimpArgs false
namespace Go.Ry
open Go.Proofs

def szL {α : Type} (f : α → Int → Int) : List α → Int → Int
  | [], n => n
  | x :: l, n => if f x n < 0 then -1 else szL f l (f x n)
theorem szL_cons {α : Type} {f : α → Int → Int} {x : α} {l : List α} {n : Int} : szL f (x :: l) n = if f x n < 0 then -1 else szL f l (f x n) := rfl
theorem szL_ok {α : Type} {f : α → Int → Int} {p : α → Prop} (hf : ∀ x n, n ≤ 1048576 → f x n ≤ max n (-1) ∧ (0 ≤ f x n → p x)) : ∀ (l : List α) (n : Int), n ≤ 1048576 → szL f l n ≤ max n (-1) ∧ (0 ≤ szL f l n → ∀ x ∈ l, p x)
  | [], n, _ => ⟨by simp only [szL]; omega, fun _ x hx => by simp at hx⟩
  | x :: l, n, hn => by
    have h1 := hf x n hn
    rw [szL_cons]
    split
    · exact ⟨by omega, fun h => by omega⟩
    · have h2 := szL_ok hf l (f x n) (by omega)
      refine ⟨by omega, fun h y hy => ?_⟩
      rcases List.mem_cons.1 hy with rfl | hy
      · exact h1.2 (by omega)
      · exact h2.2 h y hy
theorem c_to_Done (x : Int × Int × Int × Int × Unit) : TT n_laws_toDone [.agg [cI x.1, cI x.2.1, cI x.2.2.1, cI x.2.2.2.1]] [] (.agg [cI x.1, cI x.2.1, cI x.2.2.1, cI x.2.2.2.1]) [] := r_laws_toDone _ _ _ _ ⟨rfl, rfl⟩
theorem c_eq_Done (x : Int × Int × Int × Int × Unit) : TT n_laws_eqDone [.agg [cI x.1, cI x.2.1, cI x.2.2.1, cI x.2.2.2.1], .agg [cI x.1, cI x.2.1, cI x.2.2.1, cI x.2.2.2.1]] [] (eB true) [] :=
  r_laws_eqDone _ _ _ _ _ _ _ _ (ifN_f rfl (ifN_f rfl (ifN_f rfl (ifN_f rfl ⟨rfl, rfl⟩))))
def sm_DoneS (l : List (Int × Int × Int × Int × Unit)) : Prop := l.length ≤ 1048576
theorem sm_DoneS_len {l : List (Int × Int × Int × Int × Unit)} (h : sm_DoneS l) : l.length ≤ 1048576 := h
theorem c_to_DoneS (l : List (Int × Int × Int × Int × Unit)) (h : sm_DoneS l) : TT n_laws_toDoneS [.one (.sl (.pair (.int .i64) (.pair (.int .i64) (.pair (.int .i64) (.pair (.int .i64) .unit)))) l)] [] (.one (.row 0)) [.row t_impl_Done (.pair (.int .i64) (.pair (.int .i64) (.pair (.int .i64) (.pair (.int .i64) .unit)))) l] := by
  have hl := sm_DoneS_len h
  refine r_laws_toDoneS l ⟨rfl, by omega, fun m i r => 0 ≤ i ∧ i ≤ l.length ∧ m = (l.length - i).toNat ∧ r = fillTo (fun x => x) ((0 : Int), ((0 : Int), ((0 : Int), ((0 : Int), ())))) l i.toNat, ⟨_, rfl, by omega, by omega, rfl, by rw [show (0 : Int).toNat = 0 from rfl, fillTo_zero]; rfl⟩, ?_⟩
  rintro m i r ⟨h0, h1, rfl, rfl⟩
  have hr := fillTo_length (f := fun x => x) (d := ((0 : Int), ((0 : Int), ((0 : Int), ((0 : Int), ()))))) (l := l) (i := i.toNat) (by omega)
  refine ifP (fun hlt => ⟨⟨h0, hlt⟩, _, _, _, _, c_to_Done (l.getD i.toNat ((0 : Int), ((0 : Int), ((0 : Int), ((0 : Int), ()))))), ⟨h0, by rw [hr]; exact hlt⟩, ?_⟩) (fun hge => ?_)
  · rw [w64 (by omega)]
    exact ⟨_, by omega, rfl, by omega, by omega, rfl, by rw [toNat_succ h0]; exact fillTo_set (f := fun x => x) (by omega) ((0 : Int), ((0 : Int), ((0 : Int), ((0 : Int), ()))))⟩
  · have e : i.toNat = l.length := by omega
    rw [e, fillTo_all, List.map_id']; exact ⟨rfl, rfl⟩
theorem c_eq_DoneS (l : List (Int × Int × Int × Int × Unit)) (h : sm_DoneS l) : TT n_laws_eqDoneS [.one (.sl (.pair (.int .i64) (.pair (.int .i64) (.pair (.int .i64) (.pair (.int .i64) .unit)))) l), .one (.sl (.pair (.int .i64) (.pair (.int .i64) (.pair (.int .i64) (.pair (.int .i64) .unit)))) l)] [] (eB true) [] := by
  have hl := sm_DoneS_len h
  refine r_laws_eqDoneS l l (ifN_f rfl ⟨fun m i => 0 ≤ i ∧ i ≤ l.length ∧ m = (l.length - i).toNat, ⟨_, rfl, by omega, by omega, rfl⟩, ?_⟩)
  rintro m i ⟨h0, h1, rfl⟩
  refine ifP (fun hlt => ⟨⟨h0, hlt⟩, ⟨h0, hlt⟩, _, c_eq_Done (l.getD i.toNat ((0 : Int), ((0 : Int), ((0 : Int), ((0 : Int), ()))))), ifB_f rfl ?_⟩) (fun _ => ⟨rfl, rfl⟩)
  rw [w64 (by omega)]
  exact ⟨_, by omega, rfl, by omega, by omega, rfl⟩
def sz_DoneS (l : List (Int × Int × Int × Int × Unit)) (n : Int) : Int := if n - l.length < 0 then -1 else n - l.length
theorem sz_DoneS_ok {l : List (Int × Int × Int × Int × Unit)} {n : Int} (hn : n ≤ 1048576) : sz_DoneS l n ≤ max n (-1) ∧ (0 ≤ sz_DoneS l n → sm_DoneS l) := by
  unfold sz_DoneS sm_DoneS
  split
  · exact ⟨by omega, fun h => by omega⟩
  · exact ⟨by omega, fun _ => by omega⟩
theorem c_sz_DoneS (l : List (Int × Int × Int × Int × Unit)) (n : Int) (hw : Ty.wf (.slice (.pair (.int .i64) (.pair (.int .i64) (.pair (.int .i64) (.pair (.int .i64) .unit))))) l) (hn : 0 ≤ n ∧ n ≤ 1048576) : TT n_laws_szDoneS [.one (.sl (.pair (.int .i64) (.pair (.int .i64) (.pair (.int .i64) (.pair (.int .i64) .unit)))) l), eI n] [] (eI (sz_DoneS l n)) [] := by
  have hl : l.length ≤ 9223372036854775807 := hw.1
  refine r_laws_szDoneS l n ?_
  unfold v_laws_szDoneS
  rw [w64 (by omega)]
  exact ifP (fun h => ⟨by rw [sz_DoneS, if_pos h], rfl⟩) (fun h => ⟨by rw [sz_DoneS, if_neg h], rfl⟩)
theorem c_to_Task (x : Int × Int × Int × Int × Int × Int × Unit) : TT n_laws_toTask [.agg [cI x.1, cI x.2.1, cI x.2.2.1, cI x.2.2.2.1, cI x.2.2.2.2.1, cI x.2.2.2.2.2.1]] [] (.agg [cI x.1, cI x.2.1, cI x.2.2.1, cI x.2.2.2.1, cI x.2.2.2.2.1, cI x.2.2.2.2.2.1]) [] := r_laws_toTask _ _ _ _ _ _ ⟨rfl, rfl⟩
def sm_IntS (l : List Int) : Prop := l.length ≤ 1048576
theorem sm_IntS_len {l : List Int} (h : sm_IntS l) : l.length ≤ 1048576 := h
theorem c_to_IntS (l : List Int) (h : sm_IntS l) : TT n_laws_toIntS [.one (.sl (.int .i64) l)] [] (.one (.row 0)) [.row t_int (.int .i64) l] := by
  have hl := sm_IntS_len h
  refine r_laws_toIntS l ⟨rfl, by omega, fun m i r => 0 ≤ i ∧ i ≤ l.length ∧ m = (l.length - i).toNat ∧ r = fillTo (fun x => x) (0 : Int) l i.toNat, ⟨_, rfl, by omega, by omega, rfl, by rw [show (0 : Int).toNat = 0 from rfl, fillTo_zero]; rfl⟩, ?_⟩
  rintro m i r ⟨h0, h1, rfl, rfl⟩
  have hr := fillTo_length (f := fun x => x) (d := (0 : Int)) (l := l) (i := i.toNat) (by omega)
  refine ifP (fun hlt => ⟨⟨h0, hlt⟩, ⟨h0, by rw [hr]; exact hlt⟩, ?_⟩) (fun hge => ?_)
  · rw [w64 (by omega)]
    exact ⟨_, by omega, rfl, by omega, by omega, rfl, by rw [toNat_succ h0]; exact fillTo_set (f := fun x => x) (by omega) (0 : Int)⟩
  · have e : i.toNat = l.length := by omega
    rw [e, fillTo_all, List.map_id']; exact ⟨rfl, rfl⟩
theorem c_eq_IntS (l : List Int) (h : sm_IntS l) : TT n_laws_eqIntS [.one (.sl (.int .i64) l), .one (.sl (.int .i64) l)] [] (eB true) [] := by
  have hl := sm_IntS_len h
  refine r_laws_eqIntS l l (ifN_f rfl ⟨fun m i => 0 ≤ i ∧ i ≤ l.length ∧ m = (l.length - i).toNat, ⟨_, rfl, by omega, by omega, rfl⟩, ?_⟩)
  rintro m i ⟨h0, h1, rfl⟩
  refine ifP (fun hlt => ⟨⟨h0, hlt⟩, ⟨h0, hlt⟩, ifN_f rfl ?_⟩) (fun _ => ⟨rfl, rfl⟩)
  rw [w64 (by omega)]
  exact ⟨_, by omega, rfl, by omega, by omega, rfl⟩
def sz_IntS (l : List Int) (n : Int) : Int := if n - l.length < 0 then -1 else n - l.length
theorem sz_IntS_ok {l : List Int} {n : Int} (hn : n ≤ 1048576) : sz_IntS l n ≤ max n (-1) ∧ (0 ≤ sz_IntS l n → sm_IntS l) := by
  unfold sz_IntS sm_IntS
  split
  · exact ⟨by omega, fun h => by omega⟩
  · exact ⟨by omega, fun _ => by omega⟩
theorem c_sz_IntS (l : List Int) (n : Int) (hw : Ty.wf (.slice (.int .i64)) l) (hn : 0 ≤ n ∧ n ≤ 1048576) : TT n_laws_szIntS [.one (.sl (.int .i64) l), eI n] [] (eI (sz_IntS l n)) [] := by
  have hl : l.length ≤ 9223372036854775807 := hw.1
  refine r_laws_szIntS l n ?_
  unfold v_laws_szIntS
  rw [w64 (by omega)]
  exact ifP (fun h => ⟨by rw [sz_IntS, if_pos h], rfl⟩) (fun h => ⟨by rw [sz_IntS, if_neg h], rfl⟩)
def sm_Source (x : Int × Int × Int × Int × Int × Int × List Int × Unit) : Prop := sm_IntS x.2.2.2.2.2.2.1
theorem c_to_Source (x : Int × Int × Int × Int × Int × Int × List Int × Unit) (h : sm_Source x) : TT n_laws_toSource [.agg [cI x.1, cI x.2.1, cI x.2.2.1, cI x.2.2.2.1, cI x.2.2.2.2.1, cI x.2.2.2.2.2.1, .sl (.int .i64) x.2.2.2.2.2.2.1]] [] (.agg [cI x.1, cI x.2.1, cI x.2.2.1, cI x.2.2.2.1, cI x.2.2.2.2.1, cI x.2.2.2.2.2.1, .row 0]) [.row t_int (.int .i64) x.2.2.2.2.2.2.1] :=
  r_laws_toSource _ _ _ _ _ _ _ ⟨ _, c_to_IntS x.2.2.2.2.2.2.1 h, rfl, rfl⟩
theorem c_eq_Source (x : Int × Int × Int × Int × Int × Int × List Int × Unit) (h : sm_Source x) : TT n_laws_eqSource [.agg [cI x.1, cI x.2.1, cI x.2.2.1, cI x.2.2.2.1, cI x.2.2.2.2.1, cI x.2.2.2.2.2.1, .sl (.int .i64) x.2.2.2.2.2.2.1], .agg [cI x.1, cI x.2.1, cI x.2.2.1, cI x.2.2.2.1, cI x.2.2.2.2.1, cI x.2.2.2.2.2.1, .sl (.int .i64) x.2.2.2.2.2.2.1]] [] (eB true) [] :=
  r_laws_eqSource _ _ _ _ _ _ _ _ _ _ _ _ _ _ (ifN_f rfl (ifN_f rfl (ifN_f rfl (ifN_f rfl (ifN_f rfl (ifN_f rfl ⟨_, c_eq_IntS x.2.2.2.2.2.2.1 h, ifB_f rfl ⟨rfl, rfl⟩⟩))))))
def sz_Source (x : Int × Int × Int × Int × Int × Int × List Int × Unit) (n : Int) : Int := if sz_IntS x.2.2.2.2.2.2.1 n < 0 then -1 else sz_IntS x.2.2.2.2.2.2.1 n
theorem sz_Source_ok {l : Int × Int × Int × Int × Int × Int × List Int × Unit} {n : Int} (hn : n ≤ 1048576) : sz_Source l n ≤ max n (-1) ∧ (0 ≤ sz_Source l n → sm_Source l) := by
  unfold sz_Source sm_Source
  have k0 := sz_IntS_ok (l := l.2.2.2.2.2.2.1) (n := n) (by omega)
  split
  · exact ⟨by omega, fun h => by omega⟩
  · exact ⟨by omega, fun h => k0.2 (by omega)⟩
theorem c_sz_Source (x : Int × Int × Int × Int × Int × Int × List Int × Unit) (n : Int) (hw : Ty.wf (.pair (.int .i64) (.pair (.int .i64) (.pair (.int .i64) (.pair (.int .i64) (.pair (.int .i64) (.pair (.int .i64) (.pair (.slice (.int .i64)) .unit))))))) x) (hn : 0 ≤ n ∧ n ≤ 1048576) : TT n_laws_szSource [.agg [cI x.1, cI x.2.1, cI x.2.2.1, cI x.2.2.2.1, cI x.2.2.2.2.1, cI x.2.2.2.2.2.1, .sl (.int .i64) x.2.2.2.2.2.2.1], eI n] [] (eI (sz_Source x n)) [] := by
  refine r_laws_szSource _ _ _ _ _ _ _ n ?_
  unfold sz_Source
  have k0 := (sz_IntS_ok (l := x.2.2.2.2.2.2.1) (n := n) (by omega)).1
  refine ⟨_, c_sz_IntS x.2.2.2.2.2.2.1 _ hw.2.2.2.2.2.2.1 (by omega), ifP (fun h0 => ?_) (fun h0 => ?_)⟩
  · rw [if_pos h0]; exact ⟨rfl, rfl⟩
  rw [if_neg h0]
  exact ⟨rfl, rfl⟩
theorem c_to_Fb (x : Int × Bool × Int × Int × Unit) : TT n_laws_toFb [.agg [cI x.1, .bool x.2.1, cI x.2.2.1, cI x.2.2.2.1]] [] (.agg [cI x.1, .bool x.2.1, cI x.2.2.1, cI x.2.2.2.1]) [] := r_laws_toFb _ _ _ _ ⟨rfl, rfl⟩
theorem c_eq_Fb (x : Int × Bool × Int × Int × Unit) : TT n_laws_eqFb [.agg [cI x.1, .bool x.2.1, cI x.2.2.1, cI x.2.2.2.1], .agg [cI x.1, .bool x.2.1, cI x.2.2.1, cI x.2.2.2.1]] [] (eB true) [] :=
  r_laws_eqFb _ _ _ _ _ _ _ _ (ifN_f rfl (ifB_f (by simp) (ifN_f rfl (ifN_f rfl ⟨rfl, rfl⟩))))
def sm_FbS (l : List (Int × Bool × Int × Int × Unit)) : Prop := l.length ≤ 1048576
theorem sm_FbS_len {l : List (Int × Bool × Int × Int × Unit)} (h : sm_FbS l) : l.length ≤ 1048576 := h
theorem c_to_FbS (l : List (Int × Bool × Int × Int × Unit)) (h : sm_FbS l) : TT n_laws_toFbS [.one (.sl (.pair (.int .i64) (.pair .bool (.pair (.int .i64) (.pair (.int .i64) .unit)))) l)] [] (.one (.row 0)) [.row t_impl_Fb (.pair (.int .i64) (.pair .bool (.pair (.int .i64) (.pair (.int .i64) .unit)))) l] := by
  have hl := sm_FbS_len h
  refine r_laws_toFbS l ⟨rfl, by omega, fun m i r => 0 ≤ i ∧ i ≤ l.length ∧ m = (l.length - i).toNat ∧ r = fillTo (fun x => x) ((0 : Int), (false, ((0 : Int), ((0 : Int), ())))) l i.toNat, ⟨_, rfl, by omega, by omega, rfl, by rw [show (0 : Int).toNat = 0 from rfl, fillTo_zero]; rfl⟩, ?_⟩
  rintro m i r ⟨h0, h1, rfl, rfl⟩
  have hr := fillTo_length (f := fun x => x) (d := ((0 : Int), (false, ((0 : Int), ((0 : Int), ()))))) (l := l) (i := i.toNat) (by omega)
  refine ifP (fun hlt => ⟨⟨h0, hlt⟩, _, _, _, _, c_to_Fb (l.getD i.toNat ((0 : Int), (false, ((0 : Int), ((0 : Int), ()))))), ⟨h0, by rw [hr]; exact hlt⟩, ?_⟩) (fun hge => ?_)
  · rw [w64 (by omega)]
    exact ⟨_, by omega, rfl, by omega, by omega, rfl, by rw [toNat_succ h0]; exact fillTo_set (f := fun x => x) (by omega) ((0 : Int), (false, ((0 : Int), ((0 : Int), ()))))⟩
  · have e : i.toNat = l.length := by omega
    rw [e, fillTo_all, List.map_id']; exact ⟨rfl, rfl⟩
theorem c_eq_FbS (l : List (Int × Bool × Int × Int × Unit)) (h : sm_FbS l) : TT n_laws_eqFbS [.one (.sl (.pair (.int .i64) (.pair .bool (.pair (.int .i64) (.pair (.int .i64) .unit)))) l), .one (.sl (.pair (.int .i64) (.pair .bool (.pair (.int .i64) (.pair (.int .i64) .unit)))) l)] [] (eB true) [] := by
  have hl := sm_FbS_len h
  refine r_laws_eqFbS l l (ifN_f rfl ⟨fun m i => 0 ≤ i ∧ i ≤ l.length ∧ m = (l.length - i).toNat, ⟨_, rfl, by omega, by omega, rfl⟩, ?_⟩)
  rintro m i ⟨h0, h1, rfl⟩
  refine ifP (fun hlt => ⟨⟨h0, hlt⟩, ⟨h0, hlt⟩, _, c_eq_Fb (l.getD i.toNat ((0 : Int), (false, ((0 : Int), ((0 : Int), ()))))), ifB_f rfl ?_⟩) (fun _ => ⟨rfl, rfl⟩)
  rw [w64 (by omega)]
  exact ⟨_, by omega, rfl, by omega, by omega, rfl⟩
def sz_FbS (l : List (Int × Bool × Int × Int × Unit)) (n : Int) : Int := if n - l.length < 0 then -1 else n - l.length
theorem sz_FbS_ok {l : List (Int × Bool × Int × Int × Unit)} {n : Int} (hn : n ≤ 1048576) : sz_FbS l n ≤ max n (-1) ∧ (0 ≤ sz_FbS l n → sm_FbS l) := by
  unfold sz_FbS sm_FbS
  split
  · exact ⟨by omega, fun h => by omega⟩
  · exact ⟨by omega, fun _ => by omega⟩
theorem c_sz_FbS (l : List (Int × Bool × Int × Int × Unit)) (n : Int) (hw : Ty.wf (.slice (.pair (.int .i64) (.pair .bool (.pair (.int .i64) (.pair (.int .i64) .unit))))) l) (hn : 0 ≤ n ∧ n ≤ 1048576) : TT n_laws_szFbS [.one (.sl (.pair (.int .i64) (.pair .bool (.pair (.int .i64) (.pair (.int .i64) .unit)))) l), eI n] [] (eI (sz_FbS l n)) [] := by
  have hl : l.length ≤ 9223372036854775807 := hw.1
  refine r_laws_szFbS l n ?_
  unfold v_laws_szFbS
  rw [w64 (by omega)]
  exact ifP (fun h => ⟨by rw [sz_FbS, if_pos h], rfl⟩) (fun h => ⟨by rw [sz_FbS, if_neg h], rfl⟩)
def sm_BoolS (l : List Bool) : Prop := l.length ≤ 1048576
theorem sm_BoolS_len {l : List Bool} (h : sm_BoolS l) : l.length ≤ 1048576 := h
theorem c_to_BoolS (l : List Bool) (h : sm_BoolS l) : TT n_laws_toBoolS [.one (.sl .bool l)] [] (.one (.row 0)) [.row t_bool .bool l] := by
  have hl := sm_BoolS_len h
  refine r_laws_toBoolS l ⟨rfl, by omega, fun m i r => 0 ≤ i ∧ i ≤ l.length ∧ m = (l.length - i).toNat ∧ r = fillTo (fun x => x) false l i.toNat, ⟨_, rfl, by omega, by omega, rfl, by rw [show (0 : Int).toNat = 0 from rfl, fillTo_zero]; rfl⟩, ?_⟩
  rintro m i r ⟨h0, h1, rfl, rfl⟩
  have hr := fillTo_length (f := fun x => x) (d := false) (l := l) (i := i.toNat) (by omega)
  refine ifP (fun hlt => ⟨⟨h0, hlt⟩, ⟨h0, by rw [hr]; exact hlt⟩, ?_⟩) (fun hge => ?_)
  · rw [w64 (by omega)]
    exact ⟨_, by omega, rfl, by omega, by omega, rfl, by rw [toNat_succ h0]; exact fillTo_set (f := fun x => x) (by omega) false⟩
  · have e : i.toNat = l.length := by omega
    rw [e, fillTo_all, List.map_id']; exact ⟨rfl, rfl⟩
theorem c_eq_BoolS (l : List Bool) (h : sm_BoolS l) : TT n_laws_eqBoolS [.one (.sl .bool l), .one (.sl .bool l)] [] (eB true) [] := by
  have hl := sm_BoolS_len h
  refine r_laws_eqBoolS l l (ifN_f rfl ⟨fun m i => 0 ≤ i ∧ i ≤ l.length ∧ m = (l.length - i).toNat, ⟨_, rfl, by omega, by omega, rfl⟩, ?_⟩)
  rintro m i ⟨h0, h1, rfl⟩
  refine ifP (fun hlt => ⟨⟨h0, hlt⟩, ⟨h0, hlt⟩, ifB_f (by simp) ?_⟩) (fun _ => ⟨rfl, rfl⟩)
  rw [w64 (by omega)]
  exact ⟨_, by omega, rfl, by omega, by omega, rfl⟩
def sz_BoolS (l : List Bool) (n : Int) : Int := if n - l.length < 0 then -1 else n - l.length
theorem sz_BoolS_ok {l : List Bool} {n : Int} (hn : n ≤ 1048576) : sz_BoolS l n ≤ max n (-1) ∧ (0 ≤ sz_BoolS l n → sm_BoolS l) := by
  unfold sz_BoolS sm_BoolS
  split
  · exact ⟨by omega, fun h => by omega⟩
  · exact ⟨by omega, fun _ => by omega⟩
theorem c_sz_BoolS (l : List Bool) (n : Int) (hw : Ty.wf (.slice .bool) l) (hn : 0 ≤ n ∧ n ≤ 1048576) : TT n_laws_szBoolS [.one (.sl .bool l), eI n] [] (eI (sz_BoolS l n)) [] := by
  have hl : l.length ≤ 9223372036854775807 := hw.1
  refine r_laws_szBoolS l n ?_
  unfold v_laws_szBoolS
  rw [w64 (by omega)]
  exact ifP (fun h => ⟨by rw [sz_BoolS, if_pos h], rfl⟩) (fun h => ⟨by rw [sz_BoolS, if_neg h], rfl⟩)
def sm_Data (x : List Int × List (Int × Bool × Int × Int × Unit) × List Bool × List Bool × List Bool × List Bool × Int × Unit) : Prop := sm_IntS x.1 ∧ sm_FbS x.2.1 ∧ sm_BoolS x.2.2.1 ∧ sm_BoolS x.2.2.2.1 ∧ sm_BoolS x.2.2.2.2.1 ∧ sm_BoolS x.2.2.2.2.2.1
theorem c_to_Data (x : List Int × List (Int × Bool × Int × Int × Unit) × List Bool × List Bool × List Bool × List Bool × Int × Unit) (h : sm_Data x) : TT n_laws_toData [.agg [.sl (.int .i64) x.1, .sl (.pair (.int .i64) (.pair .bool (.pair (.int .i64) (.pair (.int .i64) .unit)))) x.2.1, .sl .bool x.2.2.1, .sl .bool x.2.2.2.1, .sl .bool x.2.2.2.2.1, .sl .bool x.2.2.2.2.2.1, cI x.2.2.2.2.2.2.1]] [] (.agg [.row 0, .row 1, .row 2, .row 3, .row 4, .row 5, cI x.2.2.2.2.2.2.1]) [.row t_int (.int .i64) x.1, .row t_impl_Fb (.pair (.int .i64) (.pair .bool (.pair (.int .i64) (.pair (.int .i64) .unit)))) x.2.1, .row t_bool .bool x.2.2.1, .row t_bool .bool x.2.2.2.1, .row t_bool .bool x.2.2.2.2.1, .row t_bool .bool x.2.2.2.2.2.1] :=
  r_laws_toData _ _ _ _ _ _ _ ⟨ _, c_to_IntS x.1 h.1, _, c_to_FbS x.2.1 h.2.1, _, c_to_BoolS x.2.2.1 h.2.2.1, _, c_to_BoolS x.2.2.2.1 h.2.2.2.1, _, c_to_BoolS x.2.2.2.2.1 h.2.2.2.2.1, _, c_to_BoolS x.2.2.2.2.2.1 h.2.2.2.2.2, rfl, rfl⟩
theorem c_eq_Data (x : List Int × List (Int × Bool × Int × Int × Unit) × List Bool × List Bool × List Bool × List Bool × Int × Unit) (h : sm_Data x) : TT n_laws_eqData [.agg [.sl (.int .i64) x.1, .sl (.pair (.int .i64) (.pair .bool (.pair (.int .i64) (.pair (.int .i64) .unit)))) x.2.1, .sl .bool x.2.2.1, .sl .bool x.2.2.2.1, .sl .bool x.2.2.2.2.1, .sl .bool x.2.2.2.2.2.1, cI x.2.2.2.2.2.2.1], .agg [.sl (.int .i64) x.1, .sl (.pair (.int .i64) (.pair .bool (.pair (.int .i64) (.pair (.int .i64) .unit)))) x.2.1, .sl .bool x.2.2.1, .sl .bool x.2.2.2.1, .sl .bool x.2.2.2.2.1, .sl .bool x.2.2.2.2.2.1, cI x.2.2.2.2.2.2.1]] [] (eB true) [] :=
  r_laws_eqData _ _ _ _ _ _ _ _ _ _ _ _ _ _ ⟨_, c_eq_IntS x.1 h.1, ifB_f rfl ⟨_, c_eq_FbS x.2.1 h.2.1, ifB_f rfl ⟨_, c_eq_BoolS x.2.2.1 h.2.2.1, ifB_f rfl ⟨_, c_eq_BoolS x.2.2.2.1 h.2.2.2.1, ifB_f rfl ⟨_, c_eq_BoolS x.2.2.2.2.1 h.2.2.2.2.1, ifB_f rfl ⟨_, c_eq_BoolS x.2.2.2.2.2.1 h.2.2.2.2.2, ifB_f rfl (ifN_f rfl ⟨rfl, rfl⟩)⟩⟩⟩⟩⟩⟩
def sz_Data (x : List Int × List (Int × Bool × Int × Int × Unit) × List Bool × List Bool × List Bool × List Bool × Int × Unit) (n : Int) : Int := if sz_IntS x.1 n < 0 then -1 else if sz_FbS x.2.1 (sz_IntS x.1 n) < 0 then -1 else if sz_BoolS x.2.2.1 (sz_FbS x.2.1 (sz_IntS x.1 n)) < 0 then -1 else if sz_BoolS x.2.2.2.1 (sz_BoolS x.2.2.1 (sz_FbS x.2.1 (sz_IntS x.1 n))) < 0 then -1 else if sz_BoolS x.2.2.2.2.1 (sz_BoolS x.2.2.2.1 (sz_BoolS x.2.2.1 (sz_FbS x.2.1 (sz_IntS x.1 n)))) < 0 then -1 else if sz_BoolS x.2.2.2.2.2.1 (sz_BoolS x.2.2.2.2.1 (sz_BoolS x.2.2.2.1 (sz_BoolS x.2.2.1 (sz_FbS x.2.1 (sz_IntS x.1 n))))) < 0 then -1 else sz_BoolS x.2.2.2.2.2.1 (sz_BoolS x.2.2.2.2.1 (sz_BoolS x.2.2.2.1 (sz_BoolS x.2.2.1 (sz_FbS x.2.1 (sz_IntS x.1 n)))))
theorem sz_Data_ok {l : List Int × List (Int × Bool × Int × Int × Unit) × List Bool × List Bool × List Bool × List Bool × Int × Unit} {n : Int} (hn : n ≤ 1048576) : sz_Data l n ≤ max n (-1) ∧ (0 ≤ sz_Data l n → sm_Data l) := by
  unfold sz_Data sm_Data
  have k0 := sz_IntS_ok (l := l.1) (n := n) (by omega)
  split
  · exact ⟨by omega, fun h => by omega⟩
  have k1 := sz_FbS_ok (l := l.2.1) (n := sz_IntS l.1 n) (by omega)
  split
  · exact ⟨by omega, fun h => by omega⟩
  have k2 := sz_BoolS_ok (l := l.2.2.1) (n := sz_FbS l.2.1 (sz_IntS l.1 n)) (by omega)
  split
  · exact ⟨by omega, fun h => by omega⟩
  have k3 := sz_BoolS_ok (l := l.2.2.2.1) (n := sz_BoolS l.2.2.1 (sz_FbS l.2.1 (sz_IntS l.1 n))) (by omega)
  split
  · exact ⟨by omega, fun h => by omega⟩
  have k4 := sz_BoolS_ok (l := l.2.2.2.2.1) (n := sz_BoolS l.2.2.2.1 (sz_BoolS l.2.2.1 (sz_FbS l.2.1 (sz_IntS l.1 n)))) (by omega)
  split
  · exact ⟨by omega, fun h => by omega⟩
  have k5 := sz_BoolS_ok (l := l.2.2.2.2.2.1) (n := sz_BoolS l.2.2.2.2.1 (sz_BoolS l.2.2.2.1 (sz_BoolS l.2.2.1 (sz_FbS l.2.1 (sz_IntS l.1 n))))) (by omega)
  split
  · exact ⟨by omega, fun h => by omega⟩
  exact ⟨by omega, fun h => ⟨k0.2 (by omega), k1.2 (by omega), k2.2 (by omega), k3.2 (by omega), k4.2 (by omega), k5.2 (by omega)⟩⟩
theorem c_sz_Data (x : List Int × List (Int × Bool × Int × Int × Unit) × List Bool × List Bool × List Bool × List Bool × Int × Unit) (n : Int) (hw : Ty.wf (.pair (.slice (.int .i64)) (.pair (.slice (.pair (.int .i64) (.pair .bool (.pair (.int .i64) (.pair (.int .i64) .unit))))) (.pair (.slice .bool) (.pair (.slice .bool) (.pair (.slice .bool) (.pair (.slice .bool) (.pair (.int .i64) .unit))))))) x) (hn : 0 ≤ n ∧ n ≤ 1048576) : TT n_laws_szData [.agg [.sl (.int .i64) x.1, .sl (.pair (.int .i64) (.pair .bool (.pair (.int .i64) (.pair (.int .i64) .unit)))) x.2.1, .sl .bool x.2.2.1, .sl .bool x.2.2.2.1, .sl .bool x.2.2.2.2.1, .sl .bool x.2.2.2.2.2.1, cI x.2.2.2.2.2.2.1], eI n] [] (eI (sz_Data x n)) [] := by
  refine r_laws_szData _ _ _ _ _ _ _ n ?_
  unfold sz_Data
  have k0 := (sz_IntS_ok (l := x.1) (n := n) (by omega)).1
  refine ⟨_, c_sz_IntS x.1 _ hw.1 (by omega), ifP (fun h0 => ?_) (fun h0 => ?_)⟩
  · rw [if_pos h0]; exact ⟨rfl, rfl⟩
  rw [if_neg h0]
  have k1 := (sz_FbS_ok (l := x.2.1) (n := sz_IntS x.1 n) (by omega)).1
  refine ⟨_, c_sz_FbS x.2.1 _ hw.2.1 (by omega), ifP (fun h1 => ?_) (fun h1 => ?_)⟩
  · rw [if_pos h1]; exact ⟨rfl, rfl⟩
  rw [if_neg h1]
  have k2 := (sz_BoolS_ok (l := x.2.2.1) (n := sz_FbS x.2.1 (sz_IntS x.1 n)) (by omega)).1
  refine ⟨_, c_sz_BoolS x.2.2.1 _ hw.2.2.1 (by omega), ifP (fun h2 => ?_) (fun h2 => ?_)⟩
  · rw [if_pos h2]; exact ⟨rfl, rfl⟩
  rw [if_neg h2]
  have k3 := (sz_BoolS_ok (l := x.2.2.2.1) (n := sz_BoolS x.2.2.1 (sz_FbS x.2.1 (sz_IntS x.1 n))) (by omega)).1
  refine ⟨_, c_sz_BoolS x.2.2.2.1 _ hw.2.2.2.1 (by omega), ifP (fun h3 => ?_) (fun h3 => ?_)⟩
  · rw [if_pos h3]; exact ⟨rfl, rfl⟩
  rw [if_neg h3]
  have k4 := (sz_BoolS_ok (l := x.2.2.2.2.1) (n := sz_BoolS x.2.2.2.1 (sz_BoolS x.2.2.1 (sz_FbS x.2.1 (sz_IntS x.1 n)))) (by omega)).1
  refine ⟨_, c_sz_BoolS x.2.2.2.2.1 _ hw.2.2.2.2.1 (by omega), ifP (fun h4 => ?_) (fun h4 => ?_)⟩
  · rw [if_pos h4]; exact ⟨rfl, rfl⟩
  rw [if_neg h4]
  have k5 := (sz_BoolS_ok (l := x.2.2.2.2.2.1) (n := sz_BoolS x.2.2.2.2.1 (sz_BoolS x.2.2.2.1 (sz_BoolS x.2.2.1 (sz_FbS x.2.1 (sz_IntS x.1 n))))) (by omega)).1
  refine ⟨_, c_sz_BoolS x.2.2.2.2.2.1 _ hw.2.2.2.2.2.1 (by omega), ifP (fun h5 => ?_) (fun h5 => ?_)⟩
  · rw [if_pos h5]; exact ⟨rfl, rfl⟩
  rw [if_neg h5]
  exact ⟨rfl, rfl⟩
end Go.Ry
