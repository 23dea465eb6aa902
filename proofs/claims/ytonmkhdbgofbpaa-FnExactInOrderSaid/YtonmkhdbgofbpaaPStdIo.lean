/- What the laws' own functions do: sizes, copies, comparisons. No condition. -/
import Derived.Test.YtonmkhdbgofbpaaPNum1
set_option linter.unusedVariables false
set_option linter.unusedSimpArgs false
namespace Go.Ry
open Go.Proofs

def szL {α : Type} (f : α → Int → Int) : List α → Int → Int
  | [], n => n
  | x :: l, n => if f x n < 0 then -1 else szL f l (f x n)
theorem szL_cons {α : Type} {f : α → Int → Int} {x : α} {l : List α} {n : Int} : szL f (x :: l) n = if f x n < 0 then -1 else szL f l (f x n) := rfl
theorem szL_ok {α : Type} {f : α → Int → Int} {p : α → Prop} (hf : ∀ x n, n ≤ 1048576 → f x n ≤ max n (-1) ∧ (0 ≤ f x n → p x)) : ∀ (l : List α) (n : Int), n ≤ 1048576 → szL f l n ≤ max n (-1) ∧ (0 ≤ szL f l n → ∀ x ∈ l, p x)
  | [], n, _ => ⟨by simp only [szL]; omega, fun _ x hx => by simp at hx⟩
  | x :: l, n, hn => by
    have h1 := hf x n hn
    rw [szL_cons]
    split
    · exact ⟨by omega, fun h => by omega⟩
    · have h2 := szL_ok hf l (f x n) (by omega)
      refine ⟨by omega, fun h y hy => ?_⟩
      rcases List.mem_cons.1 hy with rfl | hy
      · exact h1.2 (by omega)
      · exact h2.2 h y hy
theorem c_to_Done (x : Int × Int × Int × Int × Unit) : TT n_laws_toDone [.agg [cI x.1, cI x.2.1, cI x.2.2.1, cI x.2.2.2.1]] [] (.agg [cI x.1, cI x.2.1, cI x.2.2.1, cI x.2.2.2.1]) [] := r_laws_toDone _ _ _ _ ⟨rfl, rfl⟩
theorem c_eq_Done (x : Int × Int × Int × Int × Unit) : TT n_laws_eqDone [.agg [cI x.1, cI x.2.1, cI x.2.2.1, cI x.2.2.2.1], .agg [cI x.1, cI x.2.1, cI x.2.2.1, cI x.2.2.2.1]] [] (eB true) [] :=
  r_laws_eqDone _ _ _ _ _ _ _ _ (ifN_f rfl (ifN_f rfl (ifN_f rfl (ifN_f rfl ⟨rfl, rfl⟩))))
def sm_DoneS (l : List (Int × Int × Int × Int × Unit)) : Prop := l.length ≤ 1048576
theorem sm_DoneS_len {l : List (Int × Int × Int × Int × Unit)} (h : sm_DoneS l) : l.length ≤ 1048576 := h
theorem c_to_DoneS (l : List (Int × Int × Int × Int × Unit)) (h : sm_DoneS l) : TT n_laws_toDoneS [.one (.sl (.pair (.int .i64) (.pair (.int .i64) (.pair (.int .i64) (.pair (.int .i64) .unit)))) l)] [] (.one (.row 0)) [.row t_impl_Done (.pair (.int .i64) (.pair (.int .i64) (.pair (.int .i64) (.pair (.int .i64) .unit)))) l] := by
  have hl := sm_DoneS_len h
  refine r_laws_toDoneS l ⟨rfl, by omega, fun m i r => 0 ≤ i ∧ i ≤ l.length ∧ m = (l.length - i).toNat ∧ r = fillTo (fun x => x) ((0 : Int), ((0 : Int), ((0 : Int), ((0 : Int), ())))) l i.toNat, ⟨_, rfl, by omega, by omega, rfl, by rw [show (0 : Int).toNat = 0 from rfl, fillTo_zero]; rfl⟩, ?_⟩
  rintro m i r ⟨h0, h1, rfl, rfl⟩
  have hr := fillTo_length (f := fun x => x) (d := ((0 : Int), ((0 : Int), ((0 : Int), ((0 : Int), ()))))) (l := l) (i := i.toNat) (by omega)
  refine ifP (fun hlt => ⟨⟨h0, hlt⟩, _, _, _, _, c_to_Done (l.getD i.toNat ((0 : Int), ((0 : Int), ((0 : Int), ((0 : Int), ()))))), ⟨h0, by rw [hr]; exact hlt⟩, ?_⟩) (fun hge => ?_)
  · rw [w64 (by omega)]
    exact ⟨_, by omega, rfl, by omega, by omega, rfl, by rw [toNat_succ h0]; exact fillTo_set (f := fun x => x) (by omega) ((0 : Int), ((0 : Int), ((0 : Int), ((0 : Int), ()))))⟩
  · have e : i.toNat = l.length := by omega
    rw [e, fillTo_all, List.map_id']; exact ⟨rfl, rfl⟩
theorem c_eq_DoneS (l : List (Int × Int × Int × Int × Unit)) (h : sm_DoneS l) : TT n_laws_eqDoneS [.one (.sl (.pair (.int .i64) (.pair (.int .i64) (.pair (.int .i64) (.pair (.int .i64) .unit)))) l), .one (.sl (.pair (.int .i64) (.pair (.int .i64) (.pair (.int .i64) (.pair (.int .i64) .unit)))) l)] [] (eB true) [] := by
  have hl := sm_DoneS_len h
  refine r_laws_eqDoneS l l (ifN_f rfl ⟨fun m i => 0 ≤ i ∧ i ≤ l.length ∧ m = (l.length - i).toNat, ⟨_, rfl, by omega, by omega, rfl⟩, ?_⟩)
  rintro m i ⟨h0, h1, rfl⟩
  refine ifP (fun hlt => ⟨⟨h0, hlt⟩, ⟨h0, hlt⟩, _, c_eq_Done (l.getD i.toNat ((0 : Int), ((0 : Int), ((0 : Int), ((0 : Int), ()))))), ifB_f rfl ?_⟩) (fun _ => ⟨rfl, rfl⟩)
  rw [w64 (by omega)]
  exact ⟨_, by omega, rfl, by omega, by omega, rfl⟩
def sz_DoneS (l : List (Int × Int × Int × Int × Unit)) (n : Int) : Int := if n - l.length < 0 then -1 else n - l.length
theorem sz_DoneS_ok {l : List (Int × Int × Int × Int × Unit)} {n : Int} (hn : n ≤ 1048576) : sz_DoneS l n ≤ max n (-1) ∧ (0 ≤ sz_DoneS l n → sm_DoneS l) := by
  unfold sz_DoneS sm_DoneS
  split
  · exact ⟨by omega, fun h => by omega⟩
  · exact ⟨by omega, fun _ => by omega⟩
theorem c_sz_DoneS (l : List (Int × Int × Int × Int × Unit)) (n : Int) (hw : Ty.wf (.slice (.pair (.int .i64) (.pair (.int .i64) (.pair (.int .i64) (.pair (.int .i64) .unit))))) l) (hn : 0 ≤ n ∧ n ≤ 1048576) : TT n_laws_szDoneS [.one (.sl (.pair (.int .i64) (.pair (.int .i64) (.pair (.int .i64) (.pair (.int .i64) .unit)))) l), eI n] [] (eI (sz_DoneS l n)) [] := by
  have hl : l.length ≤ 9223372036854775807 := hw.1
  refine r_laws_szDoneS l n ?_
  unfold v_laws_szDoneS
  rw [w64 (by omega)]
  exact ifP (fun h => ⟨by rw [sz_DoneS, if_pos h], rfl⟩) (fun h => ⟨by rw [sz_DoneS, if_neg h], rfl⟩)
end Go.Ry
