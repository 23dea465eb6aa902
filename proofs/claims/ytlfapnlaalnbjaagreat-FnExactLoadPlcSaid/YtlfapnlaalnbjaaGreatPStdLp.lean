/- What the laws' own functions do: sizes, copies, comparisons. No condition. -/
import Derived.Test.YtlfapnlaalnbjaaGreatPNum1
set_option linter.unusedVariables false
set_option linter.unusedSimpArgs false
namespace Go.Ry
open Go.Proofs

def szL {α : Type} (f : α → Int → Int) : List α → Int → Int
  | [], n => n
  | x :: l, n => if f x n < 0 then -1 else szL f l (f x n)
theorem szL_cons {α : Type} {f : α → Int → Int} {x : α} {l : List α} {n : Int} : szL f (x :: l) n = if f x n < 0 then -1 else szL f l (f x n) := rfl
theorem szL_ok {α : Type} {f : α → Int → Int} {p : α → Prop} (hf : ∀ x n, n ≤ 1048576 → f x n ≤ max n (-1) ∧ (0 ≤ f x n → p x)) : ∀ (l : List α) (n : Int), n ≤ 1048576 → szL f l n ≤ max n (-1) ∧ (0 ≤ szL f l n → ∀ x ∈ l, p x)
  | [], n, _ => ⟨by simp only [szL]; omega, fun _ x hx => by simp at hx⟩
  | x :: l, n, hn => by
    have h1 := hf x n hn
    rw [szL_cons]
    split
    · exact ⟨by omega, fun h => by omega⟩
    · have h2 := szL_ok hf l (f x n) (by omega)
      refine ⟨by omega, fun h y hy => ?_⟩
      rcases List.mem_cons.1 hy with rfl | hy
      · exact h1.2 (by omega)
      · exact h2.2 h y hy
abbrev D_Instr := Int × Int × Unit
abbrev D_Fb := Int × Bool × Int × Int × Unit
abbrev D_Routine := List D_Instr × Unit
abbrev D_Task := Int × Int × Int × Int × Int × Int × Unit
abbrev D_Source := Int × Int × Int × Int × Int × Int × List Int × Unit
abbrev Y_Instr : Ty := .pair (.int .i64) (.pair (.int .i64) .unit)
abbrev Y_Routine : Ty := .pair (.slice Y_Instr) .unit
abbrev Y_Fb : Ty := .pair (.int .i64) (.pair .bool Y_Instr)
abbrev Y_Task : Ty := .pair (.int .i64) (.pair (.int .i64) (.pair (.int .i64) (.pair (.int .i64) Y_Instr)))
abbrev Z_Instr : D_Instr := ((0 : Int), ((0 : Int), ()))
def sm_IntS (l : List Int) : Prop := l.length ≤ 1048576
theorem sm_IntS_len {l : List Int} (h : sm_IntS l) : l.length ≤ 1048576 := h
theorem c_eq_IntS (l : List Int) (h : sm_IntS l) : TT n_laws_eqIntS [.one (.sl (.int .i64) l), .one (.sl (.int .i64) l)] [] (eB true) [] := by
  have hl := sm_IntS_len h
  refine r_laws_eqIntS l l (ifN_f rfl ⟨fun m i => 0 ≤ i ∧ i ≤ l.length ∧ m = (l.length - i).toNat, ⟨_, rfl, by omega, by omega, rfl⟩, ?_⟩)
  rintro m i ⟨h0, h1, rfl⟩
  refine ifP (fun hlt => ⟨⟨h0, hlt⟩, ⟨h0, hlt⟩, ifN_f rfl ?_⟩) (fun _ => ⟨rfl, rfl⟩)
  rw [w64 (by omega)]
  exact ⟨_, by omega, rfl, by omega, by omega, rfl⟩
theorem c_eq_Instr (x : D_Instr) : TT n_laws_eqInstr [.agg [cI x.1, cI x.2.1], .agg [cI x.1, cI x.2.1]] [] (eB true) [] :=
  r_laws_eqInstr _ _ _ _ (ifN_f rfl (ifN_f rfl ⟨rfl, rfl⟩))
def sm_InstrS (l : List D_Instr) : Prop := l.length ≤ 1048576
theorem sm_InstrS_len {l : List D_Instr} (h : sm_InstrS l) : l.length ≤ 1048576 := h
theorem c_eq_InstrS (l : List D_Instr) (h : sm_InstrS l) : TT n_laws_eqInstrS [.one (.sl Y_Instr l), .one (.sl Y_Instr l)] [] (eB true) [] := by
  have hl := sm_InstrS_len h
  refine r_laws_eqInstrS l l (ifN_f rfl ⟨fun m i => 0 ≤ i ∧ i ≤ l.length ∧ m = (l.length - i).toNat, ⟨_, rfl, by omega, by omega, rfl⟩, ?_⟩)
  rintro m i ⟨h0, h1, rfl⟩
  refine ifP (fun hlt => ⟨⟨h0, hlt⟩, ⟨h0, hlt⟩, _, c_eq_Instr (l.getD i.toNat Z_Instr), ifB_f rfl ?_⟩) (fun _ => ⟨rfl, rfl⟩)
  rw [w64 (by omega)]
  exact ⟨_, by omega, rfl, by omega, by omega, rfl⟩
def sm_Routine (x : D_Routine) : Prop := sm_InstrS x.1
theorem c_eq_Routine (x : D_Routine) (h : sm_Routine x) : TT n_laws_eqRoutine [.agg [.sl Y_Instr x.1], .agg [.sl Y_Instr x.1]] [] (eB true) [] :=
  r_laws_eqRoutine _ _ ⟨_, c_eq_InstrS x.1 h, ifB_f rfl ⟨rfl, rfl⟩⟩
def sm_RoutineS (l : List D_Routine) : Prop := l.length ≤ 1048576 ∧ ∀ x ∈ l, sm_Routine x
theorem sm_RoutineS_len {l : List D_Routine} (h : sm_RoutineS l) : l.length ≤ 1048576 := h.1
theorem sm_RoutineS_at {l : List D_Routine} (h : sm_RoutineS l) {i : Nat} (hi : i < l.length) : sm_Routine (l.getD i (([] : List D_Instr), ())) := by
  rw [List.getD_eq_getElem?_getD, List.getElem?_eq_getElem hi]
  exact h.2 _ (List.getElem_mem hi)
theorem c_eq_RoutineS (l : List D_Routine) (h : sm_RoutineS l) : TT n_laws_eqRoutineS [.one (.sl Y_Routine l), .one (.sl Y_Routine l)] [] (eB true) [] := by
  have hl := sm_RoutineS_len h
  refine r_laws_eqRoutineS l l (ifN_f rfl ⟨fun m i => 0 ≤ i ∧ i ≤ l.length ∧ m = (l.length - i).toNat, ⟨_, rfl, by omega, by omega, rfl⟩, ?_⟩)
  rintro m i ⟨h0, h1, rfl⟩
  refine ifP (fun hlt => ⟨⟨h0, hlt⟩, ⟨h0, hlt⟩, _, c_eq_Routine (l.getD i.toNat (([] : List D_Instr), ())) (sm_RoutineS_at h (by omega)), ifB_f rfl ?_⟩) (fun _ => ⟨rfl, rfl⟩)
  rw [w64 (by omega)]
  exact ⟨_, by omega, rfl, by omega, by omega, rfl⟩
theorem c_eq_Task (x : D_Task) : TT n_laws_eqTask [.agg [cI x.1, cI x.2.1, cI x.2.2.1, cI x.2.2.2.1, cI x.2.2.2.2.1, cI x.2.2.2.2.2.1], .agg [cI x.1, cI x.2.1, cI x.2.2.1, cI x.2.2.2.1, cI x.2.2.2.2.1, cI x.2.2.2.2.2.1]] [] (eB true) [] :=
  r_laws_eqTask _ _ _ _ _ _ _ _ _ _ _ _ (ifN_f rfl (ifN_f rfl (ifN_f rfl (ifN_f rfl (ifN_f rfl (ifN_f rfl ⟨rfl, rfl⟩))))))
def sm_TaskS (l : List D_Task) : Prop := l.length ≤ 1048576
theorem sm_TaskS_len {l : List D_Task} (h : sm_TaskS l) : l.length ≤ 1048576 := h
theorem c_eq_TaskS (l : List D_Task) (h : sm_TaskS l) : TT n_laws_eqTaskS [.one (.sl Y_Task l), .one (.sl Y_Task l)] [] (eB true) [] := by
  have hl := sm_TaskS_len h
  refine r_laws_eqTaskS l l (ifN_f rfl ⟨fun m i => 0 ≤ i ∧ i ≤ l.length ∧ m = (l.length - i).toNat, ⟨_, rfl, by omega, by omega, rfl⟩, ?_⟩)
  rintro m i ⟨h0, h1, rfl⟩
  refine ifP (fun hlt => ⟨⟨h0, hlt⟩, ⟨h0, hlt⟩, _, c_eq_Task (l.getD i.toNat ((0 : Int), ((0 : Int), ((0 : Int), ((0 : Int), Z_Instr))))), ifB_f rfl ?_⟩) (fun _ => ⟨rfl, rfl⟩)
  rw [w64 (by omega)]
  exact ⟨_, by omega, rfl, by omega, by omega, rfl⟩
def sm_BoolS (l : List Bool) : Prop := l.length ≤ 1048576
theorem sm_BoolS_len {l : List Bool} (h : sm_BoolS l) : l.length ≤ 1048576 := h
theorem c_eq_BoolS (l : List Bool) (h : sm_BoolS l) : TT n_laws_eqBoolS [.one (.sl .bool l), .one (.sl .bool l)] [] (eB true) [] := by
  have hl := sm_BoolS_len h
  refine r_laws_eqBoolS l l (ifN_f rfl ⟨fun m i => 0 ≤ i ∧ i ≤ l.length ∧ m = (l.length - i).toNat, ⟨_, rfl, by omega, by omega, rfl⟩, ?_⟩)
  rintro m i ⟨h0, h1, rfl⟩
  refine ifP (fun hlt => ⟨⟨h0, hlt⟩, ⟨h0, hlt⟩, ifB_f (by simp) ?_⟩) (fun _ => ⟨rfl, rfl⟩)
  rw [w64 (by omega)]
  exact ⟨_, by omega, rfl, by omega, by omega, rfl⟩
def sm_Program (x : List Int × List D_Routine × List D_Task × List Bool × Unit) : Prop := sm_IntS x.1 ∧ sm_RoutineS x.2.1 ∧ sm_TaskS x.2.2.1 ∧ sm_BoolS x.2.2.2.1
theorem c_eq_Program (x : List Int × List D_Routine × List D_Task × List Bool × Unit) (h : sm_Program x) : TT n_laws_eqProgram [.agg [.sl (.int .i64) x.1, .sl Y_Routine x.2.1, .sl Y_Task x.2.2.1, .sl .bool x.2.2.2.1], .agg [.sl (.int .i64) x.1, .sl Y_Routine x.2.1, .sl Y_Task x.2.2.1, .sl .bool x.2.2.2.1]] [] (eB true) [] :=
  r_laws_eqProgram _ _ _ _ _ _ _ _ ⟨_, c_eq_IntS x.1 h.1, ifB_f rfl ⟨_, c_eq_RoutineS x.2.1 h.2.1, ifB_f rfl ⟨_, c_eq_TaskS x.2.2.1 h.2.2.1, ifB_f rfl ⟨_, c_eq_BoolS x.2.2.2.1 h.2.2.2, ifB_f rfl ⟨rfl, rfl⟩⟩⟩⟩⟩
theorem c_eq_Fb (x : D_Fb) : TT n_laws_eqFb [.agg [cI x.1, .bool x.2.1, cI x.2.2.1, cI x.2.2.2.1], .agg [cI x.1, .bool x.2.1, cI x.2.2.1, cI x.2.2.2.1]] [] (eB true) [] :=
  r_laws_eqFb _ _ _ _ _ _ _ _ (ifN_f rfl (ifB_f (by simp) (ifN_f rfl (ifN_f rfl ⟨rfl, rfl⟩))))
def sm_FbS (l : List D_Fb) : Prop := l.length ≤ 1048576
theorem sm_FbS_len {l : List D_Fb} (h : sm_FbS l) : l.length ≤ 1048576 := h
theorem c_eq_FbS (l : List D_Fb) (h : sm_FbS l) : TT n_laws_eqFbS [.one (.sl Y_Fb l), .one (.sl Y_Fb l)] [] (eB true) [] := by
  have hl := sm_FbS_len h
  refine r_laws_eqFbS l l (ifN_f rfl ⟨fun m i => 0 ≤ i ∧ i ≤ l.length ∧ m = (l.length - i).toNat, ⟨_, rfl, by omega, by omega, rfl⟩, ?_⟩)
  rintro m i ⟨h0, h1, rfl⟩
  refine ifP (fun hlt => ⟨⟨h0, hlt⟩, ⟨h0, hlt⟩, _, c_eq_Fb (l.getD i.toNat ((0 : Int), (false, Z_Instr))), ifB_f rfl ?_⟩) (fun _ => ⟨rfl, rfl⟩)
  rw [w64 (by omega)]
  exact ⟨_, by omega, rfl, by omega, by omega, rfl⟩
def sm_Data (x : List Int × List D_Fb × List Bool × List Bool × List Bool × List Bool × Int × Unit) : Prop := sm_IntS x.1 ∧ sm_FbS x.2.1 ∧ sm_BoolS x.2.2.1 ∧ sm_BoolS x.2.2.2.1 ∧ sm_BoolS x.2.2.2.2.1 ∧ sm_BoolS x.2.2.2.2.2.1
theorem c_eq_Data (x : List Int × List D_Fb × List Bool × List Bool × List Bool × List Bool × Int × Unit) (h : sm_Data x) : TT n_laws_eqData [.agg [.sl (.int .i64) x.1, .sl Y_Fb x.2.1, .sl .bool x.2.2.1, .sl .bool x.2.2.2.1, .sl .bool x.2.2.2.2.1, .sl .bool x.2.2.2.2.2.1, cI x.2.2.2.2.2.2.1], .agg [.sl (.int .i64) x.1, .sl Y_Fb x.2.1, .sl .bool x.2.2.1, .sl .bool x.2.2.2.1, .sl .bool x.2.2.2.2.1, .sl .bool x.2.2.2.2.2.1, cI x.2.2.2.2.2.2.1]] [] (eB true) [] :=
  r_laws_eqData _ _ _ _ _ _ _ _ _ _ _ _ _ _ ⟨_, c_eq_IntS x.1 h.1, ifB_f rfl ⟨_, c_eq_FbS x.2.1 h.2.1, ifB_f rfl ⟨_, c_eq_BoolS x.2.2.1 h.2.2.1, ifB_f rfl ⟨_, c_eq_BoolS x.2.2.2.1 h.2.2.2.1, ifB_f rfl ⟨_, c_eq_BoolS x.2.2.2.2.1 h.2.2.2.2.1, ifB_f rfl ⟨_, c_eq_BoolS x.2.2.2.2.2.1 h.2.2.2.2.2, ifB_f rfl (ifN_f rfl ⟨rfl, rfl⟩)⟩⟩⟩⟩⟩⟩
def sm_Source (x : D_Source) : Prop := sm_IntS x.2.2.2.2.2.2.1
theorem c_eq_Source (x : D_Source) (h : sm_Source x) : TT n_laws_eqSource [.agg [cI x.1, cI x.2.1, cI x.2.2.1, cI x.2.2.2.1, cI x.2.2.2.2.1, cI x.2.2.2.2.2.1, .sl (.int .i64) x.2.2.2.2.2.2.1], .agg [cI x.1, cI x.2.1, cI x.2.2.1, cI x.2.2.2.1, cI x.2.2.2.2.1, cI x.2.2.2.2.2.1, .sl (.int .i64) x.2.2.2.2.2.2.1]] [] (eB true) [] :=
  r_laws_eqSource _ _ _ _ _ _ _ _ _ _ _ _ _ _ (ifN_f rfl (ifN_f rfl (ifN_f rfl (ifN_f rfl (ifN_f rfl (ifN_f rfl ⟨_, c_eq_IntS x.2.2.2.2.2.2.1 h, ifB_f rfl ⟨rfl, rfl⟩⟩))))))
def sm_SourceS (l : List D_Source) : Prop := l.length ≤ 1048576 ∧ ∀ x ∈ l, sm_Source x
theorem sm_SourceS_len {l : List D_Source} (h : sm_SourceS l) : l.length ≤ 1048576 := h.1
theorem sm_SourceS_at {l : List D_Source} (h : sm_SourceS l) {i : Nat} (hi : i < l.length) : sm_Source (l.getD i ((0 : Int), ((0 : Int), ((0 : Int), ((0 : Int), ((0 : Int), ((0 : Int), (([] : List Int), ())))))))) := by
  rw [List.getD_eq_getElem?_getD, List.getElem?_eq_getElem hi]
  exact h.2 _ (List.getElem_mem hi)
theorem c_eq_SourceS (l : List D_Source) (h : sm_SourceS l) : TT n_laws_eqSourceS [.one (.sl (.pair (.int .i64) (.pair (.int .i64) (.pair (.int .i64) (.pair (.int .i64) (.pair (.int .i64) (.pair (.int .i64) (.pair (.slice (.int .i64)) .unit))))))) l), .one (.sl (.pair (.int .i64) (.pair (.int .i64) (.pair (.int .i64) (.pair (.int .i64) (.pair (.int .i64) (.pair (.int .i64) (.pair (.slice (.int .i64)) .unit))))))) l)] [] (eB true) [] := by
  have hl := sm_SourceS_len h
  refine r_laws_eqSourceS l l (ifN_f rfl ⟨fun m i => 0 ≤ i ∧ i ≤ l.length ∧ m = (l.length - i).toNat, ⟨_, rfl, by omega, by omega, rfl⟩, ?_⟩)
  rintro m i ⟨h0, h1, rfl⟩
  refine ifP (fun hlt => ⟨⟨h0, hlt⟩, ⟨h0, hlt⟩, _, c_eq_Source (l.getD i.toNat ((0 : Int), ((0 : Int), ((0 : Int), ((0 : Int), ((0 : Int), ((0 : Int), (([] : List Int), ())))))))) (sm_SourceS_at h (by omega)), ifB_f rfl ?_⟩) (fun _ => ⟨rfl, rfl⟩)
  rw [w64 (by omega)]
  exact ⟨_, by omega, rfl, by omega, by omega, rfl⟩
end Go.Ry
