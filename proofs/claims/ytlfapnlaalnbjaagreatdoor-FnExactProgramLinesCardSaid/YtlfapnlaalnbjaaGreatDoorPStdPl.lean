/- What the laws' own functions do: sizes, copies, comparisons. No condition. -/
import Derived.Test.YtlfapnlaalnbjaaGreatDoorPNum1
set_option linter.unusedVariables false
set_option linter.unusedSimpArgs false
namespace Go.Ry
open Go.Proofs

def szL {α : Type} (f : α → Int → Int) : List α → Int → Int
  | [], n => n
  | x :: l, n => if f x n < 0 then -1 else szL f l (f x n)
theorem szL_cons {α : Type} {f : α → Int → Int} {x : α} {l : List α} {n : Int} : szL f (x :: l) n = if f x n < 0 then -1 else szL f l (f x n) := rfl
theorem szL_ok {α : Type} {f : α → Int → Int} {p : α → Prop} (hf : ∀ x n, n ≤ 1048576 → f x n ≤ max n (-1) ∧ (0 ≤ f x n → p x)) : ∀ (l : List α) (n : Int), n ≤ 1048576 → szL f l n ≤ max n (-1) ∧ (0 ≤ szL f l n → ∀ x ∈ l, p x)
  | [], n, _ => ⟨by simp only [szL]; omega, fun _ x hx => by simp at hx⟩
  | x :: l, n, hn => by
    have h1 := hf x n hn
    rw [szL_cons]
    split
    · exact ⟨by omega, fun h => by omega⟩
    · have h2 := szL_ok hf l (f x n) (by omega)
      refine ⟨by omega, fun h y hy => ?_⟩
      rcases List.mem_cons.1 hy with rfl | hy
      · exact h1.2 (by omega)
      · exact h2.2 h y hy
abbrev D_Instr := Int × Int × Unit
abbrev D_Routine := List D_Instr × Unit
abbrev D_Task := Int × Int × Int × Int × Int × Int × Unit
abbrev Y_Instr : Ty := .pair (.int .i64) (.pair (.int .i64) .unit)
abbrev Y_Routine : Ty := .pair (.slice Y_Instr) .unit
abbrev Y_Task : Ty := .pair (.int .i64) (.pair (.int .i64) (.pair (.int .i64) (.pair (.int .i64) Y_Instr)))
abbrev Z_Instr : D_Instr := ((0 : Int), ((0 : Int), ()))
abbrev Z_Routine : D_Routine := (([] : List D_Instr), ())
abbrev Z_Task : D_Task := ((0 : Int), ((0 : Int), ((0 : Int), ((0 : Int), Z_Instr))))
def sm_IntS (l : List Int) : Prop := l.length ≤ 1048576
theorem sm_IntS_len {l : List Int} (h : sm_IntS l) : l.length ≤ 1048576 := h
theorem c_to_IntS (l : List Int) (h : sm_IntS l) : TT n_laws_toIntS [.one (.sl (.int .i64) l)] [] (.one (.row 0)) [.row t_int (.int .i64) l] := by
  have hl := sm_IntS_len h
  refine r_laws_toIntS l ⟨rfl, by omega, fun m i r => 0 ≤ i ∧ i ≤ l.length ∧ m = (l.length - i).toNat ∧ r = fillTo (fun x => x) (0 : Int) l i.toNat, ⟨_, rfl, by omega, by omega, rfl, by rw [show (0 : Int).toNat = 0 from rfl, fillTo_zero]; rfl⟩, ?_⟩
  rintro m i r ⟨h0, h1, rfl, rfl⟩
  have hr := fillTo_length (f := fun x => x) (d := (0 : Int)) (l := l) (i := i.toNat) (by omega)
  refine ifP (fun hlt => ⟨⟨h0, hlt⟩, ⟨h0, by rw [hr]; exact hlt⟩, ?_⟩) (fun hge => ?_)
  · rw [w64 (by omega)]
    exact ⟨_, by omega, rfl, by omega, by omega, rfl, by rw [toNat_succ h0]; exact fillTo_set (f := fun x => x) (by omega) (0 : Int)⟩
  · have e : i.toNat = l.length := by omega
    rw [e, fillTo_all, List.map_id']; exact ⟨rfl, rfl⟩
theorem c_eq_IntS (l : List Int) (h : sm_IntS l) : TT n_laws_eqIntS [.one (.sl (.int .i64) l), .one (.sl (.int .i64) l)] [] (eB true) [] := by
  have hl := sm_IntS_len h
  refine r_laws_eqIntS l l (ifN_f rfl ⟨fun m i => 0 ≤ i ∧ i ≤ l.length ∧ m = (l.length - i).toNat, ⟨_, rfl, by omega, by omega, rfl⟩, ?_⟩)
  rintro m i ⟨h0, h1, rfl⟩
  refine ifP (fun hlt => ⟨⟨h0, hlt⟩, ⟨h0, hlt⟩, ifN_f rfl ?_⟩) (fun _ => ⟨rfl, rfl⟩)
  rw [w64 (by omega)]
  exact ⟨_, by omega, rfl, by omega, by omega, rfl⟩
def sz_IntS (l : List Int) (n : Int) : Int := if n - l.length < 0 then -1 else n - l.length
theorem sz_IntS_ok {l : List Int} {n : Int} (hn : n ≤ 1048576) : sz_IntS l n ≤ max n (-1) ∧ (0 ≤ sz_IntS l n → sm_IntS l) := by
  unfold sz_IntS sm_IntS
  split
  · exact ⟨by omega, fun h => by omega⟩
  · exact ⟨by omega, fun _ => by omega⟩
theorem c_sz_IntS (l : List Int) (n : Int) (hw : Ty.wf (.slice (.int .i64)) l) (hn : 0 ≤ n ∧ n ≤ 1048576) : TT n_laws_szIntS [.one (.sl (.int .i64) l), eI n] [] (eI (sz_IntS l n)) [] := by
  have hl : l.length ≤ 9223372036854775807 := hw.1
  refine r_laws_szIntS l n ?_
  unfold v_laws_szIntS
  rw [w64 (by omega)]
  exact ifP (fun h => ⟨by rw [sz_IntS, if_pos h], rfl⟩) (fun h => ⟨by rw [sz_IntS, if_neg h], rfl⟩)
theorem c_to_Instr (x : D_Instr) : TT n_laws_toInstr [.agg [cI x.1, cI x.2.1]] [] (.agg [cI x.1, cI x.2.1]) [] := r_laws_toInstr _ _ ⟨rfl, rfl⟩
theorem c_eq_Instr (x : D_Instr) : TT n_laws_eqInstr [.agg [cI x.1, cI x.2.1], .agg [cI x.1, cI x.2.1]] [] (eB true) [] :=
  r_laws_eqInstr _ _ _ _ (ifN_f rfl (ifN_f rfl ⟨rfl, rfl⟩))
def sm_InstrS (l : List D_Instr) : Prop := l.length ≤ 1048576
theorem sm_InstrS_len {l : List D_Instr} (h : sm_InstrS l) : l.length ≤ 1048576 := h
theorem c_to_InstrS (l : List D_Instr) (h : sm_InstrS l) : TT n_laws_toInstrS [.one (.sl Y_Instr l)] [] (.one (.row 0)) [.row t_impl_Instr Y_Instr l] := by
  have hl := sm_InstrS_len h
  refine r_laws_toInstrS l ⟨rfl, by omega, fun m i r => 0 ≤ i ∧ i ≤ l.length ∧ m = (l.length - i).toNat ∧ r = fillTo (fun x => x) Z_Instr l i.toNat, ⟨_, rfl, by omega, by omega, rfl, by rw [show (0 : Int).toNat = 0 from rfl, fillTo_zero]; rfl⟩, ?_⟩
  rintro m i r ⟨h0, h1, rfl, rfl⟩
  have hr := fillTo_length (f := fun x => x) (d := Z_Instr) (l := l) (i := i.toNat) (by omega)
  refine ifP (fun hlt => ⟨⟨h0, hlt⟩, _, _, c_to_Instr (l.getD i.toNat Z_Instr), ⟨h0, by rw [hr]; exact hlt⟩, ?_⟩) (fun hge => ?_)
  · rw [w64 (by omega)]
    exact ⟨_, by omega, rfl, by omega, by omega, rfl, by rw [toNat_succ h0]; exact fillTo_set (f := fun x => x) (by omega) Z_Instr⟩
  · have e : i.toNat = l.length := by omega
    rw [e, fillTo_all, List.map_id']; exact ⟨rfl, rfl⟩
theorem c_eq_InstrS (l : List D_Instr) (h : sm_InstrS l) : TT n_laws_eqInstrS [.one (.sl Y_Instr l), .one (.sl Y_Instr l)] [] (eB true) [] := by
  have hl := sm_InstrS_len h
  refine r_laws_eqInstrS l l (ifN_f rfl ⟨fun m i => 0 ≤ i ∧ i ≤ l.length ∧ m = (l.length - i).toNat, ⟨_, rfl, by omega, by omega, rfl⟩, ?_⟩)
  rintro m i ⟨h0, h1, rfl⟩
  refine ifP (fun hlt => ⟨⟨h0, hlt⟩, ⟨h0, hlt⟩, _, c_eq_Instr (l.getD i.toNat Z_Instr), ifB_f rfl ?_⟩) (fun _ => ⟨rfl, rfl⟩)
  rw [w64 (by omega)]
  exact ⟨_, by omega, rfl, by omega, by omega, rfl⟩
def sz_InstrS (l : List D_Instr) (n : Int) : Int := if n - l.length < 0 then -1 else n - l.length
theorem sz_InstrS_ok {l : List D_Instr} {n : Int} (hn : n ≤ 1048576) : sz_InstrS l n ≤ max n (-1) ∧ (0 ≤ sz_InstrS l n → sm_InstrS l) := by
  unfold sz_InstrS sm_InstrS
  split
  · exact ⟨by omega, fun h => by omega⟩
  · exact ⟨by omega, fun _ => by omega⟩
theorem c_sz_InstrS (l : List D_Instr) (n : Int) (hw : Ty.wf (.slice Y_Instr) l) (hn : 0 ≤ n ∧ n ≤ 1048576) : TT n_laws_szInstrS [.one (.sl Y_Instr l), eI n] [] (eI (sz_InstrS l n)) [] := by
  have hl : l.length ≤ 9223372036854775807 := hw.1
  refine r_laws_szInstrS l n ?_
  unfold v_laws_szInstrS
  rw [w64 (by omega)]
  exact ifP (fun h => ⟨by rw [sz_InstrS, if_pos h], rfl⟩) (fun h => ⟨by rw [sz_InstrS, if_neg h], rfl⟩)
def sm_Routine (x : D_Routine) : Prop := sm_InstrS x.1
theorem c_to_Routine (x : D_Routine) (h : sm_Routine x) : TT n_laws_toRoutine [.agg [.sl Y_Instr x.1]] [] (.agg [.row 0]) [.row t_impl_Instr Y_Instr x.1] :=
  r_laws_toRoutine _ ⟨ _, c_to_InstrS x.1 h, rfl, rfl⟩
theorem c_eq_Routine (x : D_Routine) (h : sm_Routine x) : TT n_laws_eqRoutine [.agg [.sl Y_Instr x.1], .agg [.sl Y_Instr x.1]] [] (eB true) [] :=
  r_laws_eqRoutine _ _ ⟨_, c_eq_InstrS x.1 h, ifB_f rfl ⟨rfl, rfl⟩⟩
def sz_Routine (x : D_Routine) (n : Int) : Int := if sz_InstrS x.1 n < 0 then -1 else sz_InstrS x.1 n
theorem sz_Routine_ok {l : D_Routine} {n : Int} (hn : n ≤ 1048576) : sz_Routine l n ≤ max n (-1) ∧ (0 ≤ sz_Routine l n → sm_Routine l) := by
  unfold sz_Routine sm_Routine
  have k0 := sz_InstrS_ok (l := l.1) (n := n) (by omega)
  split
  · exact ⟨by omega, fun h => by omega⟩
  · exact ⟨by omega, fun h => k0.2 (by omega)⟩
theorem c_sz_Routine (x : D_Routine) (n : Int) (hw : Ty.wf Y_Routine x) (hn : 0 ≤ n ∧ n ≤ 1048576) : TT n_laws_szRoutine [.agg [.sl Y_Instr x.1], eI n] [] (eI (sz_Routine x n)) [] := by
  refine r_laws_szRoutine _ n ?_
  unfold sz_Routine
  have k0 := (sz_InstrS_ok (l := x.1) (n := n) (by omega)).1
  refine ⟨_, c_sz_InstrS x.1 _ hw.1 (by omega), ifP (fun h0 => ?_) (fun h0 => ?_)⟩
  · rw [if_pos h0]; exact ⟨rfl, rfl⟩
  rw [if_neg h0]
  exact ⟨rfl, rfl⟩
def sm_RoutineS (l : List D_Routine) : Prop := l.length ≤ 1048576 ∧ ∀ x ∈ l, sm_Routine x
theorem sm_RoutineS_len {l : List D_Routine} (h : sm_RoutineS l) : l.length ≤ 1048576 := h.1
theorem sm_RoutineS_at {l : List D_Routine} (h : sm_RoutineS l) {i : Nat} (hi : i < l.length) : sm_Routine (l.getD i Z_Routine) := by
  rw [List.getD_eq_getElem?_getD, List.getElem?_eq_getElem hi]
  exact h.2 _ (List.getElem_mem hi)
theorem c_to_RoutineS (l : List D_Routine) (h : sm_RoutineS l) : TT n_laws_toRoutineS [.one (.sl Y_Routine l)] [] (.one (.row 0)) [.nest t_impl_Routine Y_Routine ⟨0, t_impl_Instr, Y_Instr⟩ l none] := by
  have hl := sm_RoutineS_len h
  refine r_laws_toRoutineS l ⟨rfl, by omega, fun m i r => 0 ≤ i ∧ i ≤ l.length ∧ m = (l.length - i).toNat ∧ r = fillTo (fun x => x) Z_Routine l i.toNat, ⟨_, rfl, by omega, by omega, rfl, by rw [show (0 : Int).toNat = 0 from rfl, fillTo_zero]; rfl⟩, ?_⟩
  rintro m i r ⟨h0, h1, rfl, rfl⟩
  have hr := fillTo_length (f := fun x => x) (d := Z_Routine) (l := l) (i := i.toNat) (by omega)
  refine ifP (fun hlt => ⟨⟨h0, hlt⟩, _, c_to_Routine (l.getD i.toNat Z_Routine) (sm_RoutineS_at h (by omega)), ⟨h0, by rw [hr]; exact hlt⟩, ?_⟩) (fun hge => ?_)
  · rw [w64 (by omega)]
    exact ⟨_, by omega, rfl, by omega, by omega, rfl, by rw [toNat_succ h0]; exact fillTo_set (f := fun x => x) (by omega) Z_Routine⟩
  · have e : i.toNat = l.length := by omega
    rw [e, fillTo_all, List.map_id']; exact ⟨rfl, rfl⟩
theorem c_eq_RoutineS (l : List D_Routine) (h : sm_RoutineS l) : TT n_laws_eqRoutineS [.one (.sl Y_Routine l), .one (.sl Y_Routine l)] [] (eB true) [] := by
  have hl := sm_RoutineS_len h
  refine r_laws_eqRoutineS l l (ifN_f rfl ⟨fun m i => 0 ≤ i ∧ i ≤ l.length ∧ m = (l.length - i).toNat, ⟨_, rfl, by omega, by omega, rfl⟩, ?_⟩)
  rintro m i ⟨h0, h1, rfl⟩
  refine ifP (fun hlt => ⟨⟨h0, hlt⟩, ⟨h0, hlt⟩, _, c_eq_Routine (l.getD i.toNat Z_Routine) (sm_RoutineS_at h (by omega)), ifB_f rfl ?_⟩) (fun _ => ⟨rfl, rfl⟩)
  rw [w64 (by omega)]
  exact ⟨_, by omega, rfl, by omega, by omega, rfl⟩
def sz_RoutineS (l : List D_Routine) (n : Int) : Int := if n - l.length < 0 then -1 else szL sz_Routine l (n - l.length)
theorem sz_RoutineS_ok {l : List D_Routine} {n : Int} (hn : n ≤ 1048576) : sz_RoutineS l n ≤ max n (-1) ∧ (0 ≤ sz_RoutineS l n → sm_RoutineS l) := by
  unfold sz_RoutineS sm_RoutineS
  split
  · exact ⟨by omega, fun h => by omega⟩
  · have := szL_ok (f := sz_Routine) (p := sm_Routine) (fun x n hn => sz_Routine_ok (l := x) hn) l (n - l.length) (by omega)
    exact ⟨by omega, fun h => ⟨by omega, this.2 h⟩⟩
theorem c_sz_RoutineS (l : List D_Routine) (n : Int) (hw : Ty.wf (.slice Y_Routine) l) (hn : 0 ≤ n ∧ n ≤ 1048576) : TT n_laws_szRoutineS [.one (.sl Y_Routine l), eI n] [] (eI (sz_RoutineS l n)) [] := by
  have hl : l.length ≤ 9223372036854775807 := hw.1
  refine r_laws_szRoutineS l n ?_
  unfold v_laws_szRoutineS
  rw [w64 (by omega)]
  refine ifP (fun h => ⟨by rw [sz_RoutineS, if_pos h], rfl⟩) (fun h => ?_)
  refine ⟨fun m k i => 0 ≤ i ∧ i ≤ l.length ∧ m = (l.length - i).toNat ∧ 0 ≤ k ∧ k ≤ 1048576 ∧ szL sz_Routine (l.drop i.toNat) k = sz_RoutineS l n, ⟨_, rfl, by omega, by omega, rfl, by omega, by omega, by rw [sz_RoutineS, if_neg h]; rfl⟩, ?_⟩
  rintro m k i ⟨h0, h1, rfl, k0, k1, hv⟩
  refine ifP (fun hlt => ?_) (fun hge => ?_)
  · rw [drop_getD (by omega) Z_Routine, szL_cons] at hv
    have hx : Ty.wf Y_Routine (l.getD i.toNat Z_Routine) := by
      rw [List.getD_eq_getElem?_getD, List.getElem?_eq_getElem (by omega)]
      exact hw.2 _ (List.getElem_mem (by omega))
    have hk := (sz_Routine_ok (l := l.getD i.toNat Z_Routine) k1).1
    refine ⟨⟨h0, hlt⟩, _, c_sz_Routine (l.getD i.toNat Z_Routine) k hx ⟨k0, k1⟩, ifP (fun h2 => ?_) (fun h2 => ?_)⟩
    · rw [if_pos h2] at hv
      rw [← hv]; exact ⟨rfl, rfl⟩
    · rw [if_neg h2] at hv
      rw [w64 (by omega)]
      exact ⟨_, by omega, rfl, by omega, by omega, rfl, by omega, by omega, by rw [toNat_succ h0]; exact hv⟩
  · rw [List.drop_eq_nil_of_le (by omega)] at hv
    rw [← hv]; exact ⟨rfl, rfl⟩
theorem c_to_Task (x : D_Task) : TT n_laws_toTask [.agg [cI x.1, cI x.2.1, cI x.2.2.1, cI x.2.2.2.1, cI x.2.2.2.2.1, cI x.2.2.2.2.2.1]] [] (.agg [cI x.1, cI x.2.1, cI x.2.2.1, cI x.2.2.2.1, cI x.2.2.2.2.1, cI x.2.2.2.2.2.1]) [] := r_laws_toTask _ _ _ _ _ _ ⟨rfl, rfl⟩
theorem c_eq_Task (x : D_Task) : TT n_laws_eqTask [.agg [cI x.1, cI x.2.1, cI x.2.2.1, cI x.2.2.2.1, cI x.2.2.2.2.1, cI x.2.2.2.2.2.1], .agg [cI x.1, cI x.2.1, cI x.2.2.1, cI x.2.2.2.1, cI x.2.2.2.2.1, cI x.2.2.2.2.2.1]] [] (eB true) [] :=
  r_laws_eqTask _ _ _ _ _ _ _ _ _ _ _ _ (ifN_f rfl (ifN_f rfl (ifN_f rfl (ifN_f rfl (ifN_f rfl (ifN_f rfl ⟨rfl, rfl⟩))))))
def sm_TaskS (l : List D_Task) : Prop := l.length ≤ 1048576
theorem sm_TaskS_len {l : List D_Task} (h : sm_TaskS l) : l.length ≤ 1048576 := h
theorem c_to_TaskS (l : List D_Task) (h : sm_TaskS l) : TT n_laws_toTaskS [.one (.sl Y_Task l)] [] (.one (.row 0)) [.row t_impl_Task Y_Task l] := by
  have hl := sm_TaskS_len h
  refine r_laws_toTaskS l ⟨rfl, by omega, fun m i r => 0 ≤ i ∧ i ≤ l.length ∧ m = (l.length - i).toNat ∧ r = fillTo (fun x => x) Z_Task l i.toNat, ⟨_, rfl, by omega, by omega, rfl, by rw [show (0 : Int).toNat = 0 from rfl, fillTo_zero]; rfl⟩, ?_⟩
  rintro m i r ⟨h0, h1, rfl, rfl⟩
  have hr := fillTo_length (f := fun x => x) (d := Z_Task) (l := l) (i := i.toNat) (by omega)
  refine ifP (fun hlt => ⟨⟨h0, hlt⟩, _, _, _, _, _, _, c_to_Task (l.getD i.toNat Z_Task), ⟨h0, by rw [hr]; exact hlt⟩, ?_⟩) (fun hge => ?_)
  · rw [w64 (by omega)]
    exact fun _ e' => ⟨_, by omega, rfl, by omega, by omega, rfl, by rw [e', toNat_succ h0]; exact fillTo_set (f := fun x => x) (by omega) Z_Task⟩
  · have e : i.toNat = l.length := by omega
    rw [e, fillTo_all, List.map_id']; exact ⟨rfl, rfl⟩
theorem c_eq_TaskS (l : List D_Task) (h : sm_TaskS l) : TT n_laws_eqTaskS [.one (.sl Y_Task l), .one (.sl Y_Task l)] [] (eB true) [] := by
  have hl := sm_TaskS_len h
  refine r_laws_eqTaskS l l (ifN_f rfl ⟨fun m i => 0 ≤ i ∧ i ≤ l.length ∧ m = (l.length - i).toNat, ⟨_, rfl, by omega, by omega, rfl⟩, ?_⟩)
  rintro m i ⟨h0, h1, rfl⟩
  refine ifP (fun hlt => ⟨⟨h0, hlt⟩, ⟨h0, hlt⟩, _, c_eq_Task (l.getD i.toNat Z_Task), ifB_f rfl ?_⟩) (fun _ => ⟨rfl, rfl⟩)
  rw [w64 (by omega)]
  exact ⟨_, by omega, rfl, by omega, by omega, rfl⟩
def sz_TaskS (l : List D_Task) (n : Int) : Int := if n - l.length < 0 then -1 else n - l.length
theorem sz_TaskS_ok {l : List D_Task} {n : Int} (hn : n ≤ 1048576) : sz_TaskS l n ≤ max n (-1) ∧ (0 ≤ sz_TaskS l n → sm_TaskS l) := by
  unfold sz_TaskS sm_TaskS
  split
  · exact ⟨by omega, fun h => by omega⟩
  · exact ⟨by omega, fun _ => by omega⟩
theorem c_sz_TaskS (l : List D_Task) (n : Int) (hw : Ty.wf (.slice Y_Task) l) (hn : 0 ≤ n ∧ n ≤ 1048576) : TT n_laws_szTaskS [.one (.sl Y_Task l), eI n] [] (eI (sz_TaskS l n)) [] := by
  have hl : l.length ≤ 9223372036854775807 := hw.1
  refine r_laws_szTaskS l n ?_
  unfold v_laws_szTaskS
  rw [w64 (by omega)]
  exact ifP (fun h => ⟨by rw [sz_TaskS, if_pos h], rfl⟩) (fun h => ⟨by rw [sz_TaskS, if_neg h], rfl⟩)
def sm_BoolS (l : List Bool) : Prop := l.length ≤ 1048576
theorem sm_BoolS_len {l : List Bool} (h : sm_BoolS l) : l.length ≤ 1048576 := h
theorem c_to_BoolS (l : List Bool) (h : sm_BoolS l) : TT n_laws_toBoolS [.one (.sl .bool l)] [] (.one (.row 0)) [.row t_bool .bool l] := by
  have hl := sm_BoolS_len h
  refine r_laws_toBoolS l ⟨rfl, by omega, fun m i r => 0 ≤ i ∧ i ≤ l.length ∧ m = (l.length - i).toNat ∧ r = fillTo (fun x => x) false l i.toNat, ⟨_, rfl, by omega, by omega, rfl, by rw [show (0 : Int).toNat = 0 from rfl, fillTo_zero]; rfl⟩, ?_⟩
  rintro m i r ⟨h0, h1, rfl, rfl⟩
  have hr := fillTo_length (f := fun x => x) (d := false) (l := l) (i := i.toNat) (by omega)
  refine ifP (fun hlt => ⟨⟨h0, hlt⟩, ⟨h0, by rw [hr]; exact hlt⟩, ?_⟩) (fun hge => ?_)
  · rw [w64 (by omega)]
    exact ⟨_, by omega, rfl, by omega, by omega, rfl, by rw [toNat_succ h0]; exact fillTo_set (f := fun x => x) (by omega) false⟩
  · have e : i.toNat = l.length := by omega
    rw [e, fillTo_all, List.map_id']; exact ⟨rfl, rfl⟩
theorem c_eq_BoolS (l : List Bool) (h : sm_BoolS l) : TT n_laws_eqBoolS [.one (.sl .bool l), .one (.sl .bool l)] [] (eB true) [] := by
  have hl := sm_BoolS_len h
  refine r_laws_eqBoolS l l (ifN_f rfl ⟨fun m i => 0 ≤ i ∧ i ≤ l.length ∧ m = (l.length - i).toNat, ⟨_, rfl, by omega, by omega, rfl⟩, ?_⟩)
  rintro m i ⟨h0, h1, rfl⟩
  refine ifP (fun hlt => ⟨⟨h0, hlt⟩, ⟨h0, hlt⟩, ifB_f (by simp) ?_⟩) (fun _ => ⟨rfl, rfl⟩)
  rw [w64 (by omega)]
  exact ⟨_, by omega, rfl, by omega, by omega, rfl⟩
def sz_BoolS (l : List Bool) (n : Int) : Int := if n - l.length < 0 then -1 else n - l.length
theorem sz_BoolS_ok {l : List Bool} {n : Int} (hn : n ≤ 1048576) : sz_BoolS l n ≤ max n (-1) ∧ (0 ≤ sz_BoolS l n → sm_BoolS l) := by
  unfold sz_BoolS sm_BoolS
  split
  · exact ⟨by omega, fun h => by omega⟩
  · exact ⟨by omega, fun _ => by omega⟩
theorem c_sz_BoolS (l : List Bool) (n : Int) (hw : Ty.wf (.slice .bool) l) (hn : 0 ≤ n ∧ n ≤ 1048576) : TT n_laws_szBoolS [.one (.sl .bool l), eI n] [] (eI (sz_BoolS l n)) [] := by
  have hl : l.length ≤ 9223372036854775807 := hw.1
  refine r_laws_szBoolS l n ?_
  unfold v_laws_szBoolS
  rw [w64 (by omega)]
  exact ifP (fun h => ⟨by rw [sz_BoolS, if_pos h], rfl⟩) (fun h => ⟨by rw [sz_BoolS, if_neg h], rfl⟩)
def sm_Program (x : List Int × List D_Routine × List D_Task × List Bool × Unit) : Prop := sm_IntS x.1 ∧ sm_RoutineS x.2.1 ∧ sm_TaskS x.2.2.1 ∧ sm_BoolS x.2.2.2.1
theorem c_to_Program (x : List Int × List D_Routine × List D_Task × List Bool × Unit) (h : sm_Program x) : TT n_laws_toProgram [.agg [.sl (.int .i64) x.1, .sl Y_Routine x.2.1, .sl Y_Task x.2.2.1, .sl .bool x.2.2.2.1]] [] (.agg [.row 0, .row 1, .row 2, .row 3]) [.row t_int (.int .i64) x.1, .nest t_impl_Routine Y_Routine ⟨0, t_impl_Instr, Y_Instr⟩ x.2.1 none, .row t_impl_Task Y_Task x.2.2.1, .row t_bool .bool x.2.2.2.1] :=
  r_laws_toProgram _ _ _ _ ⟨ _, c_to_IntS x.1 h.1, _, c_to_RoutineS x.2.1 h.2.1, _, c_to_TaskS x.2.2.1 h.2.2.1, _, c_to_BoolS x.2.2.2.1 h.2.2.2, rfl, rfl⟩
theorem c_eq_Program (x : List Int × List D_Routine × List D_Task × List Bool × Unit) (h : sm_Program x) : TT n_laws_eqProgram [.agg [.sl (.int .i64) x.1, .sl Y_Routine x.2.1, .sl Y_Task x.2.2.1, .sl .bool x.2.2.2.1], .agg [.sl (.int .i64) x.1, .sl Y_Routine x.2.1, .sl Y_Task x.2.2.1, .sl .bool x.2.2.2.1]] [] (eB true) [] :=
  r_laws_eqProgram _ _ _ _ _ _ _ _ ⟨_, c_eq_IntS x.1 h.1, ifB_f rfl ⟨_, c_eq_RoutineS x.2.1 h.2.1, ifB_f rfl ⟨_, c_eq_TaskS x.2.2.1 h.2.2.1, ifB_f rfl ⟨_, c_eq_BoolS x.2.2.2.1 h.2.2.2, ifB_f rfl ⟨rfl, rfl⟩⟩⟩⟩⟩
def sz_Program (x : List Int × List D_Routine × List D_Task × List Bool × Unit) (n : Int) : Int := if sz_IntS x.1 n < 0 then -1 else if sz_RoutineS x.2.1 (sz_IntS x.1 n) < 0 then -1 else if sz_TaskS x.2.2.1 (sz_RoutineS x.2.1 (sz_IntS x.1 n)) < 0 then -1 else if sz_BoolS x.2.2.2.1 (sz_TaskS x.2.2.1 (sz_RoutineS x.2.1 (sz_IntS x.1 n))) < 0 then -1 else sz_BoolS x.2.2.2.1 (sz_TaskS x.2.2.1 (sz_RoutineS x.2.1 (sz_IntS x.1 n)))
theorem sz_Program_ok {l : List Int × List D_Routine × List D_Task × List Bool × Unit} {n : Int} (hn : n ≤ 1048576) : sz_Program l n ≤ max n (-1) ∧ (0 ≤ sz_Program l n → sm_Program l) := by
  unfold sz_Program sm_Program
  have k0 := sz_IntS_ok (l := l.1) (n := n) (by omega)
  split
  · exact ⟨by omega, fun h => by omega⟩
  have k1 := sz_RoutineS_ok (l := l.2.1) (n := sz_IntS l.1 n) (by omega)
  split
  · exact ⟨by omega, fun h => by omega⟩
  have k2 := sz_TaskS_ok (l := l.2.2.1) (n := sz_RoutineS l.2.1 (sz_IntS l.1 n)) (by omega)
  split
  · exact ⟨by omega, fun h => by omega⟩
  have k3 := sz_BoolS_ok (l := l.2.2.2.1) (n := sz_TaskS l.2.2.1 (sz_RoutineS l.2.1 (sz_IntS l.1 n))) (by omega)
  split
  · exact ⟨by omega, fun h => by omega⟩
  exact ⟨by omega, fun h => ⟨k0.2 (by omega), k1.2 (by omega), k2.2 (by omega), k3.2 (by omega)⟩⟩
theorem c_sz_Program (x : List Int × List D_Routine × List D_Task × List Bool × Unit) (n : Int) (hw : Ty.wf (.pair (.slice (.int .i64)) (.pair (.slice Y_Routine) (.pair (.slice Y_Task) (.pair (.slice .bool) .unit)))) x) (hn : 0 ≤ n ∧ n ≤ 1048576) : TT n_laws_szProgram [.agg [.sl (.int .i64) x.1, .sl Y_Routine x.2.1, .sl Y_Task x.2.2.1, .sl .bool x.2.2.2.1], eI n] [] (eI (sz_Program x n)) [] := by
  refine r_laws_szProgram _ _ _ _ n ?_
  unfold sz_Program
  have k0 := (sz_IntS_ok (l := x.1) (n := n) (by omega)).1
  refine ⟨_, c_sz_IntS x.1 _ hw.1 (by omega), ifP (fun h0 => ?_) (fun h0 => ?_)⟩
  · rw [if_pos h0]; exact ⟨rfl, rfl⟩
  rw [if_neg h0]
  have k1 := (sz_RoutineS_ok (l := x.2.1) (n := sz_IntS x.1 n) (by omega)).1
  refine ⟨_, c_sz_RoutineS x.2.1 _ hw.2.1 (by omega), ifP (fun h1 => ?_) (fun h1 => ?_)⟩
  · rw [if_pos h1]; exact ⟨rfl, rfl⟩
  rw [if_neg h1]
  have k2 := (sz_TaskS_ok (l := x.2.2.1) (n := sz_RoutineS x.2.1 (sz_IntS x.1 n)) (by omega)).1
  refine ⟨_, c_sz_TaskS x.2.2.1 _ hw.2.2.1 (by omega), ifP (fun h2 => ?_) (fun h2 => ?_)⟩
  · rw [if_pos h2]; exact ⟨rfl, rfl⟩
  rw [if_neg h2]
  have k3 := (sz_BoolS_ok (l := x.2.2.2.1) (n := sz_TaskS x.2.2.1 (sz_RoutineS x.2.1 (sz_IntS x.1 n))) (by omega)).1
  refine ⟨_, c_sz_BoolS x.2.2.2.1 _ hw.2.2.2.1 (by omega), ifP (fun h3 => ?_) (fun h3 => ?_)⟩
  · rw [if_pos h3]; exact ⟨rfl, rfl⟩
  rw [if_neg h3]
  exact ⟨rfl, rfl⟩
end Go.Ry
