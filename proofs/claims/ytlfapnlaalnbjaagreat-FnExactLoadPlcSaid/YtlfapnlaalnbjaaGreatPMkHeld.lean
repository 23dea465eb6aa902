/- What of the marks of a program is held. No condition. -/
import Derived.Test.YtlfapnlaalnbjaaGreatPMkNest
set_option linter.unusedVariables false
set_option linter.unusedSimpArgs false
namespace Go.Ry
open Go.Proofs

theorem mkL_at {α : Type} {f : Int → α → α} {c : α → Int} (d : α) : ∀ {l : List α} {k : Int} {i : Nat}, i < l.length → (mkL f c k l).getD i d = f (k + cnL c (l.take i)) (l.getD i d)
  | x :: l, k, 0, _ => by simp [mkL, cnL]
  | x :: l, k, i + 1, h => by
    have := mkL_at d (f := f) (c := c) (l := l) (k := k + c x) (i := i) (by simpa using h)
    simp only [mkL, List.getD_cons_succ, List.take_succ_cons, cnL]
    rw [this, Int.add_assoc]
theorem c_held_RoutineS (l : List Rou) (h : sm_RoutineS l) (n : Int) (hn : 0 ≤ n ∧ n ≤ 1000000000000) : TT n_laws_heldRoutineS [.one (.sl tRou (mk_RoutineS n l)), eI n] [] (eI (n + cn_RoutineS l)) [] := by
  have hl := h.1
  have hlen : (mk_RoutineS n l).length = l.length := mkL_len
  have small : ∀ i : Nat, i ≤ l.length → 0 ≤ cnL cn1_Routine (l.take i) ∧ cnL cn1_Routine (l.take i) ≤ 2199023255552 := fun i hi =>
    cn_RoutineS_le (l := l.take i) ⟨by rw [List.length_take]; omega, fun x hx => h.2 x (List.mem_of_mem_take hx)⟩
  refine r_laws_heldRoutineS (mk_RoutineS n l) n ⟨fun m k i => 0 ≤ i ∧ i ≤ l.length ∧ m = (l.length - i).toNat ∧ k = n + cnL cn1_Routine (l.take i.toNat),
    ⟨_, rfl, by omega, by omega, rfl, by simp [cnL]⟩, ?_⟩
  rintro m k i ⟨h0, h1, rfl, rfl⟩
  refine ifP (fun hlt => ⟨⟨h0, hlt⟩, ?_⟩) (fun hge => ?_)
  · have hi : i.toNat < l.length := by omega
    have hb := small i.toNat (by omega)
    have hx := sm_InstrS_len (sm_RoutineS_at h hi)
    have hcn := cnL_take (c := cn1_Routine) (l := l) hi (([] : List (Int × Int × Unit)), ())
    have hm := c_held_InstrS (l.getD i.toNat (([] : List (Int × Int × Unit)), ())).1 hx (n + cnL cn1_Routine (l.take i.toNat)) (by omega)
    refine ⟨n + cnL cn1_Routine (l.take i.toNat) + 2 * ((l.getD i.toNat (([] : List (Int × Int × Unit)), ())).1.length : Int), ?_, ifP_f (by omega) ?_⟩
    · unfold mk_RoutineS
      rw [mkL_at _ hi]; exact hm
    · rw [w64 (x := i + 1) (by omega)]
      exact ⟨_, by omega, rfl, by omega, by omega, rfl, by rw [toNat_succ h0, hcn, Int.add_assoc]; rfl⟩
  · have e : i.toNat = l.length := by omega
    rw [e, List.take_length]; exact ⟨rfl, rfl⟩
abbrev PrgV := List Int × List Rou × List (Int × Int × Int × Int × Int × Int × Unit) × List Bool × Unit
def mkP2 (x : PrgV) : Int := 1 + 1 * (x.1.length : Int)
def mkP3 (x : PrgV) : Int := mkP2 x + cn_RoutineS x.2.1
def mkP4 (x : PrgV) : Int := mkP3 x + 6 * (x.2.2.1.length : Int)
def mkP5 (x : PrgV) : Int := mkP4 x + 1 * (x.2.2.2.1.length : Int)
theorem mkP_range {x : PrgV} (h : sm_Program x) : (1 ≤ mkP2 x ∧ mkP2 x ≤ 1048577) ∧ (1 ≤ mkP3 x ∧ mkP3 x ≤ 3000000000000) ∧ (1 ≤ mkP4 x ∧ mkP4 x ≤ 3100000000000) ∧ (1 ≤ mkP5 x ∧ mkP5 x ≤ 3200000000000) := by
  have l1 : x.1.length ≤ 1048576 := h.1
  have l2 := cn_RoutineS_le h.2.1
  have l3 : x.2.2.1.length ≤ 1048576 := h.2.2.1
  have l4 : x.2.2.2.1.length ≤ 1048576 := h.2.2.2
  unfold mkP5 mkP4 mkP3 mkP2
  omega
theorem c_mark_ProgramX (x : PrgV) (h : sm_Program x) : TT n_laws_markProgram [.agg [.row 0, .row 1, .row 2, .row 3], eI 1] [.row t_int (.int .i64) x.1, .nest t_impl_Routine tRou insQ x.2.1 none, .row t_impl_Task tTsk' x.2.2.1, .row t_bool .bool x.2.2.2.1] (eI (mkP5 x))
      [.row t_int (.int .i64) (mk_IntS 1 x.1), .nest t_impl_Routine tRou insQ (mk_RoutineS (mkP2 x) x.2.1) none, .row t_impl_Task tTsk' (mk_TaskS (mkP3 x) x.2.2.1), .row t_bool .bool (mk_BoolS (mkP4 x) x.2.2.2.1)] := by
  obtain ⟨h2, h3, h4, h5⟩ := mkP_range h
  exact r_laws_markProgram 1 x.1 x.2.1 x.2.2.1 x.2.2.2.1 ⟨_, _, c_mark_IntS x.1 h.1 1 (by omega), _, _, c_mark_RoutineS x.2.1 h.2.1 (mkP2 x) (by omega), _, _, c_mark_TaskS x.2.2.1 h.2.2.1 (mkP3 x) (by omega), _, _, c_mark_BoolS x.2.2.2.1 h.2.2.2 (mkP4 x) (by omega), rfl, rfl⟩
theorem c_held_ProgramX (x : PrgV) (h : sm_Program x) : TT n_laws_heldProgram [.agg [.sl (.int .i64) (mk_IntS 1 x.1), .sl tRou (mk_RoutineS (mkP2 x) x.2.1), .sl tTsk' (mk_TaskS (mkP3 x) x.2.2.1), .sl .bool (mk_BoolS (mkP4 x) x.2.2.2.1)], eI 1] [] (eI (mkP5 x)) [] := by
  obtain ⟨h2, h3, h4, h5⟩ := mkP_range h
  have e2 : ¬ (1 + 1 * (x.1.length : Int) < 0) := by omega
  have e3 : ¬ (mkP2 x + cn_RoutineS x.2.1 < 0) := by show ¬ (mkP3 x < 0); omega
  have e4 : ¬ (mkP3 x + 6 * (x.2.2.1.length : Int) < 0) := by show ¬ (mkP4 x < 0); omega
  have e5 : ¬ (mkP4 x + 1 * (x.2.2.2.1.length : Int) < 0) := by show ¬ (mkP5 x < 0); omega
  exact r_laws_heldProgram _ _ _ _ 1 ⟨_, c_held_IntS x.1 h.1 1 (by omega), ifP_f e2 ⟨_, c_held_RoutineS x.2.1 h.2.1 (mkP2 x) (by omega), ifP_f e3 ⟨_, c_held_TaskS x.2.2.1 h.2.2.1 (mkP3 x) (by omega), ifP_f e4 ⟨_, c_held_BoolS x.2.2.2.1 h.2.2.2 (mkP4 x) (by omega), ifP_f e5 ⟨rfl, rfl⟩⟩⟩⟩⟩
end Go.Ry
