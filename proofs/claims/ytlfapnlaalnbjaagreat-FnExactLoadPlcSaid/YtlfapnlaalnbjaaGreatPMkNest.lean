/- Marks of lists whose elements have slices of their own. No condition. -/
import Derived.Test.YtlfapnlaalnbjaaGreatPMarkLp
import Derived.Test.YtlfapnlaalnbjaaGreatPStdLp
import Derived.Test.YtlfapnlaalnbjaaGreatPNum2
import Derived.Test.YtlfapnlaalnbjaaGreatPMkL
set_option linter.unusedVariables false
set_option linter.unusedSimpArgs false
namespace Go.Ry
open Go.Proofs

def mk1_Routine (k : Int) (x : Rou) : Rou := (mk_InstrS k x.1, ())
def cn1_Routine (x : Rou) : Int := 2 * x.1.length
def mk_RoutineS (k : Int) (l : List Rou) : List Rou := mkL mk1_Routine cn1_Routine k l
def cn_RoutineS (l : List Rou) : Int := cnL cn1_Routine l
theorem cn_RoutineS_le {l : List Rou} (h : sm_RoutineS l) : 0 ≤ cn_RoutineS l ∧ cn_RoutineS l ≤ 2199023255552 := by
  have h1 := cnL_le (c := cn1_Routine) (B := 2097152) (l := l) fun x hx => by
    have := sm_InstrS_len (h.2 x hx)
    unfold cn1_Routine
    omega
  have := h.1
  unfold cn_RoutineS
  omega
theorem c_mark_RoutineS (l : List Rou) (h : sm_RoutineS l) (n : Int) (hn : 0 ≤ n ∧ n ≤ 1000000000000) : TT n_laws_markRoutineS [.one (.row 0), eI n] [.nest t_impl_Routine tRou ⟨0, t_impl_Instr, (.pair (.int .i64) (.pair (.int .i64) .unit))⟩ l none] (eI (n + cn_RoutineS l))
    [.nest t_impl_Routine tRou ⟨0, t_impl_Instr, (.pair (.int .i64) (.pair (.int .i64) .unit))⟩ (mk_RoutineS n l) none] := by
  have hl := h.1
  have small : ∀ i : Nat, i ≤ l.length → 0 ≤ cnL cn1_Routine (l.take i) ∧ cnL cn1_Routine (l.take i) ≤ 2199023255552 := fun i hi =>
    cn_RoutineS_le (l := l.take i) ⟨by rw [List.length_take]; omega, fun x hx => h.2 x (List.mem_of_mem_take hx)⟩
  refine r_laws_markRoutineS n l ⟨fun m k i s => 0 ≤ i ∧ i ≤ l.length ∧ m = (l.length - i).toNat ∧ k = n + cnL cn1_Routine (l.take i.toNat) ∧ s = mkTo mk1_Routine cn1_Routine n l i.toNat,
    ⟨_, by omega, by omega, rfl, by simp [cnL], by simp [mkTo, mkL]⟩, ?_⟩
  rintro m k i s ⟨h0, h1, rfl, rfl, rfl⟩
  have hlen := mkTo_length (f := mk1_Routine) (c := cn1_Routine) (n := n) (l := l) (i := i.toNat) (by omega)
  refine ifP (fun hlt => ?_) (fun hge => ?_)
  · rw [hlen] at hlt
    have hi : i.toNat < l.length := by omega
    have hb := small i.toNat (by omega)
    have hx := sm_InstrS_len (sm_RoutineS_at h hi)
    have hset := mkTo_set (f := mk1_Routine) (c := cn1_Routine) (n := n) (l := l) hi (([] : List (Int × Int × Unit)), ())
    have hcn := cnL_take (c := cn1_Routine) (l := l) hi (([] : List (Int × Int × Unit)), ())
    have hm := c_mark_InstrS (l.getD i.toNat (([] : List (Int × Int × Unit)), ())).1 hx (n + cnL cn1_Routine (l.take i.toNat)) (by omega)
    refine ⟨⟨h0, by rw [hlen]; exact hlt⟩, n + cnL cn1_Routine (l.take i.toNat) + 2 * ((l.getD i.toNat (([] : List (Int × Int × Unit)), ())).1.length : Int), mk_InstrS (n + cnL cn1_Routine (l.take i.toNat)) (l.getD i.toNat (([] : List (Int × Int × Unit)), ())).1, ?_, rfl, ?_⟩
    · rw [mkTo_at hi]; exact hm
    · rw [w64 (x := i + 1) (by omega)]
      exact ⟨_, by omega, by omega, by omega, rfl, by rw [toNat_succ h0, hcn, Int.add_assoc]; rfl, by rw [toNat_succ h0, ← hset]; rfl⟩
  · have e : i.toNat = l.length := by omega
    rw [e, mkTo_all, List.take_length]; exact ⟨rfl, rfl⟩
@[reducible] def insQ : Inn := ⟨0, t_impl_Instr, (.pair (.int .i64) (.pair (.int .i64) .unit))⟩
@[reducible] def tTsk' : Ty := .pair (.int .i64) (.pair (.int .i64) (.pair (.int .i64) (.pair (.int .i64) (.pair (.int .i64) (.pair (.int .i64) .unit)))))
theorem c_mark_Program (x : List Int × List Rou × List (Int × Int × Int × Int × Int × Int × Unit) × List Bool × Unit) (h : sm_Program x) : ∃ (k : Int) (ks : List Int) (rs : List Rou) (ts : List (Int × Int × Int × Int × Int × Int × Unit)) (sf : List Bool), 0 ≤ k ∧ k ≤ 9000000000000 ∧
    TT n_laws_markProgram [.agg [.row 0, .row 1, .row 2, .row 3], eI 1] [.row t_int (.int .i64) x.1, .nest t_impl_Routine tRou insQ x.2.1 none, .row t_impl_Task tTsk' x.2.2.1, .row t_bool .bool x.2.2.2.1] (eI k)
      [.row t_int (.int .i64) ks, .nest t_impl_Routine tRou insQ rs none, .row t_impl_Task tTsk' ts, .row t_bool .bool sf] := by
  have l1 : x.1.length ≤ 1048576 := h.1
  have l2 := cn_RoutineS_le h.2.1
  have l3 : x.2.2.1.length ≤ 1048576 := h.2.2.1
  have l4 : x.2.2.2.1.length ≤ 1048576 := h.2.2.2
  refine ⟨_, _, _, _, _, ?_, ?_, r_laws_markProgram 1 x.1 x.2.1 x.2.2.1 x.2.2.2.1 ⟨_, _, c_mark_IntS x.1 l1 1 (by omega), _, _, c_mark_RoutineS x.2.1 h.2.1 _ (by omega), _, _, c_mark_TaskS x.2.2.1 l3 _ (by omega), _, _, c_mark_BoolS x.2.2.2.1 l4 _ (by omega), rfl, rfl⟩⟩ <;> omega
end Go.Ry
