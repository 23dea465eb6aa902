/- Equal programs. No condition. -/
import Derived.Test.YtopchiaiefkehaaGreatPEql1
import Derived.Test.YtopchiaiefkehaaGreatPVer6
set_option linter.unusedVariables false
set_option linter.unusedSimpArgs false
set_option synthInstance.maxSize 4000
namespace Go.Ry
open Go.Proofs

theorem nd_t {b : Prop} [Decidable b] (h : (!decide b) = true) : ¬ b := by simpa using h
theorem nd_f {b : Prop} [Decidable b] (h : (!decide b) = false) : b := by simpa using h
theorem same_next {α : Type} {a b : List α} {d : α} {i : Int} (h0 : 0 ≤ i) (h2 : ∀ j, j < i.toNat → a.getD j d = b.getD j d) (he : a.getD i.toNat d = b.getD i.toNat d) : ∀ j, j < (i + 1).toNat → a.getD j d = b.getD j d := by
  intro j hj
  rcases Nat.lt_or_ge j i.toNat with h8 | h8
  · exact h2 j h8
  · rw [show j = i.toNat by omega]; exact he
theorem ne_of_getD {α : Type} {a b : List α} {d : α} {i : Nat} (h : a.getD i d ≠ b.getD i d) : a ≠ b := fun e => h (by rw [e])

theorem beq_Task (x y : Tsk) : ((x.1 == y.1) && ((x.2.1 == y.2.1) && ((x.2.2.1 == y.2.2.1) && ((x.2.2.2.1 == y.2.2.2.1) && ((x.2.2.2.2.1 == y.2.2.2.2.1) && ((x.2.2.2.2.2.1 == y.2.2.2.2.2.1) && true)))))) = decide (x = y) := by
  obtain ⟨x0, x1, x2, x3, x4, x5, u⟩ := x
  obtain ⟨y0, y1, y2, y3, y4, y5, v⟩ := y
  rw [Bool.eq_iff_iff]
  simp [Prod.mk.injEq]
theorem c_Eq_Task (a b : List Tsk) (ha : a.length ≤ 1048576) : TT n_slices_Equal_impl_Task_impl_Task [.one (.sl tTsk a), .one (.sl tTsk b)] [] (eB (decide (a = b))) [] := by
  refine r_slices_Equal_impl_Task_impl_Task a b (ifN (fun h => ⟨by rw [decide_eq_false (fun e => h (by rw [e]))], rfl⟩) (fun h => ?_))
  refine ⟨fun m i => 0 ≤ i ∧ i ≤ a.length ∧ m = (a.length - i).toNat ∧ ∀ j, j < i.toNat → a.getD j dTsk = b.getD j dTsk, ⟨_, rfl, by omega, by omega, rfl, fun j hj => by simp at hj⟩, ?_⟩
  rintro m i ⟨h0, h1, rfl, h2⟩
  refine ifP (fun hlt => ⟨⟨h0, hlt⟩, ⟨h0, by omega⟩, ?_⟩) (fun hge => ⟨by rw [decide_eq_true (ext_getD (d := dTsk) (by omega) fun j hj => h2 j (by omega))], rfl⟩)
  rw [beq_Task]
  refine ifB_cases (fun he => ⟨by rw [decide_eq_false (ne_of_getD (nd_t he))], rfl⟩) (fun he => ?_)
  rw [w64 (x := i + 1) (by omega)]
  exact ⟨_, by omega, rfl, by omega, by omega, rfl, same_next h0 h2 (nd_f he)⟩
theorem beq_Instr (x y : Ins) : ((x.1 == y.1) && ((x.2.1 == y.2.1) && true)) = decide (x = y) := by
  obtain ⟨x0, x1, u⟩ := x
  obtain ⟨y0, y1, v⟩ := y
  rw [Bool.eq_iff_iff]
  simp [Prod.mk.injEq]
theorem c_Eq_Instr (a b : List Ins) (ha : a.length ≤ 1048576) : TT n_slices_Equal_impl_Instr_impl_Instr [.one (.sl tIns a), .one (.sl tIns b)] [] (eB (decide (a = b))) [] := by
  refine r_slices_Equal_impl_Instr_impl_Instr a b (ifN (fun h => ⟨by rw [decide_eq_false (fun e => h (by rw [e]))], rfl⟩) (fun h => ?_))
  refine ⟨fun m i => 0 ≤ i ∧ i ≤ a.length ∧ m = (a.length - i).toNat ∧ ∀ j, j < i.toNat → a.getD j ((0 : Int), ((0 : Int), ())) = b.getD j ((0 : Int), ((0 : Int), ())), ⟨_, rfl, by omega, by omega, rfl, fun j hj => by simp at hj⟩, ?_⟩
  rintro m i ⟨h0, h1, rfl, h2⟩
  refine ifP (fun hlt => ⟨⟨h0, hlt⟩, ⟨h0, by omega⟩, ?_⟩) (fun hge => ⟨by rw [decide_eq_true (ext_getD (d := ((0 : Int), ((0 : Int), ()))) (by omega) fun j hj => h2 j (by omega))], rfl⟩)
  rw [beq_Instr]
  refine ifB_cases (fun he => ⟨by rw [decide_eq_false (ne_of_getD (nd_t he))], rfl⟩) (fun he => ?_)
  rw [w64 (x := i + 1) (by omega)]
  exact ⟨_, by omega, rfl, by omega, by omega, rfl, same_next h0 h2 (nd_f he)⟩
theorem c_sameProgram_1 (x y : Rou) (hx : x.1.length ≤ 1048576) : TT n_impl_sameProgram_1 [.agg [.sl tIns x.1], .agg [.sl tIns y.1]] [] (eB (decide (x = y))) [] := by
  refine r_impl_sameProgram_1 x.1 y.1 ⟨_, c_Eq_Instr x.1 y.1 hx, ?_, rfl⟩
  obtain ⟨a, u⟩ := x
  obtain ⟨b, v⟩ := y
  have : decide (a = b) = decide (((a, u) : Rou) = (b, v)) := by congr 1; exact propext ⟨fun e => by rw [e], fun e => by injection e⟩
  rw [this]
theorem c_EqF_Routine (a b : List Rou) (ha : a.length ≤ 1048576) (hs : ∀ x ∈ a, x.1.length ≤ 1048576) : TT n_slices_EqualFunc_impl_Routine_impl_Routine_impl_Routine_impl_Routine [.one (.sl tRou a), .one (.sl tRou b), .one (.fn n_impl_sameProgram_1 [])] [] (eB (decide (a = b))) [] := by
  refine r_slices_EqualFunc_impl_Routine_impl_Routine_impl_Routine_impl_Routine a b (ifN (fun h => ⟨by rw [decide_eq_false (fun e => h (by rw [e]))], rfl⟩) (fun h => ?_))
  refine ⟨fun m i => 0 ≤ i ∧ i ≤ a.length ∧ m = (a.length - i).toNat ∧ ∀ j, j < i.toNat → a.getD j (([] : List Ins), ()) = b.getD j (([] : List Ins), ()), ⟨_, rfl, by omega, by omega, rfl, fun j hj => by simp at hj⟩, ?_⟩
  rintro m i ⟨h0, h1, rfl, h2⟩
  refine ifP (fun hlt => ?_) (fun hge => ⟨by rw [decide_eq_true (ext_getD (d := (([] : List Ins), ())) (by omega) fun j hj => h2 j (by omega))], rfl⟩)
  have hm : a.getD i.toNat (([] : List Ins), ()) ∈ a := by
    rw [List.getD_eq_getElem?_getD, List.getElem?_eq_getElem (by omega)]; exact List.getElem_mem _
  refine ⟨⟨h0, hlt⟩, ⟨h0, by omega⟩, _, c_sameProgram_1 (a.getD i.toNat (([] : List Ins), ())) (b.getD i.toNat (([] : List Ins), ())) (hs _ hm), ifB_cases (fun he => ⟨by rw [decide_eq_false (ne_of_getD (nd_t he))], rfl⟩) (fun he => ?_)⟩
  rw [w64 (x := i + 1) (by omega)]
  exact ⟨_, by omega, rfl, by omega, by omega, rfl, same_next h0 h2 (nd_f he)⟩
@[reducible] def sameP (ks : List Int) (rs : List Rou) (ts : List Tsk) (sf : List Bool) (ks' : List Int) (rs' : List Rou) (ts' : List Tsk) (sf' : List Bool) : Prop := ks = ks' ∧ rs = rs' ∧ ts = ts' ∧ sf = sf'
theorem c_impl_sameProgram (ks : List Int) (rs : List Rou) (ts : List Tsk) (sf : List Bool) (ks' : List Int) (rs' : List Rou) (ts' : List Tsk) (sf' : List Bool) (h1 : ks.length ≤ 1048576) (h2 : ts.length ≤ 1048576) (h3 : sf.length ≤ 1048576) (h4 : rs.length ≤ 1048576) (h5 : ∀ r ∈ rs, r.1.length ≤ 1048576) :
    TT n_impl_sameProgram [prgE ks rs ts sf, prgE ks' rs' ts' sf'] [] (eB (decide (sameP ks rs ts sf ks' rs' ts' sf'))) [] := by
  refine r_impl_sameProgram ks rs ts sf ks' rs' ts' sf' ⟨_, c_Equal_int2 ks ks' h1, ifP (fun e1 => ⟨_, c_Eq_Task ts ts' h2, ifP (fun e2 => ⟨_, c_Equal_bool2 sf sf' h3, ifP (fun e3 => ⟨_, c_EqF_Routine rs rs' h4 h5, ?_, rfl⟩) (fun e => ⟨?_, rfl⟩)⟩) (fun e => ⟨?_, rfl⟩)⟩) (fun e => ⟨?_, rfl⟩)⟩
  · exact congrArg eB (decide_eq_decide.2 ⟨fun x => ⟨e1, x, e2, e3⟩, fun x => x.2.1⟩)
  · rw [decide_eq_false (fun x => e x.2.2.2)]
  · rw [decide_eq_false (fun x => e x.2.2.1)]
  · rw [decide_eq_false (fun x => e x.1)]
end Go.Ry
