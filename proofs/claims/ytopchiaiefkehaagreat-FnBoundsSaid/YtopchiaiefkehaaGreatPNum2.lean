/- Lists of kinds, of instructions, of routines: are they as they should be. No condition. -/
import Derived.Test.YtopchiaiefkehaaGreatPNum1
set_option linter.unusedVariables false
set_option linter.unusedSimpArgs false
namespace Go.Ry
open Go.Proofs
abbrev Rou := List Ins × Unit
@[reducible] def tRou : Ty := .pair (.slice tIns) .unit
@[reducible] def tyInt : Ty := .int .i64

/-- What a search loop over a list comes to. -/
theorem any_drop {α : Type} {l : List α} {p : α → Bool} {i : Nat} (h : i < l.length) (d : α) : (l.drop i).any p = (p (l.getD i d) || (l.drop (i + 1)).any p) := by
  rw [drop_getD h d, List.any_cons]
theorem all_drop {α : Type} {l : List α} {p : α → Bool} {i : Nat} (h : i < l.length) (d : α) : (l.drop i).all p = (p (l.getD i d) && (l.drop (i + 1)).all p) := by
  rw [drop_getD h d, List.all_cons]

/-! ### kinds -/
theorem c_impl_all_int_1 (n : Int) : TT n_impl_all_int_1 [eI n, .one (.ptrB 0 0)] [.box [.fn n_impl_isFbKind []]] (eB (!isKind n)) [.box [.fn n_impl_isFbKind []]] :=
  r_impl_all_int_1 n ⟨_, c_impl_isFbKind n, rfl, rfl⟩
theorem c_IndexFunc_int (l : List Int) (hl : l.length ≤ 1048576) : ∃ n : Int, decide (n ≥ 0) = (l.any fun x => !isKind x) ∧
    TT n_slices_IndexFunc_int_int [.one (.sl (.int .i64) l), .one (.fn n_impl_all_int_1 [0])] [.box [.fn n_impl_isFbKind []]] (eI n) [.box [.fn n_impl_isFbKind []]] := by
  refine ⟨findI (fun x => !isKind x) l 0, findI_ge, r_slices_IndexFunc_int_int l ⟨fun m i => 0 ≤ i ∧ i ≤ l.length ∧ m = (l.length - i).toNat ∧ findI (fun x => !isKind x) (l.drop i.toNat) i.toNat = findI (fun x => !isKind x) l 0, ⟨_, rfl, by omega, by omega, rfl, rfl⟩, ?_⟩⟩
  rintro m i ⟨h0, h1, rfl, h2⟩
  refine ifP (fun hlt => ⟨⟨h0, hlt⟩, _, c_impl_all_int_1 _, ?_⟩) (fun hge => ?_)
  · rw [drop_getD (by omega) 0, findI] at h2
    refine ifB_cases (fun hb => ?_) (fun hb => ?_)
    · rw [if_pos hb] at h2
      exact ⟨by rw [← h2]; congr 1; omega, rfl⟩
    · rw [if_neg (by rw [hb]; exact Bool.false_ne_true)] at h2
      rw [w64 (by omega)]
      exact ⟨_, by omega, rfl, by omega, by omega, rfl, by rw [toNat_succ h0]; exact h2⟩
  · rw [List.drop_eq_nil_of_le (by omega)] at h2
    exact ⟨by rw [← h2]; rfl, rfl⟩
theorem c_ContainsFunc_int (l : List Int) (hl : l.length ≤ 1048576) :
    TT n_slices_ContainsFunc_int_int [.one (.sl (.int .i64) l), .one (.fn n_impl_all_int_1 [0])] [.box [.fn n_impl_isFbKind []]] (eB (l.any fun x => !isKind x)) [.box [.fn n_impl_isFbKind []]] := by
  obtain ⟨n, hn, hc⟩ := c_IndexFunc_int l hl
  exact r_slices_ContainsFunc_int_int l ⟨_, hc, by rw [hn], rfl⟩
theorem c_impl_all_int (l : List Int) (hl : l.length ≤ 1048576) : TT n_impl_all_int [.one (.sl (.int .i64) l), .one (.fn n_impl_isFbKind [])] [] (eB (l.all isKind)) [] :=
  r_impl_all_int l ⟨_, c_ContainsFunc_int l hl, by rw [all_any], rfl⟩
def kindsOK (l : List Int) : Bool := decide (l.length ≤ 8) && l.all isKind
theorem c_impl_areKinds (l : List Int) (hl : l.length ≤ 1048576) : TT n_impl_areKinds [.one (.sl (.int .i64) l)] [] (eB (kindsOK l)) [] :=
  r_impl_areKinds l (ifP (fun h => ⟨_, c_impl_all_int l hl, by simp [kindsOK, show l.length ≤ 8 by omega], rfl⟩) (fun h => ⟨by simp [kindsOK, show ¬ l.length ≤ 8 by omega], rfl⟩))
theorem c_spec_l04Kinds (l : List Int) (hl : l.length ≤ 1048576) : TT n_spec_l04Kinds [.one (.sl (.int .i64) l)] [] (eB (kindsOK l)) [] := by
  refine r_spec_l04Kinds l (ifP (fun h => ⟨by simp [kindsOK, show ¬ l.length ≤ 8 by omega], rfl⟩) (fun h => ?_))
  refine ⟨fun m i => 0 ≤ i ∧ i ≤ l.length ∧ m = (l.length - i).toNat ∧ (l.drop i.toNat).all isKind = kindsOK l, ⟨_, rfl, by omega, by omega, rfl, by simp [kindsOK, show l.length ≤ 8 by omega]⟩, ?_⟩
  rintro m i ⟨h0, h1, rfl, h2⟩
  refine ifP (fun hlt => ⟨⟨h0, hlt⟩, _, c_spec_l03Kind _, ?_⟩) (fun hge => ?_)
  · rw [all_drop (by omega) 0] at h2
    refine ifB_cases (fun hb => ?_) (fun hb => ?_)
    · simp only [Bool.not_eq_true'] at hb
      rw [hb] at h2
      exact ⟨by rw [← h2]; rfl, rfl⟩
    · simp only [Bool.not_eq_false'] at hb
      rw [hb, Bool.true_and] at h2
      rw [w64 (by omega)]
      exact ⟨_, by omega, rfl, by omega, by omega, rfl, by rw [toNat_succ h0]; exact h2⟩
  · rw [List.drop_eq_nil_of_le (by omega)] at h2
    exact ⟨by rw [← h2]; rfl, rfl⟩

/-! ### instructions -/
def insOK (x : Ins) : Bool := instrOK x.1 x.2.1
theorem c_impl_all_impl_Instr_1 (op a : Int) : TT n_impl_all_impl_Instr_1 [.agg [cI op, cI a], .one (.ptrB 0 0)] [.box [.fn n_impl_InstrOK []]] (eB (!instrOK op a)) [.box [.fn n_impl_InstrOK []]] :=
  r_impl_all_impl_Instr_1 op a ⟨_, c_impl_InstrOK op a, rfl, rfl⟩
theorem c_IndexFunc_Instr (l : List Ins) (hl : l.length ≤ 1048576) : ∃ n : Int, decide (n ≥ 0) = (l.any fun x => !insOK x) ∧
    TT n_slices_IndexFunc_impl_Instr_impl_Instr [.one (.sl tIns l), .one (.fn n_impl_all_impl_Instr_1 [0])] [.box [.fn n_impl_InstrOK []]] (eI n) [.box [.fn n_impl_InstrOK []]] := by
  refine ⟨findI (fun x => !insOK x) l 0, findI_ge, r_slices_IndexFunc_impl_Instr_impl_Instr l ⟨fun m i => 0 ≤ i ∧ i ≤ l.length ∧ m = (l.length - i).toNat ∧ findI (fun x => !insOK x) (l.drop i.toNat) i.toNat = findI (fun x => !insOK x) l 0, ⟨_, rfl, by omega, by omega, rfl, rfl⟩, ?_⟩⟩
  rintro m i ⟨h0, h1, rfl, h2⟩
  refine ifP (fun hlt => ⟨⟨h0, hlt⟩, _, c_impl_all_impl_Instr_1 _ _, ?_⟩) (fun hge => ?_)
  · rw [drop_getD (by omega) ((0 : Int), ((0 : Int), ())), findI] at h2
    refine ifB_cases (fun hb => ?_) (fun hb => ?_)
    · rw [if_pos (show (!insOK _) = true from hb)] at h2
      exact ⟨by rw [← h2]; congr 1; omega, rfl⟩
    · rw [if_neg (by rw [show (!insOK (l.getD i.toNat ((0 : Int), ((0 : Int), ())))) = false from hb]; exact Bool.false_ne_true)] at h2
      rw [w64 (by omega)]
      exact ⟨_, by omega, rfl, by omega, by omega, rfl, by rw [toNat_succ h0]; exact h2⟩
  · rw [List.drop_eq_nil_of_le (by omega)] at h2
    exact ⟨by rw [← h2]; rfl, rfl⟩
theorem c_ContainsFunc_Instr (l : List Ins) (hl : l.length ≤ 1048576) :
    TT n_slices_ContainsFunc_impl_Instr_impl_Instr [.one (.sl tIns l), .one (.fn n_impl_all_impl_Instr_1 [0])] [.box [.fn n_impl_InstrOK []]] (eB (l.any fun x => !insOK x)) [.box [.fn n_impl_InstrOK []]] := by
  obtain ⟨n, hn, hc⟩ := c_IndexFunc_Instr l hl
  exact r_slices_ContainsFunc_impl_Instr_impl_Instr l ⟨_, hc, by rw [hn], rfl⟩
theorem c_impl_all_impl_Instr (l : List Ins) (hl : l.length ≤ 1048576) : TT n_impl_all_impl_Instr [.one (.sl tIns l), .one (.fn n_impl_InstrOK [])] [] (eB (l.all insOK)) [] :=
  r_impl_all_impl_Instr l ⟨_, c_ContainsFunc_Instr l hl, by rw [all_any], rfl⟩
def codeOK (l : List Ins) : Bool := decide (l.length ≤ 40) && l.all insOK
theorem c_impl_isCode (l : List Ins) (hl : l.length ≤ 1048576) : TT n_impl_isCode [.one (.sl tIns l)] [] (eB (codeOK l)) [] :=
  r_impl_isCode l (ifP (fun h => ⟨_, c_impl_all_impl_Instr l hl, by simp [codeOK, show l.length ≤ 40 by omega], rfl⟩) (fun h => ⟨by simp [codeOK, show ¬ l.length ≤ 40 by omega], rfl⟩))
theorem c_spec_l02All (l : List Ins) (hl : l.length ≤ 1048576) : TT n_spec_l02All [.one (.sl tIns l)] [] (eB (l.all insOK)) [] := by
  refine r_spec_l02All l ⟨fun m i => 0 ≤ i ∧ i ≤ l.length ∧ m = (l.length - i).toNat ∧ (l.drop i.toNat).all insOK = l.all insOK, ⟨_, rfl, by omega, by omega, rfl, rfl⟩, ?_⟩
  rintro m i ⟨h0, h1, rfl, h2⟩
  refine ifP (fun hlt => ⟨⟨h0, hlt⟩, _, c_spec_l02OK _ _, ?_⟩) (fun hge => ?_)
  · rw [all_drop (by omega) ((0 : Int), ((0 : Int), ()))] at h2
    refine ifB_cases (fun hb => ?_) (fun hb => ?_)
    · simp only [Bool.not_eq_true'] at hb
      rw [insOK, hb] at h2
      exact ⟨by rw [← h2]; rfl, rfl⟩
    · simp only [Bool.not_eq_false'] at hb
      rw [insOK, hb, Bool.true_and] at h2
      rw [w64 (by omega)]
      exact ⟨_, by omega, rfl, by omega, by omega, rfl, by rw [toNat_succ h0]; exact h2⟩
  · rw [List.drop_eq_nil_of_le (by omega)] at h2
    exact ⟨by rw [← h2]; rfl, rfl⟩

/-! ### routines -/
def rouOK (r : Rou) : Bool := codeOK r.1
theorem c_impl_areRoutines_1 (l : List Ins) (hl : l.length ≤ 1048576) : TT n_impl_areRoutines_1 [.agg [.sl tIns l]] [] (eB (codeOK l)) [] := r_impl_areRoutines_1 l ⟨_, c_impl_isCode l hl, rfl, rfl⟩
theorem c_impl_all_impl_Routine_1 (l : List Ins) (hl : l.length ≤ 1048576) : TT n_impl_all_impl_Routine_1 [.agg [.sl tIns l], .one (.ptrB 0 0)] [.box [.fn n_impl_areRoutines_1 []]] (eB (!codeOK l)) [.box [.fn n_impl_areRoutines_1 []]] :=
  r_impl_all_impl_Routine_1 l ⟨_, c_impl_areRoutines_1 l hl, rfl, rfl⟩
/-- Lists of lists no longer than that. -/
def small (l : List Rou) : Prop := l.length ≤ 1048576 ∧ ∀ r ∈ l, r.1.length ≤ 1048576
theorem small.at {l : List Rou} (h : small l) (i : Nat) : (l.getD i (([] : List Ins), ())).1.length ≤ 1048576 := by
  by_cases hi : i < l.length
  · rw [List.getD_eq_getElem?_getD, List.getElem?_eq_getElem hi]
    exact h.2 _ (List.getElem_mem hi)
  · rw [List.getD_eq_getElem?_getD, List.getElem?_eq_none (by omega)]
    simp
theorem c_IndexFunc_Routine (l : List Rou) (hl : small l) : ∃ n : Int, decide (n ≥ 0) = (l.any fun x => !rouOK x) ∧
    TT n_slices_IndexFunc_impl_Routine_impl_Routine [.one (.sl tRou l), .one (.fn n_impl_all_impl_Routine_1 [0])] [.box [.fn n_impl_areRoutines_1 []]] (eI n) [.box [.fn n_impl_areRoutines_1 []]] := by
  have hl1 := hl.1
  refine ⟨findI (fun x => !rouOK x) l 0, findI_ge, r_slices_IndexFunc_impl_Routine_impl_Routine l ⟨fun m i => 0 ≤ i ∧ i ≤ l.length ∧ m = (l.length - i).toNat ∧ findI (fun x => !rouOK x) (l.drop i.toNat) i.toNat = findI (fun x => !rouOK x) l 0, ⟨_, rfl, by omega, by omega, rfl, rfl⟩, ?_⟩⟩
  rintro m i ⟨h0, h1, rfl, h2⟩
  refine ifP (fun hlt => ⟨⟨h0, hlt⟩, _, c_impl_all_impl_Routine_1 _ (hl.at _), ?_⟩) (fun hge => ?_)
  · rw [drop_getD (by omega) (([] : List Ins), ()), findI] at h2
    refine ifB_cases (fun hb => ?_) (fun hb => ?_)
    · rw [if_pos (show (!rouOK _) = true from hb)] at h2
      exact ⟨by rw [← h2]; congr 1; omega, rfl⟩
    · rw [if_neg (by rw [show (!rouOK (l.getD i.toNat (([] : List Ins), ()))) = false from hb]; exact Bool.false_ne_true)] at h2
      rw [w64 (by omega)]
      exact ⟨_, by omega, rfl, by omega, by omega, rfl, by rw [toNat_succ h0]; exact h2⟩
  · rw [List.drop_eq_nil_of_le (by omega)] at h2
    exact ⟨by rw [← h2]; rfl, rfl⟩
theorem c_ContainsFunc_Routine (l : List Rou) (hl : small l) :
    TT n_slices_ContainsFunc_impl_Routine_impl_Routine [.one (.sl tRou l), .one (.fn n_impl_all_impl_Routine_1 [0])] [.box [.fn n_impl_areRoutines_1 []]] (eB (l.any fun x => !rouOK x)) [.box [.fn n_impl_areRoutines_1 []]] := by
  obtain ⟨n, hn, hc⟩ := c_IndexFunc_Routine l hl
  exact r_slices_ContainsFunc_impl_Routine_impl_Routine l ⟨_, hc, by rw [hn], rfl⟩
theorem c_impl_all_impl_Routine (l : List Rou) (hl : small l) : TT n_impl_all_impl_Routine [.one (.sl tRou l), .one (.fn n_impl_areRoutines_1 [])] [] (eB (l.all rouOK)) [] :=
  r_impl_all_impl_Routine l ⟨_, c_ContainsFunc_Routine l hl, by rw [all_any], rfl⟩
def rousOK (l : List Rou) : Bool := decide (l.length ≤ 6) && l.all rouOK
theorem c_impl_areRoutines (l : List Rou) (ks : List Int) (hl : small l) (hk : ks.length ≤ 1048576) : TT n_impl_areRoutines [.one (.sl tRou l), .one (.sl (.int .i64) ks)] [] (eB (kindsOK ks && rousOK l)) [] := by
  refine r_impl_areRoutines l ks ⟨_, c_impl_areKinds ks hk, ifB_cases (fun h => ifP (fun h2 => ⟨_, c_impl_all_impl_Routine l hl, ?_, rfl⟩) (fun h2 => ⟨?_, rfl⟩)) (fun h => ⟨?_, rfl⟩)⟩
  · simp [h, rousOK, show l.length ≤ 6 by omega]
  · simp [h, rousOK, show ¬ l.length ≤ 6 by omega]
  · simp [h]
theorem c_spec_l04Routines (l : List Rou) (hl : small l) : TT n_spec_l04Routines [.one (.sl tRou l)] [] (eB (rousOK l)) [] := by
  refine r_spec_l04Routines l (ifP (fun h => ⟨by simp [rousOK, show ¬ l.length ≤ 6 by omega], rfl⟩) (fun h => ?_))
  refine ⟨fun m i => 0 ≤ i ∧ i ≤ l.length ∧ m = (l.length - i).toNat ∧ (l.drop i.toNat).all rouOK = rousOK l, ⟨_, rfl, by omega, by omega, rfl, by simp [rousOK, show l.length ≤ 6 by omega]⟩, ?_⟩
  rintro m i ⟨h0, h1, rfl, h2⟩
  have hat := hl.at i.toNat
  refine ifP (fun hlt => ⟨⟨h0, hlt⟩, ?_⟩) (fun hge => ?_)
  · rw [all_drop (by omega) (([] : List Ins), ()), rouOK, codeOK] at h2
    refine ifP (fun hc => ?_) (fun hc => ⟨⟨h0, hlt⟩, _, c_spec_l02All _ hat, ?_⟩)
    · rw [decide_eq_false (show ¬ (l.getD i.toNat (([] : List Ins), ())).1.length ≤ 40 by omega)] at h2
      exact ⟨by rw [← h2]; rfl, rfl⟩
    · rw [decide_eq_true (show (l.getD i.toNat (([] : List Ins), ())).1.length ≤ 40 by omega), Bool.true_and] at h2
      refine ifB_cases (fun hb => ?_) (fun hb => ?_)
      · simp only [Bool.not_eq_true'] at hb
        rw [hb] at h2
        exact ⟨by rw [← h2]; rfl, rfl⟩
      · simp only [Bool.not_eq_false'] at hb
        rw [hb, Bool.true_and] at h2
        rw [w64 (by omega)]
        exact ⟨_, by omega, rfl, by omega, by omega, rfl, by rw [toNat_succ h0]; exact h2⟩
  · rw [List.drop_eq_nil_of_le (by omega)] at h2
    exact ⟨by rw [← h2]; rfl, rfl⟩
def isVal (n : Int) : Bool := within n (-2147483648) 2147483647
end Go.Ry
