/- Small decisions of the program and of the reference. No condition. -/
import Derived.Test.YtopchiaiefkehaaGreatPKit
import Derived.Test.YtopchiaiefkehaaGreatEBd
set_option linter.unusedVariables false
set_option linter.unusedSimpArgs false
namespace Go.Ry
open Go.Proofs
abbrev TT : Calls_ := Triple Tryz.prog
abbrev Ins := Int × Int × Unit
@[reducible] def tIns : Ty := .pair (.int .i64) (.pair (.int .i64) .unit)
@[reducible] def e0 : ByteArray := ⟨#[]⟩
@[reducible] def tup3 (a b : Int) (c : Bool) : Ent := .tup [(false, [cI a]), (false, [cI b]), (false, [.bool c])]

def within (n lo hi : Int) : Bool := decide (lo ≤ n) && decide (n ≤ hi)
theorem within_iff {n lo hi : Int} : within n lo hi = true ↔ lo ≤ n ∧ n ≤ hi := by simp [within]
theorem within_not {n lo hi : Int} : within n lo hi = false ↔ ¬ (lo ≤ n ∧ n ≤ hi) := by rw [← within_iff, Bool.not_eq_true]
theorem c_impl_within (n lo hi : Int) : TT n_impl_within [eI n, eI lo, eI hi] [] (eB (within n lo hi)) [] :=
  r_impl_within n lo hi (ifP (fun h => ⟨by simp [within, h], rfl⟩) (fun h => ⟨by simp [within]; omega, rfl⟩))
theorem c_spec_l01In (n lo hi : Int) : TT n_spec_l01In [eI n, eI lo, eI hi] [] (eB (within n lo hi)) [] :=
  r_spec_l01In n lo hi (ifP (fun h => ⟨by simp [within, h], rfl⟩) (fun h => ⟨by simp [within]; omega, rfl⟩))
def isOp (n : Int) : Bool := within n 1 26
theorem c_impl_isOp (n : Int) : TT n_impl_isOp [eI n] [] (eB (isOp n)) [] := r_impl_isOp n ⟨_, c_impl_within _ _ _, rfl, rfl⟩
theorem c_spec_l02Op (n : Int) : TT n_spec_l02Op [eI n] [] (eB (isOp n)) [] := r_spec_l02Op n ⟨_, c_spec_l01In _ _ _, rfl, rfl⟩
def isKind (n : Int) : Bool := within n 1 4
theorem c_impl_isFbKind (n : Int) : TT n_impl_isFbKind [eI n] [] (eB (isKind n)) [] := r_impl_isFbKind n ⟨_, c_impl_within _ _ _, rfl, rfl⟩
theorem c_spec_l03Kind (n : Int) : TT n_spec_l03Kind [eI n] [] (eB (isKind n)) [] := r_spec_l03Kind n ⟨_, c_spec_l01In _ _ _, rfl, rfl⟩

/-- The operand of an operation: from where to where it goes, and is there one. -/
def rangeOf (op : Int) : Int × Int × Bool :=
  if op = 1 then (-2147483648, 2147483647, true) else if op = 2 then (0, 1, true) else if op = 3 ∨ op = 4 then (0, 15, true)
  else if op = 5 ∨ op = 6 ∨ op = 7 ∨ op = 8 then (0, 7, true) else if op = 19 ∨ op = 20 then (0, 7, true)
  else if op = 24 then (1, 20, true) else if op = 26 then (0, 5, true) else (0, 0, false)
theorem c_impl_rangeOf (op : Int) : TT n_impl_rangeOf [eI op] [] (tup3 (rangeOf op).1 (rangeOf op).2.1 (rangeOf op).2.2) [] := by
  refine r_impl_rangeOf op ?_
  unfold v_impl_rangeOf
  repeat' (first
    | refine ⟨_, ?_, fun _ h => h⟩
    | refine ifE (fun _ => ?_) (fun _ => ?_)
    | refine ifB_cases (fun _ => ?_) (fun _ => ?_)
    | refine ⟨rfl, ?_⟩)
  all_goals simp_all [rangeOf]
theorem c_spec_l02Has (op : Int) : TT n_spec_l02Has [eI op] [] (tup3 (rangeOf op).1 (rangeOf op).2.1 (rangeOf op).2.2) [] := by
  refine r_spec_l02Has op ?_
  unfold v_spec_l02Has
  repeat' (first
    | refine ⟨_, ?_, fun _ h => h⟩
    | refine ifE (fun _ => ?_) (fun _ => ?_)
    | refine ifB_cases (fun _ => ?_) (fun _ => ?_)
    | refine ⟨rfl, ?_⟩)
  all_goals simp_all [rangeOf]
def cost (op : Int) : Int := if op = 7 ∨ op = 8 ∨ op = 11 ∨ op = 18 ∨ op = 26 then 2 else if op = 19 then 3 else if op = 12 then 4 else 1
theorem c_impl_cost (op : Int) : TT n_impl_cost [eI op] [] (eI (cost op)) [] := by
  refine r_impl_cost op ?_
  unfold v_impl_cost
  repeat' (first
    | refine ifE (fun _ => ?_) (fun _ => ?_))
  all_goals simp_all [cost]
theorem c_spec_l02Cost (op : Int) : TT n_spec_l02Cost [eI op] [] (eI (cost op)) [] := by
  refine r_spec_l02Cost op ?_
  unfold v_spec_l02Cost
  repeat' (first
    | refine ifE (fun _ => ?_) (fun _ => ?_))
  all_goals simp_all [cost]
def instrOK (op a : Int) : Bool := isOp op && within a (rangeOf op).1 (rangeOf op).2.1
theorem c_impl_InstrOK (op a : Int) : TT n_impl_InstrOK [.agg [cI op, cI a]] [] (eB (instrOK op a)) [] := by
  refine r_impl_InstrOK op a ⟨_, _, _, c_impl_rangeOf op, _, c_impl_isOp op, ifB_cases (fun h => ⟨_, c_impl_within _ _ _, by simp [instrOK, h], rfl⟩) (fun h => ⟨by simp [instrOK, h], rfl⟩)⟩
theorem c_spec_l02OK (op a : Int) : TT n_spec_l02OK [.agg [cI op, cI a]] [] (eB (instrOK op a)) [] := by
  refine r_spec_l02OK op a ⟨_, c_spec_l02Op op, ifB_cases (fun h => ⟨?_, rfl⟩) (fun h => ⟨_, _, _, c_spec_l02Has op, _, c_spec_l01In _ _ _, ?_, rfl⟩)⟩
  · simp at h; simp [instrOK, h]
  · simp at h; simp [instrOK, h]
theorem c_impl_when (b : Bool) (n : Int) : TT n_impl_when [eB b, eI n] [] (eI (if b = true then n else 0)) [] := by
  refine r_impl_when b n (ifB_cases (fun h => ?_) (fun h => ?_)) <;> simp [h]
theorem c_impl_when' (b : Bool) (n : Int) {r : Int} (h : r = if b = true then n else 0) : TT n_impl_when [eB b, eI n] [] (eI r) [] := h ▸ c_impl_when b n
/-- The first that is not 0. -/
def firstOf_ : List Int → Int
  | [] => 0
  | x :: l => if x = 0 then firstOf_ l else x
theorem c_impl_first (l : List Int) (hl : l.length ≤ 1048576) : TT n_impl_first [.one (.sl (.int .i64) l)] [] (eI (firstOf_ l)) [] := by
  refine r_impl_first l ⟨fun m i => 0 ≤ i ∧ i ≤ l.length ∧ m = (l.length - i).toNat ∧ firstOf_ (l.drop i.toNat) = firstOf_ l, ⟨_, rfl, by omega, by omega, rfl, rfl⟩, ?_⟩
  rintro m i ⟨h0, h1, rfl, h2⟩
  refine ifP (fun hlt => ⟨⟨h0, hlt⟩, ?_⟩) (fun hge => ?_)
  · rw [drop_getD (by omega) 0, firstOf_] at h2
    refine ifN (fun hne => ?_) (fun he => ?_)
    · rw [if_neg hne] at h2
      exact ⟨by rw [h2], rfl⟩
    · rw [if_pos he] at h2
      rw [w64 (by omega)]
      exact ⟨_, by omega, rfl, by omega, by omega, rfl, by rw [toNat_succ h0]; exact h2⟩
  · rw [List.drop_eq_nil_of_le (by omega)] at h2
    exact ⟨by rw [← h2]; rfl, rfl⟩

def taskOK (k p d pin q r : Int) : Bool :=
  within p 1 5000 && (within d 1 5000 && (within q 1 4 && (within r 0 5 && (if k = 1 then decide (pin = 0) && (decide (q = 1) && decide (d ≤ p)) else if k = 2 then within pin 0 7 else false))))
@[reducible] def tsk (k p d pin q r : Int) : Ent := .agg [cI k, cI p, cI d, cI pin, cI q, cI r]
theorem c_impl_TaskOK (k p d pin q r : Int) : TT n_impl_TaskOK [tsk k p d pin q r] [] (eB (taskOK k p d pin q r)) [] := by
  refine r_impl_TaskOK k p d pin q r ?_
  unfold v_impl_TaskOK
  repeat' (first
    | refine ⟨_, c_impl_within _ _ _, ?_⟩
    | refine ifE (fun _ => ?_) (fun _ => ?_)
    | refine ifB_cases (fun _ => ?_) (fun _ => ?_))
  all_goals simp_all [taskOK]
theorem c_spec_TaskOK (k p d pin q r : Int) : TT n_spec_TaskOK [tsk k p d pin q r] [] (eB (taskOK k p d pin q r)) [] := by
  refine r_spec_TaskOK k p d pin q r ?_
  unfold v_spec_TaskOK
  repeat' (first
    | refine ⟨_, c_spec_l01In _ _ _, ?_⟩
    | refine ifE (fun _ => ?_) (fun _ => ?_)
    | refine ifB_cases (fun _ => ?_) (fun _ => ?_))
  all_goals simp_all [taskOK]

/-! ### what blocks take -/
def takesL : List ByteArray := [(⟨#[98, 105]⟩ : ByteArray), (⟨#[98, 98, 105]⟩ : ByteArray), (⟨#[98]⟩ : ByteArray), (⟨#[98, 98]⟩ : ByteArray)]
def takes (k : Int) : ByteArray := takesL.getD (Int.toNat (k - 1)) e0
theorem c_impl_takes (k : Int) (h : isKind k = true) : TT n_impl_takes [eI k] [] (eS (takes k)) [] := by
  have h := within_iff.1 h
  refine r_impl_takes k ?_
  unfold v_impl_takes
  rw [w64 (by omega)]
  exact ⟨by omega, rfl, rfl⟩
theorem c_spec_l03Takes (k : Int) (h : isKind k = true) : TT n_spec_l03Takes [eI k] [] (eS (takes k)) [] := by
  have h := within_iff.1 h
  refine r_spec_l03Takes k ?_
  unfold v_spec_l03Takes
  rw [w64 (by omega)]
  exact ⟨⟨by omega, by simp; omega⟩, rfl, rfl⟩
end Go.Ry
