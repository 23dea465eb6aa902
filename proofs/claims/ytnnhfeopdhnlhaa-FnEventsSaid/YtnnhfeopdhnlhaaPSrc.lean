/- What SourceOK of the program and of the reference come to: the same. No condition. -/
import Derived.Test.YtnnhfeopdhnlhaaPRis
set_option linter.unusedVariables false
set_option linter.unusedSimpArgs false
namespace Go.Ry
variable {C : Calls_}

theorem kb {x y : Bool} {os : List Ob} (h : x = y) : Ent.one (.bool x) = Ent.one (.bool y) ∧ os = os := ⟨by rw [h], rfl⟩
theorem not_t {b : Bool} (h : (!b) = true) : b = false := by simpa using h
theorem not_f {b : Bool} (h : (!b) = false) : b = true := by simpa using h
def inR (n lo hi : Int) : Bool := decide (lo ≤ n) && decide (n ≤ hi)
theorem inR_t {n lo hi : Int} (h : inR n lo hi = true) : lo ≤ n ∧ n ≤ hi := by simpa [inR] using h
def taskOK (k p d pin q r : Int) : Bool :=
  inR p 1 5000 && (inR d 1 5000 && (inR q 1 4 && (inR r 0 5 && (if k = 1 then decide (pin = 0) && (decide (q = 1) && decide (d ≤ p)) else if k = 2 then inR pin 0 7 else false))))
def K_in (n : Nat) (C : Calls_) : Prop := ∀ a b c : Int, C n [.one (.int .i64 a), .one (.int .i64 b), .one (.int .i64 c)] [] (.one (.bool (inR a b c))) []
def K_TaskOK (n : Nat) (C : Calls_) : Prop := ∀ k p d pin q r : Int, C n [.agg [.int .i64 k, .int .i64 p, .int .i64 d, .int .i64 pin, .int .i64 q, .int .i64 r]] [] (.one (.bool (taskOK k p d pin q r))) []

theorem p_spec_l01In (a b c : Int) : v_spec_l01In C (fun r os => r = .one (.bool (inR a b c)) ∧ os = []) a b c :=
  ifP (fun h => kb (by simp only [inR]; rw [decide_eq_true (show b ≤ a by omega)]; simp)) (fun h => kb (by simp only [inR]; rw [decide_eq_false (show ¬ b ≤ a by omega)]; simp))
theorem p_impl_within (a b c : Int) : v_impl_within C (fun r os => r = .one (.bool (inR a b c)) ∧ os = []) a b c := p_spec_l01In (C := C) a b c

theorem p_spec_TaskOK (hin : K_in n_spec_l01In C) (k p d pin q r : Int) : v_spec_TaskOK C (fun x os => x = .one (.bool (taskOK k p d pin q r)) ∧ os = []) k p d pin q r := by
  refine ⟨_, hin _ _ _, rfl, ifB_cases (fun h1 => kb (by simp [taskOK, not_t h1])) (fun h1 => ?_)⟩
  refine ⟨_, hin _ _ _, rfl, ifB_cases (fun h2 => kb (by simp [taskOK, not_t h2])) (fun h2 => ?_)⟩
  refine ⟨_, hin _ _ _, rfl, ifB_cases (fun h3 => kb (by simp [taskOK, not_t h3])) (fun h3 => ?_)⟩
  refine ⟨_, hin _ _ _, rfl, ifB_cases (fun h4 => kb (by simp [taskOK, not_t h4])) (fun h4 => ?_)⟩
  have e : taskOK k p d pin q r = (if k = 1 then decide (pin = 0) && (decide (q = 1) && decide (d ≤ p)) else if k = 2 then inR pin 0 7 else false) := by
    simp [taskOK, not_f h1, not_f h2, not_f h3, not_f h4]
  rw [e]
  refine ifE (fun h5 => ?_) (fun h5 => ?_)
  · rw [if_pos h5]
    refine ifE (fun h6 => ifE (fun h7 => kb (by simp [h6, h7])) (fun h7 => kb (by simp [h7]))) (fun h6 => kb (by simp [h6]))
  · rw [if_neg h5]
    refine ifE (fun h6 => ?_) (fun h6 => ?_)
    · rw [if_pos h6]; exact ⟨_, hin _ _ _, rfl, kb rfl⟩
    · rw [if_neg h6]; exact kb rfl
theorem p_impl_TaskOK (hin : K_in n_impl_within C) (k p d pin q r : Int) : v_impl_TaskOK C (fun x os => x = .one (.bool (taskOK k p d pin q r)) ∧ os = []) k p d pin q r := by
  refine ⟨_, hin _ _ _, rfl, ifB_cases (fun h1 => kb (by simp [taskOK, not_t h1])) (fun h1 => ?_)⟩
  refine ⟨_, hin _ _ _, rfl, ifB_cases (fun h2 => kb (by simp [taskOK, not_t h2])) (fun h2 => ?_)⟩
  refine ⟨_, hin _ _ _, rfl, ifB_cases (fun h3 => kb (by simp [taskOK, not_t h3])) (fun h3 => ?_)⟩
  refine ⟨_, hin _ _ _, rfl, ifB_cases (fun h4 => kb (by simp [taskOK, not_t h4])) (fun h4 => ?_)⟩
  have e : taskOK k p d pin q r = (if k = 1 then decide (pin = 0) && (decide (q = 1) && decide (d ≤ p)) else if k = 2 then inR pin 0 7 else false) := by
    simp [taskOK, not_f h1, not_f h2, not_f h3, not_f h4]
  rw [e]
  refine ifE (fun h5 => ?_) (fun h5 => ?_)
  · rw [if_pos h5]
    refine ifE (fun h6 => ifE (fun h7 => kb (by simp [h6, h7])) (fun h7 => kb (by simp [h7]))) (fun h6 => kb (by simp [h6]))
  · rw [if_neg h5]
    refine ifE (fun h6 => ?_) (fun h6 => ?_)
    · rw [if_pos h6]; exact ⟨_, hin _ _ _, rfl, kb rfl⟩
    · rw [if_neg h6]; exact kb rfl

/-! ### all of a list -/
theorem all_f {f : Nat → Bool} {n i : Nat} (h : i < n) (hf : f i = false) : (List.range n).all f = false := by
  rw [List.all_eq_false]
  exact ⟨i, List.mem_range.2 h, by simp [hf]⟩
theorem all_t {f : Nat → Bool} {n : Nat} (h : ∀ i, i < n → f i = true) : (List.range n).all f = true := by
  rw [List.all_eq_true]
  exact fun i hi => h i (List.mem_range.1 hi)
def timesOK (l : List Int) : Bool := (List.range l.length).all fun i => inR (l.getD i 0) 0 2147483647
def queueAt (q : List Int) (last : Int) (i : Nat) : Bool := inR (q.getD i 0) 0 last && (i == 0 || decide (q.getD (i - 1) 0 < q.getD i 0))
def queueOK (q : List Int) (last : Int) : Bool := (List.range q.length).all (queueAt q last)
def sourceOK (la ar dn th lo dr : Int) (q : List Int) (k p d pin qu r : Int) : Bool :=
  timesOK [ar, dn, th, lo, dr] && (taskOK k p d pin qu r && (inR la (-1) 2147483647 && (decide ((q.length : Int) ≤ qu) && queueOK q la)))

def K_isTime (C : Calls_) : Prop := ∀ n : Int, C n_impl_isTime [.one (.int .i64 n)] [] (.one (.bool (inR n 0 2147483647))) []
theorem p_impl_isTime (hin : K_in n_impl_within C) (n : Int) : v_impl_isTime C (fun x os => x = .one (.bool (inR n 0 2147483647)) ∧ os = []) n := ⟨_, hin _ _ _, rfl, kb rfl⟩
def K_all1 (C : Calls_) : Prop := ∀ n : Int, C n_impl_all_int_1 [.one (.int .i64 n), .one (.ptrB 0 0)] [.box [.fn n_impl_isTime []]] (.one (.bool (!inR n 0 2147483647))) [.box [.fn n_impl_isTime []]]
theorem p_impl_all1 (ht : K_isTime C) (n : Int) : v_impl_all_int_1 C (fun x os => x = .one (.bool (!inR n 0 2147483647)) ∧ os = [.box [.fn n_impl_isTime []]]) n := ⟨_, ht _, rfl, kb rfl⟩
/-- Where the first time is that is none; or -1. -/
def K_IndexFunc (C : Calls_) : Prop := ∀ l : List Int, l.length ≤ 1048576 → ∃ n : Int, (0 ≤ n ↔ timesOK l = false) ∧ C n_slices_IndexFunc_int_int [.one (.sl (.int .i64) l), .one (.fn n_impl_all_int_1 [0])] [.box [.fn n_impl_isTime []]] (.one (.int .i64 n)) [.box [.fn n_impl_isTime []]]
def firstBad (l : List Int) : Nat → Nat → Int
  | 0, _ => -1
  | n + 1, i => if inR (l.getD i 0) 0 2147483647 = true then firstBad l n (i + 1) else i
theorem firstBad_pos (l : List Int) : ∀ (n i : Nat), i + n = l.length → (∀ j, j < i → inR (l.getD j 0) 0 2147483647 = true) → (0 ≤ firstBad l n i ↔ timesOK l = false)
  | 0, i, h, ha => by
    have : timesOK l = true := all_t fun j hj => ha j (by omega)
    simp [firstBad, this]
  | n + 1, i, h, ha => by
    simp only [firstBad]
    by_cases hb : inR (l.getD i 0) 0 2147483647 = true
    · rw [if_pos hb]
      exact firstBad_pos l n (i + 1) (by omega) fun j hj => by
        rcases Nat.lt_or_ge j i with h1 | h1
        · exact ha j h1
        · rw [show j = i by omega]; exact hb
    · rw [if_neg hb]
      have : timesOK l = false := all_f (i := i) (by omega) (by simpa using hb)
      simp [this]
theorem p_IndexFunc (h1 : K_all1 C) (l : List Int) (h : l.length ≤ 1048576) : v_slices_IndexFunc_int_int C (fun x os => x = .one (.int .i64 (firstBad l l.length 0)) ∧ os = [.box [.fn n_impl_isTime []]]) l := by
  refine ⟨fun m a n i => l = a ∧ n = l.length ∧ 0 ≤ i ∧ i ≤ l.length ∧ m = (l.length - i).toNat ∧ firstBad l l.length 0 = firstBad l m i.toNat, ⟨_, rfl, rfl, by omega, by omega, rfl, by simp⟩, ?_⟩
  rintro m _ _ i ⟨rfl, rfl, h2, h3, rfl, h4⟩
  refine ifP (fun hlt => ⟨⟨h2, hlt⟩, _, h1 _, rfl, ?_⟩) (fun hge => ?_)
  · obtain ⟨k, hk⟩ : ∃ k, ((l.length : Int) - i).toNat = k + 1 := ⟨((l.length : Int) - i).toNat - 1, by omega⟩
    rw [hk] at h4
    simp only [firstBad] at h4
    refine ifB_cases (fun hb => ?_) (fun hb => ?_)
    · have hb' : inR (l.getD i.toNat 0) 0 2147483647 = false := not_t hb
      rw [if_neg (by rw [hb']; simp)] at h4
      exact ⟨by rw [h4, show ((i.toNat : Nat) : Int) = i by omega], rfl⟩
    · have hb' : inR (l.getD i.toNat 0) 0 2147483647 = true := not_f hb
      rw [if_pos hb'] at h4
      rw [w64 (by omega)]
      exact ⟨((l.length : Int) - (i + 1)).toNat, by omega, rfl, rfl, by omega, by omega, rfl, by rw [h4, toNat_succ h2, show k = ((l.length : Int) - (i + 1)).toNat by omega]⟩
  · rw [show ((l.length : Int) - i).toNat = 0 by omega] at h4
    exact ⟨by rw [h4]; rfl, rfl⟩
def K_ContainsFunc (C : Calls_) : Prop := ∀ l : List Int, l.length ≤ 1048576 → C n_slices_ContainsFunc_int_int [.one (.sl (.int .i64) l), .one (.fn n_impl_all_int_1 [0])] [.box [.fn n_impl_isTime []]] (.one (.bool (!timesOK l))) [.box [.fn n_impl_isTime []]]
theorem p_ContainsFunc (h1 : K_IndexFunc C) (l : List Int) (h : l.length ≤ 1048576) : v_slices_ContainsFunc_int_int C (fun x os => x = .one (.bool (!timesOK l)) ∧ os = [.box [.fn n_impl_isTime []]]) l := by
  obtain ⟨n, h2, h3⟩ := h1 l h
  refine ⟨n, h3, rfl, kb ?_⟩
  cases ht : timesOK l
  · rw [decide_eq_true (h2.2 ht)]; rfl
  · rw [decide_eq_false (fun h => by rw [h2.1 h] at ht; simp at ht)]; rfl
def K_all (C : Calls_) : Prop := ∀ l : List Int, l.length ≤ 1048576 → C n_impl_all_int [.one (.sl (.int .i64) l), .one (.fn n_impl_isTime [])] [] (.one (.bool (timesOK l))) []
theorem p_all (h1 : K_ContainsFunc C) (l : List Int) (h : l.length ≤ 1048576) : v_impl_all_int C (fun x os => x = .one (.bool (timesOK l)) ∧ os = []) l := ⟨_, h1 l h, rfl, kb (by simp)⟩

section
variable (hin : K_in n_spec_l01In C) (ht : K_TaskOK n_spec_TaskOK C)
include hin ht
theorem p_spec_SourceOK (la ar dn th lo dr : Int) (q : List Int) (k p d pin qu r : Int) :
    v_spec_SourceOK C (fun x os => x = .one (.bool (sourceOK la ar dn th lo dr q k p d pin qu r)) ∧ os = []) la ar dn th lo dr q k p d pin qu r := by
  refine ⟨fun a1 a2 a3 a4 a5 a6 a7 a8 a9 a10 a11 a12 a13 => timesOK [ar, dn, th, lo, dr] = true ∧ (la = a1 ∧ q = a7 ∧ k = a8 ∧ p = a9 ∧ d = a10 ∧ pin = a11 ∧ qu = a12 ∧ r = a13),
    ⟨fun m i a1 a2 a3 a4 a5 a6 a7 a8 a9 a10 a11 a12 a13 l => (la = a1 ∧ q = a7 ∧ k = a8 ∧ p = a9 ∧ d = a10 ∧ pin = a11 ∧ qu = a12 ∧ r = a13) ∧ [ar, dn, th, lo, dr] = l ∧ 0 ≤ i ∧ i ≤ 5 ∧ m = (5 - i).toNat ∧ ∀ j, j < i.toNat → inR ([ar, dn, th, lo, dr].getD j 0) 0 2147483647 = true,
      ⟨_, ⟨rfl, rfl, rfl, rfl, rfl, rfl, rfl, rfl⟩, rfl, by omega, by omega, rfl, fun j hj => by simp at hj⟩, ?_⟩, ?_⟩
  · rintro m i a1 a2 a3 a4 a5 a6 a7 a8 a9 a10 a11 a12 a13 l ⟨e, rfl, h2, h3, rfl, h4⟩
    refine ifP (fun hlt => ⟨⟨h2, hlt⟩, _, hin _ _ _, rfl, ifB_cases (fun hb => kb ?_) (fun hb => ?_)⟩) (fun hge => ⟨all_t fun j hj => h4 j ?_, e⟩)
    · have : timesOK [ar, dn, th, lo, dr] = false := all_f (i := i.toNat) (by simp at hlt ⊢; omega) (not_t hb)
      simp [sourceOK, this]
    · simp at hlt
      rw [w64 (by omega)]
      refine ⟨_, ?_, e, rfl, by omega, by omega, rfl, fun j hj => ?_⟩
      · omega
      · rcases Nat.lt_or_ge j i.toNat with h5 | h5
        · exact h4 j h5
        · rw [show j = i.toNat by omega]; exact not_f hb
    · simp at hge hj; omega
  · rintro a1 a2 a3 a4 a5 a6 a7 a8 a9 a10 a11 a12 a13 ⟨h1, rfl, rfl, rfl, rfl, rfl, rfl, rfl, rfl⟩
    refine ⟨_, ht _ _ _ _ _ _, rfl, ifB_cases (fun h2 => kb (by simp [sourceOK, not_t h2])) (fun h2 => ?_)⟩
    refine ⟨_, hin _ _ _, rfl, ifB_cases (fun h3 => kb (by simp [sourceOK, not_t h3])) (fun h3 => ?_)⟩
    refine ifP (fun h4 => kb (by simp [sourceOK, show ¬ (q.length : Int) ≤ qu by omega])) (fun h4 => ?_)
    have e : sourceOK la ar dn th lo dr q k p d pin qu r = queueOK q la := by
      simp [sourceOK, h1, not_f h2, not_f h3, show (q.length : Int) ≤ qu by omega]
    have hq : qu ≤ 4 := by
      have := not_f h2
      simp only [taskOK, Bool.and_eq_true] at this
      exact (inR_t this.2.2.1).2
    rw [e]
    refine ⟨fun m i a1 a2 a3 a4 a5 a6 l => (la = a1 ∧ q = l) ∧ 0 ≤ i ∧ i ≤ q.length ∧ m = (q.length - i).toNat ∧ ∀ j, j < i.toNat → queueAt q la j = true, ⟨_, ⟨rfl, rfl⟩, by omega, by omega, rfl, fun j hj => by simp at hj⟩, ?_⟩
    rintro m i a1 a2 a3 a4 a5 a6 l ⟨⟨rfl, rfl⟩, h5, h6, rfl, h7⟩
    have next : queueAt q la i.toNat = true → i < q.length → ∃ m53 : Nat, m53 < ((q.length : Int) - i).toNat ∧ (la = la ∧ q = q) ∧ 0 ≤ i + 1 ∧ i + 1 ≤ q.length ∧ m53 = (q.length - (i + 1)).toNat ∧ ∀ j, j < (i + 1).toNat → queueAt q la j = true := by
      intro hq hlt
      refine ⟨_, ?_, ⟨rfl, rfl⟩, by omega, by omega, rfl, fun j hj => ?_⟩
      · omega
      · rcases Nat.lt_or_ge j i.toNat with h8 | h8
        · exact h7 j h8
        · rw [show j = i.toNat by omega]; exact hq
    refine ifP (fun hlt => ⟨⟨h5, hlt⟩, _, hin _ _ _, rfl, ifB_cases (fun hb => kb (all_f (i := i.toNat) (by omega) ?_).symm) (fun hb => ?_)⟩) (fun hge => kb (all_t fun j hj => h7 j (by omega)).symm)
    · simp only [queueAt]; rw [show inR (q.getD i.toNat 0) 0 la = false from not_t hb]; rfl
    · have hb := not_f hb
      rw [w64 (x := i + 1) (by omega)]
      refine ifP (fun hp => ⟨⟨h5, hlt⟩, ?_⟩) (fun hp => next ?_ hlt)
      · rw [w64 (by omega)]
        refine ⟨⟨by omega, by omega⟩, ifP (fun hle => kb (all_f (i := i.toNat) (by omega) ?_).symm) (fun hle => next ?_ hlt)⟩
        · simp only [queueAt]
          rw [show (i - 1).toNat = i.toNat - 1 by omega] at hle
          rw [decide_eq_false (by omega), show (i.toNat == 0) = false by simp; omega]
          simp
        · simp only [queueAt]
          rw [show (i - 1).toNat = i.toNat - 1 by omega] at hle
          rw [decide_eq_true (by omega), show inR (q.getD i.toNat 0) 0 la = true from hb]
          simp
      · simp only [queueAt]
        rw [show inR (q.getD i.toNat 0) 0 la = true from hb, show (i.toNat == 0) = true by simp; omega]
        rfl
end
section
variable (hin : K_in n_impl_within C) (ht : K_TaskOK n_impl_TaskOK C) (ha : K_all C)
include hin ht ha
theorem p_impl_SourceOK (la ar dn th lo dr : Int) (q : List Int) (k p d pin qu r : Int) :
    v_impl_SourceOK C (fun x os => x = .one (.bool (sourceOK la ar dn th lo dr q k p d pin qu r)) ∧ os = []) la ar dn th lo dr q k p d pin qu r := by
  refine ⟨_, ht _ _ _ _ _ _, rfl, ifB_cases (fun h2 => kb (by simp [sourceOK, not_t h2])) (fun h2 => ?_)⟩
  refine ⟨_, hin _ _ _, rfl, ifB_cases (fun h3 => kb (by simp [sourceOK, not_t h3])) (fun h3 => ?_)⟩
  refine ⟨_, ha _ (by simp), rfl, ifB_cases (fun h1 => kb (by simp [sourceOK, not_t h1])) (fun h1 => ?_)⟩
  refine ifP (fun h4 => kb (by simp [sourceOK, show ¬ (q.length : Int) ≤ qu by omega])) (fun h4 => ?_)
  have e : sourceOK la ar dn th lo dr q k p d pin qu r = queueOK q la := by
    simp [sourceOK, not_f h1, not_f h2, not_f h3, show (q.length : Int) ≤ qu by omega]
  have hq : qu ≤ 4 := by
    have := not_f h2
    simp only [taskOK, Bool.and_eq_true] at this
    exact (inR_t this.2.2.1).2
  rw [e]
  refine ⟨fun m l1 n i a1 a2 a3 a4 a5 a6 l => (la = a1 ∧ q = l ∧ q = l1 ∧ n = q.length) ∧ 0 ≤ i ∧ i ≤ q.length ∧ m = (q.length - i).toNat ∧ ∀ j, j < i.toNat → queueAt q la j = true, ⟨_, ⟨rfl, rfl, rfl, rfl⟩, by omega, by omega, rfl, fun j hj => by simp at hj⟩, ?_⟩
  rintro m l1 n i a1 a2 a3 a4 a5 a6 l ⟨⟨rfl, rfl, rfl, rfl⟩, h5, h6, rfl, h7⟩
  have next : queueAt q la i.toNat = true → i < q.length → ∃ m53 : Nat, m53 < ((q.length : Int) - i).toNat ∧ (la = la ∧ q = q ∧ q = q ∧ (q.length : Int) = q.length) ∧ 0 ≤ i + 1 ∧ i + 1 ≤ q.length ∧ m53 = (q.length - (i + 1)).toNat ∧ ∀ j, j < (i + 1).toNat → queueAt q la j = true := by
    intro hq hlt
    refine ⟨_, ?_, ⟨rfl, rfl, rfl, rfl⟩, by omega, by omega, rfl, fun j hj => ?_⟩
    · omega
    · rcases Nat.lt_or_ge j i.toNat with h8 | h8
      · exact h7 j h8
      · rw [show j = i.toNat by omega]; exact hq
  refine ifP (fun hlt => ⟨⟨h5, hlt⟩, _, hin _ _ _, rfl, ifB_cases (fun hb => kb (all_f (i := i.toNat) (by omega) ?_).symm) (fun hb => ?_)⟩) (fun hge => kb (all_t fun j hj => h7 j (by omega)).symm)
  · simp only [queueAt]; rw [show inR (q.getD i.toNat 0) 0 la = false from not_t hb]; rfl
  · have hb := not_f hb
    rw [w64 (x := i + 1) (by omega)]
    refine ifP (fun hp => ?_) (fun hp => next ?_ hlt)
    · rw [w64 (by omega)]
      refine ⟨⟨by omega, by omega⟩, ifP (fun hle => kb (all_f (i := i.toNat) (by omega) ?_).symm) (fun hle => next ?_ hlt)⟩
      · simp only [queueAt]
        rw [show (i - 1).toNat = i.toNat - 1 by omega] at hle
        rw [decide_eq_false (by omega), show (i.toNat == 0) = false by simp; omega]
        simp
      · simp only [queueAt]
        rw [show (i - 1).toNat = i.toNat - 1 by omega] at hle
        rw [decide_eq_true (by omega), show inR (q.getD i.toNat 0) 0 la = true from hb]
        simp
    · simp only [queueAt]
      rw [show inR (q.getD i.toNat 0) 0 la = true from hb, show (i.toNat == 0) = true by simp; omega]
      rfl
end
end Go.Ry
