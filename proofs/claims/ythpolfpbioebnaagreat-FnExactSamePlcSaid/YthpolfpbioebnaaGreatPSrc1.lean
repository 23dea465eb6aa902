/- Sources: what is right, and their text. No condition. -/
import Derived.Test.YthpolfpbioebnaaGreatPDat1
set_option linter.unusedVariables false
set_option linter.unusedSimpArgs false
namespace Go.Ry
open Go.Proofs

def queueAt (q : List Int) (la : Int) (j : Nat) : Bool := within (q.getD j 0) 0 la && (j == 0 || decide (q.getD (j - 1) 0 < q.getD j 0))
def queueOK (q : List Int) (la : Int) : Bool := (List.range q.length).all (queueAt q la)
theorem queue_t {q : List Int} {la : Int} (h : ∀ j, j < q.length → queueAt q la j = true) : queueOK q la = true := by
  simp only [queueOK, List.all_eq_true, List.mem_range]; exact h
theorem queue_f {q : List Int} {la : Int} {i : Nat} (hi : i < q.length) (h : queueAt q la i = false) : queueOK q la = false := by
  rw [← Bool.not_eq_true]
  intro e
  simp only [queueOK, List.all_eq_true, List.mem_range] at e
  rw [e i hi] at h
  exact absurd h (by decide)
def sourceOK (la ar dn th lo dr : Int) (q : List Int) (k p d pin qu r : Int) : Bool :=
  taskOK k p d pin qu r && (within la (-1) 2147483647 && ([ar, dn, th, lo, dr].all isTm && (decide ((q.length : Int) ≤ qu) && queueOK q la)))
@[reducible] def srcE (la ar dn th lo dr : Int) (q : List Int) : Ent := .agg [cI la, cI ar, cI dn, cI th, cI lo, cI dr, .sl tyInt q]
theorem taskOK_q {k p d pin q r : Int} (h : taskOK k p d pin q r = true) : 1 ≤ q ∧ q ≤ 4 := by
  simp only [taskOK, Bool.and_eq_true, within_iff] at h
  exact h.2.2.1
theorem c_impl_SourceOK (la ar dn th lo dr : Int) (q : List Int) (k p d pin qu r : Int) :
    TT n_impl_SourceOK [srcE la ar dn th lo dr q, tsk k p d pin qu r] [] (eB (sourceOK la ar dn th lo dr q k p d pin qu r)) [] := by
  refine r_impl_SourceOK la ar dn th lo dr q k p d pin qu r ⟨_, c_impl_TaskOK _ _ _ _ _ _, ifB_cases (fun h => ?_) (fun h => ?_)⟩
  · have h : taskOK k p d pin qu r = false := by simpa using h
    exact ⟨by simp [sourceOK, h], rfl⟩
  have ht : taskOK k p d pin qu r = true := by simpa using h
  refine ⟨_, c_impl_within _ _ _, ifB_cases (fun h => ?_) (fun h => ?_)⟩
  · have h : within la (-1) 2147483647 = false := by simpa using h
    exact ⟨by simp [sourceOK, h], rfl⟩
  have hl : within la (-1) 2147483647 = true := by simpa using h
  refine ⟨_, c_impl_all_intt _ (by simp), ifB_cases (fun h => ?_) (fun h => ?_)⟩
  · have h : [ar, dn, th, lo, dr].all isTm = false := by rw [← Bool.not_eq_true']; exact h
    exact ⟨by simp only [sourceOK, h]; simp, rfl⟩
  have hc : [ar, dn, th, lo, dr].all isTm = true := by rw [← Bool.not_eq_false']; exact h
  refine ifP (fun h => ⟨by simp [sourceOK, show ¬ (q.length : Int) ≤ qu by omega], rfl⟩) (fun h => ?_)
  have hq := taskOK_q ht
  have e : sourceOK la ar dn th lo dr q k p d pin qu r = queueOK q la := by
    unfold sourceOK
    rw [ht, hl, hc, decide_eq_true (show (q.length : Int) ≤ qu by omega)]
    rfl
  rw [e]
  refine ⟨fun m i => 0 ≤ i ∧ i ≤ q.length ∧ m = (q.length - i).toNat ∧ ∀ j, j < i.toNat → queueAt q la j = true, ⟨_, rfl, rfl, by omega, by omega, rfl, fun j hj => by simp at hj⟩, ?_⟩
  rintro m i ⟨h0, h1, rfl, h2⟩
  have next : queueAt q la i.toNat = true → ∀ j, j < (i + 1).toNat → queueAt q la j = true := by
    intro hb j hj
    rcases Nat.lt_or_ge j i.toNat with h8 | h8
    · exact h2 j h8
    · rw [show j = i.toNat by omega]; exact hb
  refine ifP (fun hlt => ⟨⟨h0, hlt⟩, _, c_impl_within _ _ _, ifB_cases (fun hb => ?_) (fun hb => ?_)⟩) (fun hge => ⟨by rw [queue_t fun j hj => h2 j (by omega)], rfl⟩)
  · have hb : within (q.getD i.toNat 0) 0 la = false := by simpa using hb
    exact ⟨by rw [queue_f (i := i.toNat) (by omega) (by unfold queueAt; rw [hb]; rfl)], rfl⟩
  have hb : within (q.getD i.toNat 0) 0 la = true := by simpa using hb
  rw [w64 (x := i + 1) (by omega)]
  refine ifP (fun hp => ?_) (fun hp => ⟨_, by omega, rfl, rfl, by omega, by omega, rfl, next ?_⟩)
  · rw [w64 (x := i - 1) (by omega), show (i - 1).toNat = i.toNat - 1 by omega]
    refine ⟨⟨by omega, by omega⟩, ifP (fun hle => ?_) (fun hle => ⟨_, by omega, rfl, rfl, by omega, by omega, rfl, next ?_⟩)⟩
    · exact ⟨by rw [queue_f (i := i.toNat) (by omega) (by
        unfold queueAt
        rw [decide_eq_false (by omega), show (i.toNat == 0) = false by simp; omega]
        simp)], rfl⟩
    · unfold queueAt
      rw [hb, decide_eq_true (by omega)]
      simp
  · unfold queueAt
    rw [hb, show (i.toNat == 0) = true by simp; omega]
    rfl
theorem c_spec_SourceOK (la ar dn th lo dr : Int) (q : List Int) (k p d pin qu r : Int) :
    TT n_spec_SourceOK [srcE la ar dn th lo dr q, tsk k p d pin qu r] [] (eB (sourceOK la ar dn th lo dr q k p d pin qu r)) [] := by
  refine r_spec_SourceOK la ar dn th lo dr q k p d pin qu r ⟨[ar, dn, th, lo, dr].all isTm = true, ?_, fun hc => ?_⟩
  · refine ⟨fun m i l => l = [ar, dn, th, lo, dr] ∧ 0 ≤ i ∧ i ≤ 5 ∧ m = (5 - i).toNat ∧ (([ar, dn, th, lo, dr].drop i.toNat).all isTm = [ar, dn, th, lo, dr].all isTm), ⟨_, rfl, rfl, by omega, by omega, rfl, rfl⟩, ?_⟩
    rintro m i l ⟨rfl, h0, h1, rfl, h2⟩
    refine ifP (fun hlt => ⟨⟨h0, hlt⟩, _, c_spec_l01In _ _ _, ifB_cases (fun hb => ?_) (fun hb => ?_)⟩) (fun hge => ⟨rfl, ?_⟩)
    · have hlt : i < 5 := hlt
      rw [all_drop (by simp; omega) 0] at h2
      have hb : isTm ([ar, dn, th, lo, dr].getD i.toNat 0) = false := by simpa [isTm] using hb
      rw [hb, Bool.false_and] at h2
      exact ⟨by simp only [sourceOK, ← h2]; simp, rfl⟩
    · have hlt : i < 5 := hlt
      rw [all_drop (by simp; omega) 0] at h2
      have hb : isTm ([ar, dn, th, lo, dr].getD i.toNat 0) = true := by simpa [isTm] using hb
      rw [hb, Bool.true_and] at h2
      rw [w64 (x := i + 1) (by omega)]
      exact ⟨_, by omega, rfl, rfl, by omega, by omega, rfl, by rw [toNat_succ h0]; exact h2⟩
    · have hge : ¬ i < 5 := hge
      rw [← h2, List.drop_eq_nil_of_le (by simp; omega)]; rfl
  refine ⟨_, c_spec_TaskOK _ _ _ _ _ _, ifB_cases (fun h => ?_) (fun h => ?_)⟩
  · have h : taskOK k p d pin qu r = false := by simpa using h
    exact ⟨by simp [sourceOK, h], rfl⟩
  have ht : taskOK k p d pin qu r = true := by simpa using h
  refine ⟨_, c_spec_l01In _ _ _, ifB_cases (fun h => ?_) (fun h => ?_)⟩
  · have h : within la (-1) 2147483647 = false := by simpa using h
    exact ⟨by simp [sourceOK, h], rfl⟩
  have hl : within la (-1) 2147483647 = true := by simpa using h
  refine ifP (fun h => ⟨by simp [sourceOK, show ¬ (q.length : Int) ≤ qu by omega], rfl⟩) (fun h => ?_)
  have hq := taskOK_q ht
  have e : sourceOK la ar dn th lo dr q k p d pin qu r = queueOK q la := by
    unfold sourceOK
    rw [ht, hl, hc, decide_eq_true (show (q.length : Int) ≤ qu by omega)]
    rfl
  rw [e]
  refine ⟨fun m i => 0 ≤ i ∧ i ≤ q.length ∧ m = (q.length - i).toNat ∧ ∀ j, j < i.toNat → queueAt q la j = true, ⟨_, rfl, by omega, by omega, rfl, fun j hj => by simp at hj⟩, ?_⟩
  rintro m i ⟨h0, h1, rfl, h2⟩
  have next : queueAt q la i.toNat = true → ∀ j, j < (i + 1).toNat → queueAt q la j = true := by
    intro hb j hj
    rcases Nat.lt_or_ge j i.toNat with h8 | h8
    · exact h2 j h8
    · rw [show j = i.toNat by omega]; exact hb
  refine ifP (fun hlt => ⟨⟨h0, hlt⟩, _, c_spec_l01In _ _ _, ifB_cases (fun hb => ?_) (fun hb => ?_)⟩) (fun hge => ⟨by rw [queue_t fun j hj => h2 j (by omega)], rfl⟩)
  · have hb : within (q.getD i.toNat 0) 0 la = false := by simpa using hb
    exact ⟨by rw [queue_f (i := i.toNat) (by omega) (by unfold queueAt; rw [hb]; rfl)], rfl⟩
  have hb : within (q.getD i.toNat 0) 0 la = true := by simpa using hb
  rw [w64 (x := i + 1) (by omega)]
  refine ifP (fun hp => ⟨⟨h0, hlt⟩, ?_⟩) (fun hp => ⟨_, by omega, rfl, by omega, by omega, rfl, next ?_⟩)
  · rw [w64 (x := i - 1) (by omega), show (i - 1).toNat = i.toNat - 1 by omega]
    refine ⟨⟨by omega, by omega⟩, ifP (fun hle => ?_) (fun hle => ⟨_, by omega, rfl, by omega, by omega, rfl, next ?_⟩)⟩
    · exact ⟨by rw [queue_f (i := i.toNat) (by omega) (by
        unfold queueAt
        rw [decide_eq_false (by omega), show (i.toNat == 0) = false by simp; omega]
        simp)], rfl⟩
    · unfold queueAt
      rw [hb, decide_eq_true (by omega)]
      simp
  · unfold queueAt
    rw [hb, show (i.toNat == 0) = true by simp; omega]
    rfl
theorem source_i64 {la ar dn th lo dr : Int} {q : List Int} {k p d pin qu r : Int} (h : sourceOK la ar dn th lo dr q k p d pin qu r = true) :
    taskOK k p d pin qu r = true ∧ (-1 ≤ la ∧ la ≤ 2147483647) ∧ (0 ≤ ar ∧ ar ≤ 2147483647) ∧ (0 ≤ dn ∧ dn ≤ 2147483647) ∧ (0 ≤ th ∧ th ≤ 2147483647) ∧ (0 ≤ lo ∧ lo ≤ 2147483647) ∧ (0 ≤ dr ∧ dr ≤ 2147483647) ∧ q.length ≤ 4 := by
  simp only [sourceOK, Bool.and_eq_true, decide_eq_true_eq, List.all_cons, List.all_nil, isTm, within_iff] at h
  obtain ⟨h1, h2, ⟨h3, h4, h5, h6, h7, _⟩, h8, _⟩ := h
  have := taskOK_q h1
  exact ⟨h1, h2, h3, h4, h5, h6, h7, by omega⟩
end Go.Ry
