/- Sources: what is right, and their text. No condition. -/
import Derived.Test.YtopchiaiefkehaaGreatPDat1
set_option linter.unusedVariables false
set_option linter.unusedSimpArgs false
namespace Go.Ry
open Go.Proofs

def queueAt (q : List Int) (la : Int) (j : Nat) : Bool := within (q.getD j 0) 0 la && (j == 0 || decide (q.getD (j - 1) 0 < q.getD j 0))
def queueOK (q : List Int) (la : Int) : Bool := (List.range q.length).all (queueAt q la)
theorem queue_t {q : List Int} {la : Int} (h : ∀ j, j < q.length → queueAt q la j = true) : queueOK q la = true := by
  simp only [queueOK, List.all_eq_true, List.mem_range]; exact h
theorem queue_f {q : List Int} {la : Int} {i : Nat} (hi : i < q.length) (h : queueAt q la i = false) : queueOK q la = false := by
  rw [← Bool.not_eq_true]
  intro e
  simp only [queueOK, List.all_eq_true, List.mem_range] at e
  rw [e i hi] at h
  exact absurd h (by decide)
def sourceOK (la ar dn th lo dr : Int) (q : List Int) (k p d pin qu r : Int) : Bool :=
  taskOK k p d pin qu r && (within la (-1) 2147483647 && ([ar, dn, th, lo, dr].all isTm && (decide ((q.length : Int) ≤ qu) && queueOK q la)))
@[reducible] def srcE (la ar dn th lo dr : Int) (q : List Int) : Ent := .agg [cI la, cI ar, cI dn, cI th, cI lo, cI dr, .sl tyInt q]
theorem taskOK_q {k p d pin q r : Int} (h : taskOK k p d pin q r = true) : 1 ≤ q ∧ q ≤ 4 := by
  simp only [taskOK, Bool.and_eq_true, within_iff] at h
  exact h.2.2.1
theorem c_impl_SourceOK (la ar dn th lo dr : Int) (q : List Int) (k p d pin qu r : Int) :
    TT n_impl_SourceOK [srcE la ar dn th lo dr q, tsk k p d pin qu r] [] (eB (sourceOK la ar dn th lo dr q k p d pin qu r)) [] := by
  refine r_impl_SourceOK la ar dn th lo dr q k p d pin qu r ⟨_, c_impl_TaskOK _ _ _ _ _ _, ifB_cases (fun h => ?_) (fun h => ?_)⟩
  · have h : taskOK k p d pin qu r = false := by simpa using h
    exact ⟨by simp [sourceOK, h], rfl⟩
  have ht : taskOK k p d pin qu r = true := by simpa using h
  refine ⟨_, c_impl_within _ _ _, ifB_cases (fun h => ?_) (fun h => ?_)⟩
  · have h : within la (-1) 2147483647 = false := by simpa using h
    exact ⟨by simp [sourceOK, h], rfl⟩
  have hl : within la (-1) 2147483647 = true := by simpa using h
  refine ⟨_, c_impl_all_intt _ (by simp), ifB_cases (fun h => ?_) (fun h => ?_)⟩
  · have h : [ar, dn, th, lo, dr].all isTm = false := by rw [← Bool.not_eq_true']; exact h
    exact ⟨by simp only [sourceOK, h]; simp, rfl⟩
  have hc : [ar, dn, th, lo, dr].all isTm = true := by rw [← Bool.not_eq_false']; exact h
  refine ifP (fun h => ⟨by simp [sourceOK, show ¬ (q.length : Int) ≤ qu by omega], rfl⟩) (fun h => ?_)
  have hq := taskOK_q ht
  have e : sourceOK la ar dn th lo dr q k p d pin qu r = queueOK q la := by
    unfold sourceOK
    rw [ht, hl, hc, decide_eq_true (show (q.length : Int) ≤ qu by omega)]
    rfl
  rw [e]
  refine ⟨fun m i => 0 ≤ i ∧ i ≤ q.length ∧ m = (q.length - i).toNat ∧ ∀ j, j < i.toNat → queueAt q la j = true, ⟨_, rfl, rfl, by omega, by omega, rfl, fun j hj => by simp at hj⟩, ?_⟩
  rintro m i ⟨h0, h1, rfl, h2⟩
  have next : queueAt q la i.toNat = true → ∀ j, j < (i + 1).toNat → queueAt q la j = true := by
    intro hb j hj
    rcases Nat.lt_or_ge j i.toNat with h8 | h8
    · exact h2 j h8
    · rw [show j = i.toNat by omega]; exact hb
  refine ifP (fun hlt => ⟨⟨h0, hlt⟩, _, c_impl_within _ _ _, ifB_cases (fun hb => ?_) (fun hb => ?_)⟩) (fun hge => ⟨by rw [queue_t fun j hj => h2 j (by omega)], rfl⟩)
  · have hb : within (q.getD i.toNat 0) 0 la = false := by simpa using hb
    exact ⟨by rw [queue_f (i := i.toNat) (by omega) (by unfold queueAt; rw [hb]; rfl)], rfl⟩
  have hb : within (q.getD i.toNat 0) 0 la = true := by simpa using hb
  rw [w64 (x := i + 1) (by omega)]
  refine ifP (fun hp => ?_) (fun hp => ⟨_, by omega, rfl, rfl, by omega, by omega, rfl, next ?_⟩)
  · rw [w64 (x := i - 1) (by omega), show (i - 1).toNat = i.toNat - 1 by omega]
    refine ⟨⟨by omega, by omega⟩, ifP (fun hle => ?_) (fun hle => ⟨_, by omega, rfl, rfl, by omega, by omega, rfl, next ?_⟩)⟩
    · exact ⟨by rw [queue_f (i := i.toNat) (by omega) (by
        unfold queueAt
        rw [decide_eq_false (by omega), show (i.toNat == 0) = false by simp; omega]
        simp)], rfl⟩
    · unfold queueAt
      rw [hb, decide_eq_true (by omega)]
      simp
  · unfold queueAt
    rw [hb, show (i.toNat == 0) = true by simp; omega]
    rfl
theorem source_i64 {la ar dn th lo dr : Int} {q : List Int} {k p d pin qu r : Int} (h : sourceOK la ar dn th lo dr q k p d pin qu r = true) :
    taskOK k p d pin qu r = true ∧ (-1 ≤ la ∧ la ≤ 2147483647) ∧ (0 ≤ ar ∧ ar ≤ 2147483647) ∧ (0 ≤ dn ∧ dn ≤ 2147483647) ∧ (0 ≤ th ∧ th ≤ 2147483647) ∧ (0 ≤ lo ∧ lo ≤ 2147483647) ∧ (0 ≤ dr ∧ dr ≤ 2147483647) ∧ q.length ≤ 4 := by
  simp only [sourceOK, Bool.and_eq_true, decide_eq_true_eq, List.all_cons, List.all_nil, isTm, within_iff] at h
  obtain ⟨h1, h2, ⟨h3, h4, h5, h6, h7, _⟩, h8, _⟩ := h
  have := taskOK_q h1
  exact ⟨h1, h2, h3, h4, h5, h6, h7, by omega⟩
end Go.Ry
