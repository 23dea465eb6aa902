/- Tasks that are drawn. No condition. -/
import Derived.Test.YtopchiaiefkehaaGreatPDrw1
set_option linter.unusedVariables false
set_option linter.unusedSimpArgs false
namespace Go.Ry
open Go.Proofs

theorem c_task' (n : Int) (hn : 1 ≤ n ∧ n ≤ 6) (l : List Int) (p q : Int) (h : SrcOK l p q) (hp : p < 1099511600000) :
    ∃ k pe d pin qu r p' q' : Int, ((taskOK k pe d pin qu r = true ∧ 40 ≤ pe ∧ pe ≤ 239) ∧ 0 ≤ r ∧ r < n) ∧ (p ≤ p' ∧ p' ≤ p + 21) ∧ SrcOK l p' q' ∧ TT n_spec_l00Src_task [.one (.ptrB 0 0), eI n] [srcO l p q] (tsk k pe d pin qu r) [srcO l p' q'] := by
  obtain ⟨v1, p1, q1, a1, b1, d1, c1⟩ := c_next 2 l p q h (by omega)
  obtain ⟨v2, p2, q2, a2, b2, d2, c2⟩ := c_next 200 l p1 q1 d1 (by omega)
  obtain ⟨v3, p3, q3, a3, b3, d3, c3⟩ := c_next n l p2 q2 d2 (by omega)
  obtain ⟨v4, p4, q4, a4, b4, d4, c4⟩ := c_next 30 l p3 q3 d3 (by omega)
  have w : ∀ x : Int, 0 ≤ x ∧ x ≤ 1000 → wI x = x := fun x hx => w64 (by omega)
  by_cases e : v1 = 1
  · obtain ⟨v5, p5, q5, a5, b5, d5, c5⟩ := c_next 3 l p4 q4 d4 (by omega)
    obtain ⟨v6, p6, q6, a6, b6, d6, c6⟩ := c_next 3 l p5 q5 d5 (by omega)
    obtain ⟨v7, p7, q7, a7, b7, d7, c7⟩ := c_next 300 l p6 q6 d6 (by omega)
    refine ⟨2, 40 + v2, 40 + v7, v5, 1 + v6, v3, p7, q7, ⟨⟨?_, by omega, by omega⟩, by omega, by omega⟩, by omega, d7, ?_⟩
    · simp [taskOK, within_iff]; omega
    · subst e
      refine r_spec_l00Src_task n l p q ⟨_, _, _, _, c1, _, _, _, _, c2, _, _, _, _, c3, _, _, _, _, c4, ifE_t (by rw [w (1 + 1) (by omega)]; rfl) ⟨_, _, _, _, c5, _, _, _, _, c6, _, _, _, _, c7, ?_⟩⟩
      rw [w (1 + 1) (by omega), w (40 + v2) (by omega), w (40 + v7) (by omega), w (1 + v6) (by omega)]
      exact ⟨rfl, rfl⟩
  · obtain rfl : v1 = 0 := by omega
    refine ⟨1, 40 + v2, 40 + v2 - v4, 0, 1, v3, p4, q4, ⟨⟨?_, by omega, by omega⟩, by omega, by omega⟩, by omega, d4, ?_⟩
    · simp [taskOK, within_iff]; omega
    · refine r_spec_l00Src_task n l p q ⟨_, _, _, _, c1, _, _, _, _, c2, _, _, _, _, c3, _, _, _, _, c4, ifE_f (by rw [w (1 + 0) (by omega)]; omega) ?_⟩
      rw [w (1 + 0) (by omega), w (40 + v2) (by omega), w (40 + v2 - v4) (by omega)]
      exact ⟨rfl, rfl⟩
theorem c_task (n : Int) (hn : 1 ≤ n ∧ n ≤ 6) (l : List Int) (p q : Int) (h : SrcOK l p q) (hp : p < 1099511600000) :
    ∃ k pe d pin qu r p' q' : Int, (taskOK k pe d pin qu r = true ∧ 40 ≤ pe ∧ pe ≤ 239) ∧ (p ≤ p' ∧ p' ≤ p + 21) ∧ SrcOK l p' q' ∧ TT n_spec_l00Src_task [.one (.ptrB 0 0), eI n] [srcO l p q] (tsk k pe d pin qu r) [srcO l p' q'] := by
  obtain ⟨k, pe, d, pin, qu, r, p', q', a, b⟩ := c_task' n hn l p q h hp
  exact ⟨k, pe, d, pin, qu, r, p', q', a.1, b⟩
end Go.Ry
