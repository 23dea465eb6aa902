/- Quotients rounded up; tasks of a program that fits. No condition. -/
import Derived.Test.YtopchiaiefkehaaGreatPCost4
set_option linter.unusedVariables false
set_option linter.unusedSimpArgs false
namespace Go.Ry
open Go.Proofs

def ceilM (a b : Int) : Int := (a + b - 1) / b
theorem ceil_range {a b : Int} (ha : 0 ≤ a) (hb : 1 ≤ b) : 0 ≤ ceilM a b ∧ ceilM a b ≤ a + b - 1 :=
  ⟨Int.ediv_nonneg (by omega) (by omega), Int.ediv_le_self _ (by omega)⟩
theorem ceil_eq {a b : Int} (ha : 0 ≤ a ∧ a ≤ 3000000000000) (hb : 1 ≤ b ∧ b ≤ 5000) : wI (Int.tdiv (wI ((wI (a + b)) - 1)) b) = ceilM a b := by
  have := ceil_range ha.1 hb.1
  rw [w64 (x := a + b) (by omega), w64 (x := a + b - 1) (by omega), Int.tdiv_eq_ediv_of_nonneg (by omega)]
  exact w64 (by unfold ceilM at this; omega)
theorem c_impl_ceil (a b : Int) (ha : 0 ≤ a ∧ a ≤ 3000000000000) (hb : 1 ≤ b ∧ b ≤ 5000) : TT n_impl_ceil [eI a, eI b] [] (eI (ceilM a b)) [] :=
  r_impl_ceil a b ⟨by omega, by rw [ceil_eq ha hb], rfl⟩
@[reducible] def suAt (cs : List Su) (k : Int) : Su := cs.getD k.toNat ((0 : Int), ((0 : Int), ((0 : Int), ((0 : Int), ((0 : Int), ())))))
@[reducible] def tskAt (ts : List Tsk) (k : Nat) : Tsk := ts.getD k ((0 : Int), ((0 : Int), ((0 : Int), ((0 : Int), ((0 : Int), ((0 : Int), ()))))))
theorem tskOK_range {t : Tsk} (h : tskOK t = true) : (1 ≤ t.2.1 ∧ t.2.1 ≤ 5000) ∧ (1 ≤ t.2.2.1 ∧ t.2.2.1 ≤ 5000) ∧ (1 ≤ t.2.2.2.2.1 ∧ t.2.2.2.2.1 ≤ 4) ∧ (0 ≤ t.2.2.2.2.2.1 ∧ t.2.2.2.2.2.1 ≤ 5) := by
  simp only [tskOK, taskOK, Bool.and_eq_true] at h
  exact ⟨within_iff.1 h.1, within_iff.1 h.2.1, within_iff.1 h.2.2.1, within_iff.1 h.2.2.2.1⟩
theorem PrgFit.task {ks : List Int} {rs : List Rou} {ts : List Tsk} {sf : List Bool} (h : PrgFit ks rs ts sf) {k : Nat} (hk : k < ts.length) :
    ((1 ≤ (tskAt ts k).2.1 ∧ (tskAt ts k).2.1 ≤ 5000) ∧ (1 ≤ (tskAt ts k).2.2.1 ∧ (tskAt ts k).2.2.1 ≤ 5000) ∧ (1 ≤ (tskAt ts k).2.2.2.2.1 ∧ (tskAt ts k).2.2.2.2.1 ≤ 4)) ∧ 0 ≤ (tskAt ts k).2.2.2.2.2.1 ∧ (tskAt ts k).2.2.2.2.2.1 < rs.length := by
  have hm : tskAt ts k ∈ ts := by
    unfold tskAt
    rw [List.getD_eq_getElem?_getD, List.getElem?_eq_getElem hk]
    exact List.getElem_mem hk
  have h1 := h.hts _ hm
  have h2 := tskOK_range h1.1
  exact ⟨⟨h2.1, h2.2.1, h2.2.2.1⟩, h2.2.2.2.1, h1.2⟩
end Go.Ry
