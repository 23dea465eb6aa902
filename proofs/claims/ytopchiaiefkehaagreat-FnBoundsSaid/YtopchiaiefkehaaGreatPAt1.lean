/- The laws' choice out of bytes. No condition. -/
import Derived.Test.YtopchiaiefkehaaGreatPDrw1
set_option linter.unusedVariables false
set_option linter.unusedSimpArgs false
namespace Go.Ry
open Go.Proofs
theorem c_at' (l : List Int) (i k : Int) (hl : l.length ≤ 1048576) (hb : ∀ n ∈ l, 0 ≤ n ∧ n ≤ 255) (hi : 0 ≤ i ∧ i ≤ 1000) (hk : 2 ≤ k) : ∃ n, (0 ≤ n ∧ n < k) ∧ TT n_laws_at [.one (.sl u8s l), eI i, eI k] [] (eI n) [] := by
  have two : ∀ m : Int, 0 ≤ m → 0 ≤ Int.tmod m k ∧ Int.tmod m k < k := fun m hm => tmod_rng hm (by omega)
  by_cases h0 : (l.length : Int) = 0
  · refine ⟨Int.tmod (wI (i * 7)) k, two _ (by rw [w64 (by omega)]; omega), r_laws_at l i k ?_⟩
    unfold v_laws_at
    exact ifP_f (by omega) (ifE_t h0 ⟨by omega, rfl, rfl⟩)
  · obtain ⟨a0, a1⟩ := tmod_rng (a := i) (b := (l.length : Int)) (by omega) (by omega)
    obtain ⟨b0, b1⟩ := tmod_rng (a := i + 1) (b := (l.length : Int)) (by omega) (by omega)
    have c0 := by_at hb (Int.tmod i l.length).toNat
    have c1 := by_at hb (Int.tmod (i + 1) l.length).toNat
    have d0 : 0 ≤ Int.tdiv i l.length := Int.tdiv_nonneg (by omega) (by omega)
    have d1 : Int.tdiv i l.length ≤ 1000 := by
      rw [Int.tdiv_eq_ediv_of_nonneg (by omega)]
      have := Int.ediv_le_self (b := (l.length : Int)) (a := i) (by omega)
      omega
    refine ⟨Int.tmod (wI ((wI ((wI ((wI (l.getD (Int.toNat (Int.tmod i l.length)) 0)) * 31)) + (wI (l.getD (Int.toNat (Int.tmod (wI (i + 1)) l.length)) 0)))) + (wI (Int.tdiv i l.length)))) k, two _ ?_, r_laws_at l i k ?_⟩
    · rw [w64 (x := i + 1) (by omega), w64 (x := l.getD (Int.tmod i l.length).toNat 0) (by omega), w64 (x := l.getD (Int.tmod i l.length).toNat 0 * 31) (by omega), w64 (x := l.getD (Int.tmod (i + 1) l.length).toNat 0) (by omega), w64 (x := Int.tdiv i l.length) (by omega), w64 (x := l.getD (Int.tmod i l.length).toNat 0 * 31 + l.getD (Int.tmod (i + 1) l.length).toNat 0) (by omega), w64 (by omega)]
      omega
    · unfold v_laws_at
      rw [w64 (x := i + 1) (by omega)]
      exact ifP_f (by omega) (ifE_f h0 ⟨h0, ⟨a0, a1⟩, h0, ⟨b0, b1⟩, h0, by omega, rfl, rfl⟩)
end Go.Ry
