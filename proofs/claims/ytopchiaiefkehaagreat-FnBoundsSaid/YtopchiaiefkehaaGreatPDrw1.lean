/- What is drawn: numbers and bits. No condition. -/
import Derived.Test.YtopchiaiefkehaaGreatPNum2
set_option linter.unusedVariables false
set_option linter.unusedSimpArgs false
namespace Go.Ry
open Go.Proofs

/-! ### the source -/
@[reducible] def u8s : Ty := .int .u8
@[reducible] def srcO (l : List Int) (p q : Int) : Ob := .box [.sl u8s l, cI p, cI q]
/-- The source's bytes, its place and its seed are what they may be. -/
structure SrcOK (l : List Int) (p q : Int) : Prop where
  len : l.length ≤ 1048576
  by_ : ∀ n ∈ l, 0 ≤ n ∧ n ≤ 255
  p0 : 0 ≤ p
  p1 : p ≤ 1099511627776
  q0 : 0 ≤ q
  q1 : q ≤ 2147483647
theorem by_at {l : List Int} (h : ∀ n ∈ l, 0 ≤ n ∧ n ≤ 255) (i : Nat) : 0 ≤ l.getD i 0 ∧ l.getD i 0 ≤ 255 := by
  rw [List.getD_eq_getElem?_getD]
  cases hx : l[i]? with
  | none => simp
  | some v => exact h v (List.mem_of_getElem? hx)
theorem tmod_rng {a b : Int} (ha : 0 ≤ a) (hb : 0 < b) : 0 ≤ Int.tmod a b ∧ Int.tmod a b < b := by
  rw [Int.tmod_eq_emod_of_nonneg ha]
  exact ⟨Int.emod_nonneg _ (by omega), Int.emod_lt_of_pos _ hb⟩
/-- A draw: some byte comes, and the source is what it may be, a little further. -/
theorem c_byte (l : List Int) (p q : Int) (h : SrcOK l p q) (hp : p < 1099511627776) : ∃ n q', (0 ≤ n ∧ n ≤ 255) ∧ SrcOK l (p + 1) q' ∧ TT n_spec_l00Src_byte [.one (.ptrB 0 0)] [srcO l p q] (eI n) [srcO l (p + 1) q'] := by
  obtain ⟨h1, h2, h3, h4, h5, h6⟩ := h
  have e1 : wI (p + 1) = p + 1 := w64 (by omega)
  have e2 : wI (wI (p + 1) - 1) = p := by rw [e1, w64 (by omega)]; omega
  have e3 : wI (q * 31) = q * 31 := w64 (by omega)
  have hb := by_at h2 p.toNat
  have e4 : wI (l.getD p.toNat 0) = l.getD p.toNat 0 := w64 (by omega)
  have e5 : wI (wI (q * 1103515245) + 12345) = q * 1103515245 + 12345 := by rw [w64 (x := q * 1103515245) (by omega), w64 (by omega)]
  by_cases hc : p + 1 ≤ (l.length : Int)
  · obtain ⟨k0, k1⟩ := tmod_rng (a := q * 31 + l.getD p.toNat 0 + 7) (b := 2147483648) (by omega) (by omega)
    refine ⟨l.getD p.toNat 0, Int.tmod (q * 31 + l.getD p.toNat 0 + 7) 2147483648, hb, ⟨h1, h2, by omega, by omega, k0, by omega⟩, r_spec_l00Src_byte l p q ?_⟩
    unfold v_spec_l00Src_byte
    rw [e2, e1, e3, e4, w64 (x := q * 31 + l.getD p.toNat 0) (by omega), w64 (x := q * 31 + l.getD p.toNat 0 + 7) (by omega)]
    exact ifP_t hc ⟨by omega, by omega, by omega, rfl, rfl⟩
  · by_cases hm : p + 1 > 3000
    · refine ⟨0, q, by omega, ⟨h1, h2, by omega, by omega, h5, h6⟩, r_spec_l00Src_byte l p q ?_⟩
      unfold v_spec_l00Src_byte
      rw [e1]
      exact ifP_f hc (ifP_t hm ⟨rfl, rfl⟩)
    · obtain ⟨k0, k1⟩ := tmod_rng (a := q * 1103515245 + 12345) (b := 2147483648) (by omega) (by omega)
      have k2 : 0 ≤ Int.tdiv (Int.tmod (q * 1103515245 + 12345) 2147483648) 65536 := Int.tdiv_nonneg k0 (by omega)
      have k3 : Int.tdiv (Int.tmod (q * 1103515245 + 12345) 2147483648) 65536 ≤ 2147483648 := by
        rw [Int.tdiv_eq_ediv_of_nonneg k0]; omega
      obtain ⟨k4, k5⟩ := tmod_rng (b := 256) k2 (by omega)
      refine ⟨Int.tmod (Int.tdiv (Int.tmod (q * 1103515245 + 12345) 2147483648) 65536) 256, Int.tmod (q * 1103515245 + 12345) 2147483648, by omega, ⟨h1, h2, by omega, by omega, k0, by omega⟩, r_spec_l00Src_byte l p q ?_⟩
      unfold v_spec_l00Src_byte
      rw [e5, e1, w64 (x := Int.tdiv _ 65536) (by omega)]
      exact ifP_f hc (ifP_f hm ⟨by omega, by omega, by omega, rfl, rfl⟩)
/-- A draw below n: it takes three bytes at most. -/
theorem c_next (k : Int) (l : List Int) (p q : Int) (h : SrcOK l p q) (hp : p < 1099511627000) :
    ∃ n p' q', (0 ≤ n ∧ (n < k ∨ n = 0)) ∧ (p ≤ p' ∧ p' ≤ p + 3) ∧ SrcOK l p' q' ∧ TT n_spec_l00Src_next [.one (.ptrB 0 0), eI k] [srcO l p q] (eI n) [srcO l p' q'] := by
  by_cases h1 : k ≤ 1
  · refine ⟨0, p, q, by omega, by omega, h, r_spec_l00Src_next k l p q ?_⟩
    unfold v_spec_l00Src_next
    exact ifP_t h1 ⟨rfl, rfl⟩
  by_cases h2 : k ≤ 256
  · obtain ⟨n, q', b1, b2, b3⟩ := c_byte l p q h (by omega)
    obtain ⟨k0, k1⟩ := tmod_rng (a := n) (b := k) (by omega) (by omega)
    refine ⟨Int.tmod n k, p + 1, q', by omega, by omega, b2, r_spec_l00Src_next k l p q ?_⟩
    unfold v_spec_l00Src_next
    exact ifP_f h1 (ifP_t h2 ⟨_, _, _, _, b3, by omega, rfl, rfl⟩)
  · obtain ⟨n, q1, a1, a2, a3⟩ := c_byte l p q h (by omega)
    obtain ⟨m, q2, b1, b2, b3⟩ := c_byte l (p + 1) q1 a2 (by omega)
    obtain ⟨o, q3, c1, c2, c3⟩ := c_byte l (p + 1 + 1) q2 b2 (by omega)
    obtain ⟨k0, k1⟩ := tmod_rng (a := n * 65536 + m * 256 + o) (b := k) (by omega) (by omega)
    refine ⟨Int.tmod (n * 65536 + m * 256 + o) k, p + 1 + 1 + 1, q3, by omega, by omega, c2, r_spec_l00Src_next k l p q ?_⟩
    unfold v_spec_l00Src_next
    refine ifP_f h1 (ifP_f h2 ⟨_, _, _, _, a3, _, _, _, _, b3, _, _, _, _, c3, by omega, ?_, rfl⟩)
    rw [w64 (x := n * 65536) (by omega), w64 (x := m * 256) (by omega), w64 (x := n * 65536 + m * 256) (by omega), w64 (x := n * 65536 + m * 256 + o) (by omega)]
theorem c_chance (k : Int) (hk : 1 ≤ k ∧ k ≤ 1000) (l : List Int) (p q : Int) (h : SrcOK l p q) (hp : p < 1099511627000) :
    ∃ b p' q', (p ≤ p' ∧ p' ≤ p + 3) ∧ SrcOK l p' q' ∧ TT n_spec_l00Src_chance [.one (.ptrB 0 0), eI k] [srcO l p q] (eB b) [srcO l p' q'] := by
  obtain ⟨n, p', q', h1, h2, h3, h4⟩ := c_next k l p q h hp
  exact ⟨_, p', q', h2, h3, r_spec_l00Src_chance k l p q ⟨_, _, _, _, h4, rfl, rfl⟩⟩
theorem c_value (l : List Int) (p q : Int) (h : SrcOK l p q) (hp : p < 1099511620000) :
    ∃ n p' q', isVal n = true ∧ (p ≤ p' ∧ p' ≤ p + 12) ∧ SrcOK l p' q' ∧ TT n_spec_l00Src_value [.one (.ptrB 0 0)] [srcO l p q] (eI n) [srcO l p' q'] := by
  obtain ⟨s, p1, q1, h1, h2, h3, h4⟩ := c_next 8 l p q h (by omega)
  by_cases s0 : s = 0
  · obtain ⟨n, p2, q2, a1, a2, a3, a4⟩ := c_next 3 l p1 q1 h3 (by omega)
    refine ⟨wI (2147483647 - n), p2, q2, ?_, by omega, a3, r_spec_l00Src_value l p q ?_⟩
    · rw [w64 (by omega)]; simp only [isVal, within_iff]; omega
    · exact ⟨_, _, _, _, h4, ifE_t s0 ⟨_, _, _, _, a4, rfl, rfl⟩⟩
  by_cases s1 : s = 1
  · obtain ⟨n, p2, q2, a1, a2, a3, a4⟩ := c_next 3 l p1 q1 h3 (by omega)
    refine ⟨wI ((-2147483648) + n), p2, q2, ?_, by omega, a3, r_spec_l00Src_value l p q ?_⟩
    · rw [w64 (by omega)]; simp only [isVal, within_iff]; omega
    · exact ⟨_, _, _, _, h4, ifE_f s0 (ifE_t s1 ⟨_, _, _, _, a4, rfl, rfl⟩)⟩
  by_cases s2 : s = 2
  · obtain ⟨n, q2, a1, a2, a3⟩ := c_byte l p1 q1 h3 (by omega)
    obtain ⟨m, q3, b1, b2, b3⟩ := c_byte l (p1 + 1) q2 a2 (by omega)
    obtain ⟨o, q4, c1, c2, c3⟩ := c_byte l (p1 + 1 + 1) q3 b2 (by omega)
    obtain ⟨r, q5, d1, d2, d3⟩ := c_byte l (p1 + 1 + 1 + 1) q4 c2 (by omega)
    refine ⟨n * 16777216 + m * 65536 + o * 256 + r - 2147483647 - 1, _, q5, ?_, by omega, d2, r_spec_l00Src_value l p q ?_⟩
    · simp only [isVal, within_iff]; omega
    · refine ⟨_, _, _, _, h4, ifE_f s0 (ifE_f s1 (ifE_t s2 ⟨_, _, _, _, a3, _, _, _, _, b3, _, _, _, _, c3, _, _, _, _, d3, ?_, rfl⟩))⟩
      rw [w64 (x := n * 16777216) (by omega), w64 (x := m * 65536) (by omega), w64 (x := o * 256) (by omega), w64 (x := n * 16777216 + m * 65536) (by omega), w64 (x := n * 16777216 + m * 65536 + o * 256) (by omega),
        w64 (x := n * 16777216 + m * 65536 + o * 256 + r) (by omega), w64 (x := n * 16777216 + m * 65536 + o * 256 + r - 2147483647) (by omega), w64 (by omega)]
  by_cases s3 : s = 3
  · obtain ⟨n, p2, q2, a1, a2, a3, a4⟩ := c_next 300 l p1 q1 h3 (by omega)
    refine ⟨wI (0 - n), p2, q2, ?_, by omega, a3, r_spec_l00Src_value l p q ?_⟩
    · rw [w64 (by omega)]; simp only [isVal, within_iff]; omega
    · exact ⟨_, _, _, _, h4, ifE_f s0 (ifE_f s1 (ifE_f s2 (ifE_t s3 ⟨_, _, _, _, a4, rfl, rfl⟩)))⟩
  · obtain ⟨n, p2, q2, a1, a2, a3, a4⟩ := c_next 200 l p1 q1 h3 (by omega)
    refine ⟨n, p2, q2, ?_, by omega, a3, r_spec_l00Src_value l p q ?_⟩
    · simp only [isVal, within_iff]; omega
    · exact ⟨_, _, _, _, h4, ifE_f s0 (ifE_f s1 (ifE_f s2 (ifE_f s3 ⟨_, _, _, _, a4, rfl, rfl⟩)))⟩
theorem c_source (l : List Int) (hl : l.length ≤ 1048576) (hb : ∀ n ∈ l, 0 ≤ n ∧ n ≤ 255) : ∃ q, SrcOK l 0 q ∧ TT n_spec_l00Source [.one (.sl u8s l)] [] (.one (.ptrB 0 0)) [srcO l 0 q] := by
  obtain ⟨k0, k1⟩ := tmod_rng (a := (l.length : Int)) (b := 1000) (by omega) (by omega)
  exact ⟨_, ⟨hl, hb, by omega, by omega, k0, by omega⟩, r_spec_l00Source l ⟨by omega, rfl, rfl⟩⟩
theorem u8_of {l : List Int} (hw : Ty.wf (.slice (.int .u8)) l) : ∀ n ∈ l, 0 ≤ n ∧ n ≤ 255 := fun n hn => by
  have := hw.2 n hn
  simp only [Ty.wf, Lit.wf, IntKind.min, IntKind.max, IntKind.signed, IntKind.bits, Bool.and_eq_true, decide_eq_true_eq] at this
  simp at this; omega
end Go.Ry
