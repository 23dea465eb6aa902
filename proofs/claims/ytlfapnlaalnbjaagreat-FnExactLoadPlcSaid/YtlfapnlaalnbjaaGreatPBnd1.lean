/- Busy periods: the same by the program and by the reference. No condition. -/
import Derived.Test.YtlfapnlaalnbjaaGreatPLoad1
set_option linter.unusedVariables false
set_option linter.unusedSimpArgs false
namespace Go.Ry
open Go.Proofs

abbrev Bd := Int × Int × Int × Int × Unit
@[reducible] def tBd : Ty := .pair (.int .i64) (.pair (.int .i64) (.pair (.int .i64) (.pair (.int .i64) .unit)))
@[reducible] def dBd : Bd := ((0 : Int), ((0 : Int), ((0 : Int), ((0 : Int), ()))))
def max2 (b n : Int) : Int := if n > b then n else b
def longM (a : Su) : Int := max2 (max2 (max2 a.2.1 a.2.2.1) a.2.2.2.1) a.2.2.2.2.1
theorem max2_ok {a b : Int} (ha : okN a) (hb : okN b) : okN (max2 a b) := by unfold max2; split <;> assumption
theorem longM_ok {a : Su} (ha : okS a) : okN (longM a) := max2_ok (max2_ok (max2_ok ha.n ha.h) ha.l) ha.i
theorem c_impl_longest (a : Su) : TT n_impl_longest [suE a] [] (eI (longM a)) [] := r_impl_longest _ _ _ _ _ ⟨rfl, rfl⟩
theorem c_spec_l05Longest (a : Su) : TT n_spec_l05Longest [suE a] [] (eI (longM a)) [] := r_spec_l05Longest _ _ _ _ _ ⟨rfl, rfl⟩

/-- What may come within n ticks, and what may be ahead of it. -/
def demL (n : Int) : List Int → List Int → Int → Int
  | c :: cs, p :: ps, b => demL n cs ps (b + c * ceilM n p)
  | _, _, b => b
theorem demL_cons {n c p b : Int} {cs ps : List Int} : demL n (c :: cs) (p :: ps) b = demL n cs ps (b + c * ceilM n p) := rfl
structure CP (cs ps : List Int) : Prop where
  len : cs.length = ps.length
  five : cs.length ≤ 5
  c : ∀ i : Nat, i < cs.length → 0 ≤ cs.getD i 0 ∧ cs.getD i 0 ≤ 5000
  p : ∀ i : Nat, i < ps.length → 1 ≤ ps.getD i 0 ∧ ps.getD i 0 ≤ 5000
theorem mulB {c q : Int} (hc : 0 ≤ c ∧ c ≤ 5000) (hq : 0 ≤ q ∧ q ≤ 9999) : 0 ≤ c * q ∧ c * q ≤ 49995000 := by
  have h1 := Int.mul_nonneg hc.1 hq.1
  have h2 := Int.mul_le_mul hc.2 hq.2 hq.1 (by omega : (0 : Int) ≤ 5000)
  omega
theorem demL_range {n : Int} (hn : 1 ≤ n ∧ n ≤ 5000) {cs ps : List Int} (h : CP cs ps) : ∀ (k i : Nat) (b : Int), cs.length - i = k → i ≤ cs.length → 0 ≤ b → b ≤ demL n (cs.drop i) (ps.drop i) b ∧ demL n (cs.drop i) (ps.drop i) b ≤ b + 49995000 * (cs.length - i) := by
  intro k
  induction k with
  | zero =>
    intro i b hk hi hb
    have : i = cs.length := by omega
    subst this
    rw [List.drop_length]
    simp only [demL]
    omega
  | succ k ih =>
    intro i b hk hi hb
    have hi' : i < cs.length := by omega
    rw [drop_getD hi' 0, drop_getD (l := ps) (by rw [← h.len]; exact hi') 0, demL_cons]
    have h1 := h.c i hi'
    have h2 := h.p i (by rw [← h.len]; exact hi')
    have h3 := ceil_range (a := n) (b := ps.getD i 0) (by omega) h2.1
    have h4 := mulB (c := cs.getD i 0) (q := ceilM n (ps.getD i 0)) h1 (by omega)
    have := ih (i + 1) (b + cs.getD i 0 * ceilM n (ps.getD i 0)) (by omega) (by omega) (by omega)
    have e : ((cs.length : Int) - i) = ((cs.length : Int) - ((i + 1 : Nat) : Int)) + 1 := by omega
    rw [e, Int.mul_add]
    omega
theorem dem_range {n b : Int} (hn : 1 ≤ n ∧ n ≤ 5000) {cs ps : List Int} (h : CP cs ps) (hb : 0 ≤ b) : b ≤ demL n cs ps b ∧ demL n cs ps b ≤ b + 249975000 := by
  have := demL_range hn h cs.length 0 b (by omega) (by omega) hb
  have h5 := h.five
  simp only [List.drop_zero] at this
  omega
def busyF (cs ps : List Int) (b : Int) : Nat → Int → Int × Bool
  | 0, _ => (0, false)
  | f + 1, n => if n ≤ 5000 then (if demL n cs ps b ≤ n then (n, true) else busyF cs ps b f (demL n cs ps b)) else (0, false)
theorem busyF_succ {cs ps : List Int} {b : Int} {f : Nat} {n : Int} : busyF cs ps b (f + 1) n = if n ≤ 5000 then (if demL n cs ps b ≤ n then (n, true) else busyF cs ps b f (demL n cs ps b)) else (0, false) := rfl
def busyM (cs ps : List Int) (b : Int) : Int × Bool := busyF cs ps b 5002 1
@[reducible] def tupIB (n : Int) (b : Bool) : Ent := .tup [(false, [cI n]), (false, [.bool b])]
theorem c_spec_l09Demand (cs ps : List Int) (b n : Int) (h : CP cs ps) (hn : 1 ≤ n ∧ n ≤ 5000) (hb : 0 ≤ b ∧ b ≤ 2147483647) : TT n_spec_l09Demand [.one (.sl (.int .i64) cs), .one (.sl (.int .i64) ps), eI b, eI n] [] (eI (demL n cs ps b)) [] := by
  have h5 := h.five
  refine r_spec_l09Demand cs ps b n ⟨fun m s i => 0 ≤ i ∧ i ≤ cs.length ∧ m = (cs.length - i).toNat ∧ 0 ≤ s ∧ s ≤ 2147483647 + 49995000 * i ∧ demL n (cs.drop i.toNat) (ps.drop i.toNat) s = demL n cs ps b,
    ⟨_, rfl, by omega, by omega, rfl, by omega, by omega, rfl⟩, ?_⟩
  rintro m s i ⟨h0, h1, rfl, s0, s1, hv⟩
  refine ifP (fun hlt => ?_) (fun hge => ?_)
  · have hi : i.toNat < cs.length := by omega
    have hp : i.toNat < ps.length := by rw [← h.len]; exact hi
    have q1 := h.c _ hi
    have q2 := h.p _ hp
    rw [drop_getD hi 0, drop_getD (l := ps) hp 0, demL_cons] at hv
    revert hv q1 q2
    generalize cs.getD i.toNat 0 = c
    generalize ps.getD i.toNat 0 = p
    intro hv q1 q2
    have h3 := ceil_range (a := n) (b := p) (by omega) q2.1
    have h4 := mulB (c := c) (q := ceilM n p) q1 (by omega)
    have hl := h.len
    refine ⟨⟨h0, by omega⟩, ⟨h0, by omega⟩, by omega, ⟨h0, hlt⟩, ?_⟩
    rw [ceil_eq (by omega) q2, w64 (x := ceilM n p * c) (by rw [Int.mul_comm]; omega), Int.mul_comm (ceilM n p) c, w64 (x := s + _) (by omega), w64 (x := i + 1) (by omega)]
    exact ⟨_, by omega, rfl, by omega, by omega, rfl, by omega, by omega, by rw [toNat_succ h0]; exact hv⟩
  · have e : i.toNat = cs.length := by omega
    rw [e, List.drop_length] at hv
    simp only [demL] at hv
    rw [hv]; exact ⟨rfl, rfl⟩
theorem c_spec_l09Busy (cs ps : List Int) (b : Int) (h : CP cs ps) (hb : 0 ≤ b ∧ b ≤ 2147483647) : TT n_spec_l09Busy [.one (.sl (.int .i64) cs), .one (.sl (.int .i64) ps), eI b] [] (tupIB (busyM cs ps b).1 (busyM cs ps b).2) [] := by
  have d1 := dem_range (n := 1) (b := b) (by omega) h hb.1
  refine r_spec_l09Busy cs ps b ⟨_, c_spec_l09Demand cs ps b 1 h (by omega) hb, fun m n => 1 ≤ n ∧ n ≤ 3000000000 ∧ 5001 - n < (m : Int) ∧ busyF cs ps b m n = busyM cs ps b, ?_, ?_⟩
  · by_cases hd : 1 > demL 1 cs ps b
    · rw [if_pos hd]
      exact ⟨5002, rfl, by omega, by omega, by omega, rfl⟩
    · rw [if_neg hd]
      by_cases he : demL 1 cs ps b ≤ 1
      · have : demL 1 cs ps b = 1 := by omega
        rw [this]
        exact ⟨5002, rfl, by omega, by omega, by omega, rfl⟩
      · refine ⟨5001, rfl, by omega, by omega, by omega, ?_⟩
        have e := @busyF_succ cs ps b 5001 1
        rw [if_pos (by omega), if_neg he] at e
        exact e.symm
  · rintro m n ⟨h0, h1, h2, hv⟩
    refine ifP (fun hn => ?_) (fun hn => ?_)
    · have dn := dem_range (n := n) (b := b) (by omega) h hb.1
      refine ⟨_, c_spec_l09Demand cs ps b n h (by omega) hb, ?_⟩
      obtain ⟨f, rfl⟩ : ∃ f, m = f + 1 := ⟨m - 1, by omega⟩
      rw [busyF_succ, if_pos hn] at hv
      refine ifP (fun hle => ?_) (fun hgt => ?_)
      · rw [if_pos hle] at hv
        rw [← hv]; exact ⟨rfl, rfl⟩
      · rw [if_neg hgt] at hv
        exact ⟨f, by omega, rfl, by omega, by omega, by omega, hv⟩
    · cases m with
      | zero => rw [← hv]; exact ⟨rfl, rfl⟩
      | succ f =>
        rw [busyF_succ, if_neg hn] at hv
        rw [← hv]; exact ⟨rfl, rfl⟩
theorem c_impl_busy (cs ps : List Int) (b : Int) (h : CP cs ps) (hb : 0 ≤ b ∧ b ≤ 2147483647) : TT n_impl_busy [.one (.sl (.int .i64) cs), .one (.sl (.int .i64) ps), eI b] [] (tupIB (busyM cs ps b).1 (busyM cs ps b).2) [] := by
  have h5 := h.five
  refine r_impl_busy cs ps b ⟨fun m n => 1 ≤ n ∧ n ≤ 3000000000 ∧ 5001 - n < (m : Int) ∧ busyF cs ps b m n = busyM cs ps b, ⟨5002, rfl, by omega, by omega, by omega, rfl⟩, ?_⟩
  rintro m n ⟨h0, h1, h2, hv⟩
  refine ifP (fun hn => ?_) (fun hn => ?_)
  · have dn := dem_range (n := n) (b := b) (by omega) h hb.1
    refine ⟨fun n' s => n' = n ∧ s = demL n cs ps b, ?_, ?_⟩
    · refine ⟨fun m n' s i => 0 ≤ i ∧ i ≤ cs.length ∧ m = (cs.length - i).toNat ∧ n' = n ∧ 0 ≤ s ∧ s ≤ 2147483647 + 49995000 * i ∧ demL n (cs.drop i.toNat) (ps.drop i.toNat) s = demL n cs ps b,
        ⟨_, rfl, by omega, by omega, rfl, rfl, by omega, by omega, rfl⟩, ?_⟩
      rintro m n' s i ⟨i0, i1, rfl, rfl, s0, s1, hv'⟩
      refine ifP (fun hlt => ?_) (fun hge => ?_)
      · have hi : i.toNat < cs.length := by omega
        have hp : i.toNat < ps.length := by rw [← h.len]; exact hi
        have q1 := h.c _ hi
        have q2 := h.p _ hp
        rw [drop_getD hi 0, drop_getD (l := ps) hp 0, demL_cons] at hv'
        revert hv' q1 q2
        generalize cs.getD i.toNat 0 = c
        generalize ps.getD i.toNat 0 = p
        intro hv' q1 q2
        have h3 := ceil_range (a := n') (b := p) (by omega) q2.1
        have h4 := mulB (c := c) (q := ceilM n' p) q1 (by omega)
        have hl := h.len
        refine ⟨⟨i0, hlt⟩, ⟨i0, by omega⟩, _, c_impl_ceil _ _ (by omega) q2, ?_⟩
        rw [w64 (x := c * ceilM n' p) (by omega), w64 (x := s + _) (by omega), w64 (x := i + 1) (by omega)]
        exact ⟨_, by omega, rfl, by omega, by omega, rfl, rfl, by omega, by omega, by rw [toNat_succ i0]; exact hv'⟩
      · have e : i.toNat = cs.length := by omega
        rw [e, List.drop_length] at hv'
        simp only [demL] at hv'
        exact ⟨rfl, rfl, hv'⟩
    · rintro n' s ⟨rfl, rfl⟩
      obtain ⟨f, rfl⟩ : ∃ f, m = f + 1 := ⟨m - 1, by omega⟩
      rw [busyF_succ, if_pos hn] at hv
      refine ifP (fun hle => ?_) (fun hgt => ?_)
      · rw [if_pos hle] at hv
        rw [← hv]; exact ⟨rfl, rfl⟩
      · rw [if_neg hgt] at hv
        exact ⟨f, by omega, rfl, by omega, by omega, by omega, hv⟩
  · cases m with
    | zero => rw [← hv]; exact ⟨rfl, rfl⟩
    | succ f =>
      rw [busyF_succ, if_neg hn] at hv
      rw [← hv]; exact ⟨rfl, rfl⟩
end Go.Ry
