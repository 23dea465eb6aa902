/- Sources that are drawn. No condition. -/
import Derived.Test.YtmcgmmmbnidpnaaDoorPSrc1
import Derived.Test.YtmcgmmmbnidpnaaDoorPDrw1
import Derived.Test.YtmcgmmmbnidpnaaDoorPGen
set_option linter.unusedVariables false
set_option linter.unusedSimpArgs false
namespace Go.Ry
open Go.Proofs

theorem c_task (n : Int) (hn : 1 ≤ n ∧ n ≤ 6) (l : List Int) (p q : Int) (h : SrcOK l p q) (hp : p < 1099511600000) :
    ∃ k pe d pin qu r p' q' : Int, (taskOK k pe d pin qu r = true ∧ 40 ≤ pe ∧ pe ≤ 239) ∧ (p ≤ p' ∧ p' ≤ p + 21) ∧ SrcOK l p' q' ∧ TT n_spec_l00Src_task [.one (.ptrB 0 0), eI n] [srcO l p q] (tsk k pe d pin qu r) [srcO l p' q'] := by
  obtain ⟨v1, p1, q1, a1, b1, d1, c1⟩ := c_next 2 l p q h (by omega)
  obtain ⟨v2, p2, q2, a2, b2, d2, c2⟩ := c_next 200 l p1 q1 d1 (by omega)
  obtain ⟨v3, p3, q3, a3, b3, d3, c3⟩ := c_next n l p2 q2 d2 (by omega)
  obtain ⟨v4, p4, q4, a4, b4, d4, c4⟩ := c_next 30 l p3 q3 d3 (by omega)
  have w : ∀ x : Int, 0 ≤ x ∧ x ≤ 1000 → wI x = x := fun x hx => w64 (by omega)
  by_cases e : v1 = 1
  · obtain ⟨v5, p5, q5, a5, b5, d5, c5⟩ := c_next 3 l p4 q4 d4 (by omega)
    obtain ⟨v6, p6, q6, a6, b6, d6, c6⟩ := c_next 3 l p5 q5 d5 (by omega)
    obtain ⟨v7, p7, q7, a7, b7, d7, c7⟩ := c_next 300 l p6 q6 d6 (by omega)
    refine ⟨2, 40 + v2, 40 + v7, v5, 1 + v6, v3, p7, q7, ⟨?_, by omega, by omega⟩, by omega, d7, ?_⟩
    · simp [taskOK, within_iff]; omega
    · subst e
      refine r_spec_l00Src_task n l p q ⟨_, _, _, _, c1, _, _, _, _, c2, _, _, _, _, c3, _, _, _, _, c4, ifE_t (by rw [w (1 + 1) (by omega)]; rfl) ⟨_, _, _, _, c5, _, _, _, _, c6, _, _, _, _, c7, ?_⟩⟩
      rw [w (1 + 1) (by omega), w (40 + v2) (by omega), w (40 + v7) (by omega), w (1 + v6) (by omega)]
      exact ⟨rfl, rfl⟩
  · obtain rfl : v1 = 0 := by omega
    refine ⟨1, 40 + v2, 40 + v2 - v4, 0, 1, v3, p4, q4, ⟨?_, by omega, by omega⟩, by omega, d4, ?_⟩
    · simp [taskOK, within_iff]; omega
    · refine r_spec_l00Src_task n l p q ⟨_, _, _, _, c1, _, _, _, _, c2, _, _, _, _, c3, _, _, _, _, c4, ifE_f (by rw [w (1 + 0) (by omega)]; omega) ?_⟩
      rw [w (1 + 0) (by omega), w (40 + v2) (by omega), w (40 + v2 - v4) (by omega)]
      exact ⟨rfl, rfl⟩

/-! ### one release -/
structure Sv where
  la : Int
  ar : Int
  dn : Int
  th : Int
  lo : Int
  dr : Int
  q : List Int
@[reducible] def Sv.cs (s : Sv) : List Cell := [cI s.la, cI s.ar, cI s.dn, cI s.th, cI s.lo, cI s.dr, .sl tyInt s.q]
def Sv.ok (s : Sv) (k p d pin qu r : Int) : Bool := sourceOK s.la s.ar s.dn s.th s.lo s.dr s.q k p d pin qu r
def oneN (n : Int) : Int := if 2147483647 < n + 1 then 2147483647 else n + 1
theorem oneN_rng {n : Int} (h : 0 ≤ n ∧ n ≤ 2147483647) : 0 ≤ oneN n ∧ oneN n ≤ 2147483647 := by
  unfold oneN; split <;> omega
theorem c_spec_l10One (n : Int) (h : 0 ≤ n ∧ n ≤ 2147483647) : TT n_spec_l10One [eI n] [] (eI (oneN n)) [] :=
  r_spec_l10One n (by unfold v_spec_l10One; rw [w64 (x := n + 1) (by omega)]; exact ⟨rfl, rfl⟩)
def offM (s : Sv) (p qu now : Int) : Sv × Int :=
  if s.la ≥ 0 ∧ now - s.la < p then (⟨s.la, oneN s.ar, s.dn, oneN s.th, s.lo, s.dr, s.q⟩, 18)
  else if (s.q.length : Int) = qu then (⟨s.la, oneN s.ar, s.dn, s.th, oneN s.lo, s.dr, s.q⟩, 7)
  else (⟨now, oneN s.ar, s.dn, s.th, s.lo, s.dr, s.q ++ [now]⟩, 0)
theorem Sv.facts {s : Sv} {k p d pin qu r : Int} (h : s.ok k p d pin qu r = true) :
    taskOK k p d pin qu r = true ∧ (-1 ≤ s.la ∧ s.la ≤ 2147483647) ∧ (0 ≤ s.ar ∧ s.ar ≤ 2147483647) ∧ (0 ≤ s.dn ∧ s.dn ≤ 2147483647) ∧ (0 ≤ s.th ∧ s.th ≤ 2147483647) ∧ (0 ≤ s.lo ∧ s.lo ≤ 2147483647) ∧ (0 ≤ s.dr ∧ s.dr ≤ 2147483647) ∧ (s.q.length : Int) ≤ qu ∧ ∀ j, j < s.q.length → queueAt s.q s.la j = true := by
  simp only [Sv.ok, sourceOK, Bool.and_eq_true, decide_eq_true_eq, List.all_cons, List.all_nil, isTm, within_iff, queueOK, List.all_eq_true, List.mem_range] at h
  obtain ⟨h1, h2, ⟨h3, h4, h5, h6, h7, _⟩, h8, h9⟩ := h
  exact ⟨h1, h2, h3, h4, h5, h6, h7, h8, h9⟩
theorem Sv.made {s : Sv} {k p d pin qu r : Int} (h : taskOK k p d pin qu r = true ∧ (-1 ≤ s.la ∧ s.la ≤ 2147483647) ∧ (0 ≤ s.ar ∧ s.ar ≤ 2147483647) ∧ (0 ≤ s.dn ∧ s.dn ≤ 2147483647) ∧ (0 ≤ s.th ∧ s.th ≤ 2147483647) ∧ (0 ≤ s.lo ∧ s.lo ≤ 2147483647) ∧ (0 ≤ s.dr ∧ s.dr ≤ 2147483647) ∧ (s.q.length : Int) ≤ qu ∧ ∀ j, j < s.q.length → queueAt s.q s.la j = true) : s.ok k p d pin qu r = true := by
  simp only [Sv.ok, sourceOK, Bool.and_eq_true, decide_eq_true_eq, List.all_cons, List.all_nil, isTm, within_iff, queueOK, List.all_eq_true, List.mem_range]
  obtain ⟨h1, h2, h3, h4, h5, h6, h7, h8, h9⟩ := h
  exact ⟨h1, h2, ⟨h3, h4, h5, h6, h7, trivial⟩, h8, h9⟩
theorem queueAt_iff {q : List Int} {la : Int} {j : Nat} : queueAt q la j = true ↔ (0 ≤ q.getD j 0 ∧ q.getD j 0 ≤ la) ∧ (j = 0 ∨ q.getD (j - 1) 0 < q.getD j 0) := by
  simp [queueAt, within_iff]
theorem c_spec_l10Offer (s : Sv) (k p d pin qu r now : Int) (h : s.ok k p d pin qu r = true) (hn : 0 ≤ now ∧ now ≤ 2147483647) (hl : s.la ≤ now) :
    TT n_spec_l10Offer [.agg s.cs, tsk k p d pin qu r, eI now] [] (.tup [(true, (offM s p qu now).1.cs), (false, [cI (offM s p qu now).2])]) [] := by
  obtain ⟨h1, h2, h3, h4, h5, h6, h7, h8, h9⟩ := s.facts h
  obtain ⟨la, ar, dn, th, lo, dr, q⟩ := s
  simp only at h2 h3 h4 h5 h6 h7 h8 hl
  have hq := taskOK_q h1
  refine r_spec_l10Offer la ar dn th lo dr q k p d pin qu r now ⟨_, c_spec_l10One ar h3, fun b n => b = decide (la ≥ 0 ∧ now - la < p) ∧ n = oneN ar, ifP (fun h0 => ⟨rfl, rfl, ?_, rfl⟩) (fun h0 => ⟨rfl, rfl, ?_, rfl⟩), ?_⟩
  · rw [w64 (x := now - la) (by omega)]; simp [h0]
  · simp [show ¬ la ≥ 0 by omega]
  rintro b n ⟨rfl, rfl⟩
  refine ifB_cases (fun hb => ?_) (fun hb => ?_)
  · have hb := of_decide_eq_true hb
    have e : offM ⟨la, ar, dn, th, lo, dr, q⟩ p qu now = (⟨la, oneN ar, dn, oneN th, lo, dr, q⟩, 18) := if_pos hb
    rw [e]
    exact ⟨_, c_spec_l10One th h5, rfl, rfl⟩
  have hb := of_decide_eq_false hb
  refine ifE (fun he => ?_) (fun he => ?_)
  · have e : offM ⟨la, ar, dn, th, lo, dr, q⟩ p qu now = (⟨la, oneN ar, dn, th, oneN lo, dr, q⟩, 7) := (if_neg hb).trans (if_pos he)
    rw [e]
    exact ⟨_, c_spec_l10One lo h6, rfl, rfl⟩
  · have e : offM ⟨la, ar, dn, th, lo, dr, q⟩ p qu now = (⟨now, oneN ar, dn, th, lo, dr, q ++ [now]⟩, 0) := (if_neg hb).trans (if_neg he)
    rw [e]
    refine ⟨?_, ?_, ?_, ?_⟩
    · simp only [List.length_nil]; omega
    · simp only [List.length_append, List.length_nil, List.length_cons]; omega
    · simp
    · rfl
theorem off_ok {s : Sv} {k p d pin qu r now : Int} (h : s.ok k p d pin qu r = true) (hn : 0 ≤ now ∧ now ≤ 2147483647) (hl : s.la ≤ now) :
    (offM s p qu now).1.ok k p d pin qu r = true ∧ (offM s p qu now).1.la ≤ now ∧ (offM s p qu now).1.dn = s.dn ∧ (offM s p qu now).1.dr = s.dr := by
  obtain ⟨h1, h2, h3, h4, h5, h6, h7, h8, h9⟩ := s.facts h
  have o1 := oneN_rng h3; have o2 := oneN_rng h5; have o3 := oneN_rng h6
  unfold offM
  split
  · exact ⟨Sv.made ⟨h1, h2, o1, h4, o2, h6, h7, h8, h9⟩, hl, rfl, rfl⟩
  split
  · exact ⟨Sv.made ⟨h1, h2, o1, h4, h5, o3, h7, h8, h9⟩, hl, rfl, rfl⟩
  rename_i g1 g2
  have hp : 1 ≤ p := by
    simp only [taskOK, Bool.and_eq_true, within_iff] at h1; exact h1.1.1
  have hlt : s.la < now := by
    by_cases h0 : s.la ≥ 0
    · have : ¬ now - s.la < p := fun hx => g1 ⟨h0, hx⟩
      omega
    · omega
  refine ⟨Sv.made ⟨h1, ⟨by show -1 ≤ now; omega, hn.2⟩, o1, h4, h5, h6, h7, ?_, fun j hj => ?_⟩, Int.le_refl _, rfl, rfl⟩
  · simp only [List.length_append, List.length_cons, List.length_nil]; omega
  · simp only [List.length_append, List.length_cons, List.length_nil] at hj
    rw [queueAt_iff]
    have e1 : ∀ j', j' < s.q.length → (s.q ++ [now]).getD j' 0 = s.q.getD j' 0 := fun j' h' => by
      rw [List.getD_eq_getElem?_getD, List.getElem?_append_left h', ← List.getD_eq_getElem?_getD]
    rcases Nat.lt_or_ge j s.q.length with hj' | hj'
    · have g := queueAt_iff.1 (h9 j hj')
      rw [e1 j hj', e1 (j - 1) (by omega)]
      exact ⟨⟨g.1.1, by show _ ≤ now; omega⟩, g.2⟩
    · have hj2 : j = s.q.length := by omega
      subst hj2
      have e2 : (s.q ++ [now]).getD s.q.length 0 = now := by
        rw [List.getD_eq_getElem?_getD, List.getElem?_append_right (Nat.le_refl _)]; simp
      rw [e2]
      refine ⟨⟨hn.1, Int.le_refl _⟩, ?_⟩
      rcases Nat.eq_zero_or_pos s.q.length with h0 | h0
      · exact .inl h0
      · right
        have g := queueAt_iff.1 (h9 (s.q.length - 1) (by omega))
        rw [e1 _ (by omega)]
        omega
@[reducible] def takM (s : Sv) : Sv := ⟨s.la, s.ar, s.dn + 1, s.th, s.lo, s.dr, s.q.drop 1⟩
theorem c_spec_l10Take (la ar dn th lo dr : Int) (q : List Int) (h0 : 0 < q.length) (h4 : q.length ≤ 1048576) :
    TT n_spec_l10Take [srcE la ar dn th lo dr q] [] (.tup [(true, [cI la, cI ar, cI dn, cI th, cI lo, cI dr, .row 0]), (false, [cI (q.getD 0 0)])]) [.row t_int tyInt (q.drop 1)] := by
  refine r_spec_l10Take la ar dn th lo dr q ⟨⟨by omega, by omega⟩, ⟨by omega, by omega, by omega⟩, ?_, ?_, ?_⟩
  · simp only [List.length_nil, List.length_drop, List.length_take]; omega
  · rfl
  · rw [Int.toNat_natCast, List.take_of_length_le (Nat.le_refl _)]; rfl
theorem tak_ok {s : Sv} {k p d pin qu r : Int} (h : s.ok k p d pin qu r = true) (hd : s.dn < 2147483647) (h0 : 0 < s.q.length) : (takM s).ok k p d pin qu r = true := by
  obtain ⟨h1, h2, h3, h4, h5, h6, h7, h8, h9⟩ := s.facts h
  refine Sv.made ⟨h1, h2, h3, ⟨by show 0 ≤ s.dn + 1; omega, by show s.dn + 1 ≤ 2147483647; omega⟩, h5, h6, h7, ?_, fun j hj => ?_⟩
  · simp only [takM, List.length_drop]; omega
  · simp only [takM, List.length_drop] at hj ⊢
    have g := queueAt_iff.1 (h9 (j + 1) (by omega))
    have e : ∀ i, (s.q.drop 1).getD i 0 = s.q.getD (i + 1) 0 := fun i => by
      simp [List.getD_eq_getElem?_getD, List.getElem?_drop, Nat.add_comm]
    rw [queueAt_iff, e, e]
    refine ⟨g.1, ?_⟩
    rcases Nat.eq_zero_or_pos j with h0 | h0
    · exact .inl h0
    · right
      rcases g.2 with g2 | g2
      · omega
      · rw [show j - 1 + 1 = j by omega]; simpa using g2

/-! ### a source that is drawn -/
structure DrSt where
  now : Int
  cnt : Int
  p : Int
  sd : Int
  s : Sv
section
variable (l : List Int) (k pe d pin qu r : Int)
structure DrInv (m : Nat) (x : DrSt) : Prop where
  hm : m = x.cnt.toNat
  c0 : 0 ≤ x.cnt
  c7 : x.cnt ≤ 7
  src : SrcOK l x.p x.sd
  hp : x.p ≤ 200 + 10 * (7 - x.cnt)
  ok : x.s.ok k pe d pin qu r = true
  la : x.s.la ≤ x.now
  n0 : 0 ≤ x.now
  n1 : x.now ≤ 20 + 360 * (7 - x.cnt)
  dn : x.s.dn + x.cnt ≤ 7
  dr : x.s.dr = 0
def DrStep (x y : DrSt) : Prop := x.cnt > 0 ∧ ∃ n p1 q1, (0 ≤ n ∧ n ≤ 360) ∧ TT n_spec_l00Src_next [.one (.ptrB 0 0), eI (pe + pe / 2 + 1)] [srcO l x.p x.sd] (eI n) [srcO l p1 q1] ∧ y.now = x.now + n ∧ y.cnt = x.cnt - 1 ∧
  ((0 < (offM x.s pe qu x.now).1.q.length ∧ ∃ b, TT n_spec_l00Src_chance [.one (.ptrB 0 0), eI 3] [srcO l p1 q1] (eB b) [srcO l y.p y.sd] ∧ y.s = if b = true then takM (offM x.s pe qu x.now).1 else (offM x.s pe qu x.now).1) ∨
    ((offM x.s pe qu x.now).1.q.length = 0 ∧ y.p = p1 ∧ y.sd = q1 ∧ y.s = (offM x.s pe qu x.now).1))
def DrDone (x : DrSt) : Prop := x.cnt = 0
theorem dr_go (hpe : 40 ≤ pe ∧ pe ≤ 239) : ∀ m x, DrInv l k pe d pin qu r m x → DrDone x ∨ ∃ m' y, m' < m ∧ DrInv l k pe d pin qu r m' y ∧ DrStep l pe qu x y := by
  intro m x h
  by_cases h0 : x.cnt = 0
  · exact .inl h0
  right
  have c0 := h.c0; have c7 := h.c7; have hp := h.hp; have n0 := h.n0; have n1 := h.n1; have hdn := h.dn; have hla := h.la
  obtain ⟨n, p1, q1, a1, a2, a3, a4⟩ := c_next (pe + pe / 2 + 1) l x.p x.sd h.src (by omega)
  obtain ⟨o1, o2, o3, o4⟩ := off_ok (now := x.now) h.ok ⟨n0, by omega⟩ hla
  by_cases hq : 0 < (offM x.s pe qu x.now).1.q.length
  · obtain ⟨b, p2, q2, b1, b2, b3⟩ := c_chance 3 (by omega) l p1 q1 a3 (by omega)
    refine ⟨(x.cnt - 1).toNat, ⟨x.now + n, x.cnt - 1, p2, q2, if b = true then takM (offM x.s pe qu x.now).1 else (offM x.s pe qu x.now).1⟩, ?_, ⟨rfl, by show 0 ≤ x.cnt - 1; omega, by show x.cnt - 1 ≤ 7; omega, b2, by show p2 ≤ 200 + 10 * (7 - (x.cnt - 1)); omega, ?_, ?_, by show 0 ≤ x.now + n; omega, by show x.now + n ≤ 20 + 360 * (7 - (x.cnt - 1)); omega, ?_, ?_⟩, by omega, n, p1, q1, ⟨by omega, by omega⟩, a4, rfl, rfl, .inl ⟨hq, b, b3, rfl⟩⟩
    · rw [h.hm]; omega
    · cases b
      · exact o1
      · exact tak_ok o1 (by omega) hq
    · cases b
      · show (offM x.s pe qu x.now).1.la ≤ x.now + n; omega
      · show (offM x.s pe qu x.now).1.la ≤ x.now + n; omega
    · cases b
      · show (offM x.s pe qu x.now).1.dn + (x.cnt - 1) ≤ 7; omega
      · show (offM x.s pe qu x.now).1.dn + 1 + (x.cnt - 1) ≤ 7; omega
    · cases b
      · exact o4.trans h.dr
      · exact o4.trans h.dr
  · refine ⟨(x.cnt - 1).toNat, ⟨x.now + n, x.cnt - 1, p1, q1, (offM x.s pe qu x.now).1⟩, ?_, ⟨rfl, by show 0 ≤ x.cnt - 1; omega, by show x.cnt - 1 ≤ 7; omega, a3, by show p1 ≤ 200 + 10 * (7 - (x.cnt - 1)); omega, o1, by show (offM x.s pe qu x.now).1.la ≤ x.now + n; omega, by show 0 ≤ x.now + n; omega, by show x.now + n ≤ 20 + 360 * (7 - (x.cnt - 1)); omega, by show (offM x.s pe qu x.now).1.dn + (x.cnt - 1) ≤ 7; omega, o4.trans h.dr⟩, by omega, n, p1, q1, ⟨by omega, by omega⟩, a4, rfl, rfl, .inr ⟨by omega, rfl, rfl, rfl⟩⟩
    rw [h.hm]; omega
end
theorem c_drSource (l : List Int) (p q : Int) (k pe d pin qu r : Int) (h : SrcOK l p q) (hp : p ≤ 100) (ht : taskOK k pe d pin qu r = true) (hpe : 40 ≤ pe ∧ pe ≤ 239) :
    ∃ (s : Sv) (now p' q' : Int), s.ok k pe d pin qu r = true ∧ s.dr = 0 ∧ TT n_spec_l00Src_source [.one (.ptrB 0 0), tsk k pe d pin qu r] [srcO l p q] (.tup [(true, s.cs), (false, [cI now])]) [srcO l p' q'] := by
  obtain ⟨v1, p1, q1, a1, b1, d1, c1⟩ := c_next 20 l p q h (by omega)
  obtain ⟨v2, p2, q2, a2, b2, d2, c2⟩ := c_next 8 l p1 q1 d1 (by omega)
  have i0 : DrInv l k pe d pin qu r v2.toNat ⟨v1, v2, p2, q2, ⟨-1, 0, 0, 0, 0, 0, []⟩⟩ := by
    refine ⟨rfl, by show 0 ≤ v2; omega, by show v2 ≤ 7; omega, d2, by show p2 ≤ 200 + 10 * (7 - v2); omega, ?_, by show (-1 : Int) ≤ v1; omega, by show 0 ≤ v1; omega, by show v1 ≤ 20 + 360 * (7 - v2); omega, by show 0 + v2 ≤ 7; omega, rfl⟩
    have hq := taskOK_q ht
    refine Sv.made ⟨ht, ?_, ?_, ?_, ?_, ?_, ?_, ?_, fun j hj => ?_⟩
    all_goals (first | (show (-1 : Int) ≤ -1 ∧ (-1 : Int) ≤ 2147483647; omega) | (show (0 : Int) ≤ 0 ∧ (0 : Int) ≤ 2147483647; omega) | (show ((0 : Nat) : Int) ≤ qu; omega) | (exact absurd hj (Nat.not_lt_zero _)))
  obtain ⟨fin, hr⟩ := Runs.go (dr_go l k pe d pin qu r hpe) v2.toNat _ i0
  obtain ⟨hdone, m', hfin⟩ := hr.fin
  have hnew : TT n_spec_NewSource [] [] (.agg [cI (-1), cI 0, cI 0, cI 0, cI 0, cI 0, .row 0]) [.row t_int tyInt []] := r_spec_NewSource ⟨rfl, rfl⟩
  refine ⟨fin.s, fin.now, fin.p, fin.sd, hfin.ok, hfin.dr, ?_⟩
  refine r_spec_l00Src_source k pe d pin qu r l p q ⟨_, _, _, _, _, _, _, hnew, _, _, _, _, c1, _, _, _, _, c2, fun m a1 a2 l' a3 a4 b1 b2 b3 b4 b5 b6 qq => l = l' ∧ Runs (DrInv l k pe d pin qu r) (DrStep l pe qu) DrDone m ⟨a1, a2, a3, a4, ⟨b1, b2, b3, b4, b5, b6, qq⟩⟩ fin, ⟨_, rfl, rfl, hr⟩, ?_⟩
  rintro m a1 a2 _ a3 a4 b1 b2 b3 b4 b5 b6 qq ⟨rfl, hrun⟩
  cases hrun with
  | done h1 h2 =>
    have h2 : a2 = 0 := h2
    exact ifP_f (by omega) ⟨rfl, rfl⟩
  | @step _ _ m' y _ h1 hlt hst hrest =>
    obtain ⟨hc, n, p1, q1, hn, tn, e1, e2, hor⟩ := hst
    have hc : a2 > 0 := hc
    have n0 : 0 ≤ a1 := h1.n0
    have n1 : a1 ≤ 20 + 360 * (7 - a2) := h1.n1
    have hla : b1 ≤ a1 := h1.la
    have hok : (⟨b1, b2, b3, b4, b5, b6, qq⟩ : Sv).ok k pe d pin qu r = true := h1.ok
    have c7 : a2 ≤ 7 := h1.c7
    obtain ⟨o1, o2, o3, o4⟩ := off_ok (now := a1) hok ⟨n0, by omega⟩ hla
    obtain ⟨-, -, -, od, -, -, -, oq, -⟩ := Sv.facts o1
    have hq := taskOK_q ht
    have hoff := c_spec_l10Offer ⟨b1, b2, b3, b4, b5, b6, qq⟩ k pe d pin qu r a1 hok ⟨n0, by omega⟩ hla
    have hdn : b3 + a2 ≤ 7 := h1.dn
    obtain ⟨y1, y2, y3, y4, ys⟩ := y
    simp only at e1 e2 hor tn
    revert o1 o2 o3 o4 oq od hoff hor
    generalize (offM ⟨b1, b2, b3, b4, b5, b6, qq⟩ pe qu a1).2 = code
    generalize (offM ⟨b1, b2, b3, b4, b5, b6, qq⟩ pe qu a1).1 = S
    intro o1 o2 o3 o4 oq od hoff hor
    obtain ⟨sla, sar, sdn, sth, slo, sdr, sq⟩ := S
    refine ifP_t hc ⟨_, _, _, _, _, _, _, _, hoff, by decide, n, l, p1, q1, ?_, ?_⟩
    · rw [show Int.tdiv pe 2 = pe / 2 from Int.tdiv_eq_ediv_of_nonneg (by omega), w64 (x := pe / 2) (by omega), w64 (x := pe + pe / 2) (by omega), w64 (x := pe + pe / 2 + 1) (by omega)]
      exact tn
    rw [w64 (x := a1 + n) (by omega)]
    simp only at oq od o3 hor
    rcases hor with ⟨g1, b, g2, g3⟩ | ⟨g1, g2, g3, g4⟩
    · refine ⟨fun c1 c2 bb l' c3 c4 d1 d2 d3 d4 d5 d6 dq => a1 + n = c1 ∧ a2 = c2 ∧ b = bb ∧ l = l' ∧ y3 = c3 ∧ y4 = c4 ∧ sla = d1 ∧ sar = d2 ∧ sdn = d3 ∧ sth = d4 ∧ slo = d5 ∧ sdr = d6 ∧ sq = dq, ifP_t (show (sq.length : Int) > 0 by omega) ⟨_, _, _, _, g2, rfl, rfl, rfl, rfl, rfl, rfl, rfl, rfl, rfl, rfl, rfl, rfl, rfl, rfl⟩, ?_⟩
      rintro _ _ _ _ _ _ _ _ _ _ _ _ _ ⟨rfl, rfl, rfl, rfl, rfl, rfl, rfl, rfl, rfl, rfl, rfl, rfl, rfl⟩
      rw [w64 (x := a2 - 1) (by omega)]
      refine ifB_cases (fun hb => ?_) (fun hb => ?_)
      · rw [if_pos hb] at g3
        refine ⟨_, _, _, _, _, _, _, _, c_spec_l10Take sla sar sdn sth slo sdr sq g1 (by omega), m', hlt, rfl, rfl, ?_⟩
        rw [w64 (x := sdn + 1) (by omega)]
        rw [e1, e2, g3] at hrest
        exact hrest
      · rw [if_neg (by simp [hb])] at g3
        refine ⟨m', hlt, rfl, rfl, ?_⟩
        rw [e1, e2, g3] at hrest
        exact hrest
    · refine ⟨fun c1 c2 bb l' c3 c4 d1 d2 d3 d4 d5 d6 dq => a1 + n = c1 ∧ a2 = c2 ∧ false = bb ∧ l = l' ∧ y3 = c3 ∧ y4 = c4 ∧ sla = d1 ∧ sar = d2 ∧ sdn = d3 ∧ sth = d4 ∧ slo = d5 ∧ sdr = d6 ∧ sq = dq, ifP_f (show ¬ (sq.length : Int) > 0 by omega) ⟨rfl, rfl, rfl, rfl, rfl, g2, g3, rfl, rfl, rfl, rfl, rfl, rfl, rfl⟩, ?_⟩
      rintro _ _ _ _ _ _ _ _ _ _ _ _ _ ⟨rfl, rfl, rfl, rfl, rfl, rfl, rfl, rfl, rfl, rfl, rfl, rfl, rfl⟩
      rw [w64 (x := a2 - 1) (by omega)]
      refine ifB_f rfl ⟨m', hlt, rfl, rfl, ?_⟩
      rw [e1, e2, g4] at hrest
      exact hrest
theorem c_SourceDrawn (l : List Int) (hl : l.length ≤ 1048576) (hb : ∀ n ∈ l, 0 ≤ n ∧ n ≤ 255) :
    ∃ (s : Sv) (k p d pin qu r now : Int), s.ok k p d pin qu r = true ∧ s.dr = 0 ∧ TT n_spec_SourceDrawn [.one (.sl u8s l)] [] (.tup [(true, s.cs), (true, [cI k, cI p, cI d, cI pin, cI qu, cI r]), (false, [cI now])]) [] := by
  obtain ⟨q0, h1, h2⟩ := c_source l hl hb
  obtain ⟨k, p, d, pin, qu, r, p1, q1, ⟨t1, t2, t3⟩, b1, d1, c1⟩ := c_task 3 (by omega) l 0 q0 h1 (by omega)
  obtain ⟨s, now, p2, q2, s1, s2, s3⟩ := c_drSource l p1 q1 k p d pin qu r d1 (by omega) t1 ⟨t2, t3⟩
  exact ⟨s, k, p, d, pin, qu, r, now, s1, s2, r_spec_SourceDrawn l ⟨_, _, _, h2, _, _, _, _, _, _, _, _, _, c1, _, _, _, _, _, _, _, _, _, _, _, s3, rfl, rfl⟩⟩
end Go.Ry
