/- The law of events. No condition. -/
import Derived.Test.YtnnhfeopdhnlhaaPOffer
import Derived.Test.YtnnhfeopdhnlhaaPRis2
set_option linter.unusedVariables false
set_option linter.unusedSimpArgs false
namespace Go.Ry
variable {C : Calls_}

/-! ### a task that is drawn -/
def K_task (C : Calls_) : Prop := ∀ (n : Int) (l : List Int) (p s : Int), isB l → l.length ≤ 1048576 → (0 ≤ p ∧ p ≤ 1099511627776) ∧ (0 ≤ s ∧ s < 2147483648) → 1 ≤ n ∧ n ≤ 6 →
  ∃ k pe d pin qu r p' s' : Int, (taskOK k pe d pin qu r = true ∧ 40 ≤ pe ∧ pe ≤ 239) ∧ (p ≤ p' ∧ p' ≤ p + 21) ∧ (0 ≤ s' ∧ s' < 2147483648) ∧
    C n_spec_l00Src_task [.one (.ptrB 0 0), .one (.int .i64 n)] [srcO l p s] (tskC k pe d pin qu r) [srcO l p' s']
theorem p_spec_l00Src_task (hx : K_next C) (n : Int) (l : List Int) (p s : Int) (hl : isB l) (hn : l.length ≤ 1048576) (h : (0 ≤ p ∧ p ≤ 1099511627776) ∧ (0 ≤ s ∧ s < 2147483648)) (h6 : 1 ≤ n ∧ n ≤ 6) :
    ∃ k pe d pin qu r p' s' : Int, (taskOK k pe d pin qu r = true ∧ 40 ≤ pe ∧ pe ≤ 239) ∧ (p ≤ p' ∧ p' ≤ p + 21) ∧ (0 ≤ s' ∧ s' < 2147483648) ∧
      v_spec_l00Src_task C (fun x os => x = tskC k pe d pin qu r ∧ os = [srcO l p' s']) n l p s := by
  obtain ⟨h1, h2⟩ := h
  obtain ⟨v1, p1, s1, a1, b1, d1, c1⟩ := hx 2 l p s hl hn ⟨by omega, h2⟩ (by omega)
  obtain ⟨v2, p2, s2, a2, b2, d2, c2⟩ := hx 200 l p1 s1 hl hn ⟨by omega, d1⟩ (by omega)
  obtain ⟨v3, p3, s3, a3, b3, d3, c3⟩ := hx n l p2 s2 hl hn ⟨by omega, d2⟩ (by omega)
  obtain ⟨v4, p4, s4, a4, b4, d4, c4⟩ := hx 30 l p3 s3 hl hn ⟨by omega, d3⟩ (by omega)
  have hr : 0 ≤ v3 ∧ v3 ≤ 5 := by
    rcases Int.lt_or_le 1 n with h | h
    · have := a3.2.1 h; omega
    · have := a3.2.2 h; omega
  by_cases e : v1 = 1
  · obtain ⟨v5, p5, s5, a5, b5, d5, c5⟩ := hx 3 l p4 s4 hl hn ⟨by omega, d4⟩ (by omega)
    obtain ⟨v6, p6, s6, a6, b6, d6, c6⟩ := hx 3 l p5 s5 hl hn ⟨by omega, d5⟩ (by omega)
    obtain ⟨v7, p7, s7, a7, b7, d7, c7⟩ := hx 300 l p6 s6 hl hn ⟨by omega, d6⟩ (by omega)
    refine ⟨2, 40 + v2, 40 + v7, v5, 1 + v6, v3, p7, s7, ⟨by simp [taskOK, inR]; omega, by omega, by omega⟩, by omega, d7, ?_⟩
    subst e
    have w : ∀ x : Int, 0 ≤ x ∧ x ≤ 1000 → IntKind.wrap .i64 x = x := fun x hx => w64 (by omega)
    unfold v_spec_l00Src_task
    refine ⟨_, _, _, _, c1, rfl, _, _, _, _, c2, rfl, _, _, _, _, c3, rfl, ?_⟩
    rw [w (1 + 1) (by omega), w (40 + v2) (by omega)]
    first
      | refine ⟨rfl, _, _, _, _, c4, rfl, rfl, ifB_t rfl ?_⟩
      | refine ⟨rfl, rfl, _, _, _, _, c4, rfl, rfl, ifB_t rfl ?_⟩
      | refine ⟨rfl, rfl, rfl, _, _, _, _, c4, rfl, rfl, ifB_t rfl ?_⟩
      | refine ⟨rfl, rfl, rfl, rfl, _, _, _, _, c4, rfl, rfl, ifB_t rfl ?_⟩
      | refine ⟨rfl, rfl, rfl, rfl, rfl, _, _, _, _, c4, rfl, rfl, ifB_t rfl ?_⟩
      | refine ⟨rfl, rfl, rfl, rfl, rfl, _, _, _, _, c4, rfl, rfl, rfl, ifB_t rfl ?_⟩
      | refine ⟨rfl, rfl, rfl, rfl, rfl, _, _, _, _, c4, rfl, rfl, rfl, rfl, ifB_t rfl ?_⟩
    have w6 := w (1 + v6) (by omega)
    have w7 := w (40 + v7) (by omega)
    first
      | refine ⟨_, _, _, _, c5, rfl, rfl, _, _, _, _, c6, rfl, rfl, _, _, _, _, c7, rfl, ?_⟩
      | refine ⟨_, _, _, _, c5, rfl, rfl, _, _, _, _, c6, rfl, _, _, _, _, c7, rfl, ?_⟩
      | refine ⟨_, _, _, _, c5, rfl, rfl, _, _, _, _, c6, rfl, rfl, rfl, _, _, _, _, c7, rfl, ?_⟩
    rw [w6, w7]
    first
      | exact ⟨rfl, rfl⟩
      | exact ⟨rfl, rfl, rfl⟩
      | exact ⟨rfl, rfl, rfl, rfl⟩
      | exact ⟨rfl, rfl, rfl, rfl, rfl⟩
      | exact ⟨rfl, rfl, rfl, rfl, rfl, rfl⟩
  · have e0 : v1 = 0 := by omega
    subst e0
    refine ⟨1, 40 + v2, 40 + v2 - v4, 0, 1, v3, p4, s4, ⟨by simp [taskOK, inR]; omega, by omega, by omega⟩, by omega, d4, ?_⟩
    have w : ∀ x : Int, 0 ≤ x ∧ x ≤ 1000 → IntKind.wrap .i64 x = x := fun x hx => w64 (by omega)
    unfold v_spec_l00Src_task
    refine ⟨_, _, _, _, c1, rfl, _, _, _, _, c2, rfl, _, _, _, _, c3, rfl, ?_⟩
    rw [w (1 + 0) (by omega), w (40 + v2) (by omega)]
    have w4 := w (40 + v2 - v4) (by omega)
    first
      | refine ⟨rfl, _, _, _, _, c4, rfl, rfl, ifB_f rfl ?_⟩
      | refine ⟨rfl, rfl, _, _, _, _, c4, rfl, rfl, ifB_f rfl ?_⟩
      | refine ⟨rfl, rfl, rfl, _, _, _, _, c4, rfl, rfl, ifB_f rfl ?_⟩
      | refine ⟨rfl, rfl, rfl, rfl, _, _, _, _, c4, rfl, rfl, ifB_f rfl ?_⟩
      | refine ⟨rfl, rfl, rfl, rfl, rfl, _, _, _, _, c4, rfl, rfl, ifB_f rfl ?_⟩
      | refine ⟨rfl, rfl, rfl, rfl, rfl, _, _, _, _, c4, rfl, rfl, rfl, ifB_f rfl ?_⟩
      | refine ⟨rfl, rfl, rfl, rfl, rfl, _, _, _, _, c4, rfl, rfl, rfl, rfl, ifB_f rfl ?_⟩
    rw [w4]
    first
      | exact ⟨rfl, rfl⟩
      | exact ⟨rfl, rfl, rfl⟩
      | exact ⟨rfl, rfl, rfl, rfl⟩
      | exact ⟨rfl, rfl, rfl, rfl, rfl⟩
      | exact ⟨rfl, rfl, rfl, rfl, rfl, rfl⟩
def K_TaskDrawn (C : Calls_) : Prop := ∀ l : List Int, isB l → l.length ≤ 1048576 → ∃ k pe d pin qu r : Int, (taskOK k pe d pin qu r = true ∧ 40 ≤ pe ∧ pe ≤ 239) ∧ C n_spec_TaskDrawn [.one (.sl (.int .u8) l)] [] (tskC k pe d pin qu r) []
theorem p_spec_TaskDrawn (hs : K_Source C) (ht : K_task C) (l : List Int) (hl : isB l) (hn : l.length ≤ 1048576) :
    ∃ k pe d pin qu r : Int, (taskOK k pe d pin qu r = true ∧ 40 ≤ pe ∧ pe ≤ 239) ∧ v_spec_TaskDrawn C (fun x os => x = tskC k pe d pin qu r ∧ os = []) l := by
  obtain ⟨k, pe, d, pin, qu, r, p', s', h1, h2, h3, c⟩ := ht 3 l 0 ((l.length : Int) % 1000) hl hn ⟨by omega, by omega⟩ (by omega)
  refine ⟨k, pe, d, pin, qu, r, h1, _, _, _, hs l hn, rfl, _, _, _, _, _, _, _, _, _, c, rfl, ?_⟩
  first
    | exact ⟨rfl, rfl⟩
    | exact ⟨rfl, rfl, rfl⟩
    | exact ⟨rfl, rfl, rfl, rfl⟩
    | exact ⟨rfl, rfl, rfl, rfl, rfl, rfl, rfl, rfl⟩
    | exact ⟨rfl, rfl, rfl, rfl, rfl, rfl, rfl, rfl, rfl⟩
def K_NewSource (C : Calls_) : Prop := C n_impl_NewSource [] [] (srcN (-1) 0 0 0 0 0) []
theorem p_impl_NewSource : v_impl_NewSource C (fun x os => x = srcN (-1) 0 0 0 0 0 ∧ os = []) := by
  first | exact ⟨rfl, rfl⟩ | exact ⟨rfl, rfl, rfl⟩ | exact ⟨rfl, rfl, rfl, rfl⟩ | exact ⟨rfl, rfl, rfl, rfl, rfl⟩

/-! ### what holds between two events -/
structure EvI (k p d pin qu r now i : Int) (s : SrcV) (inp out : List Int) : Prop where
  ok : s.ok k p d pin qu r = true
  cut : inp = out ++ s.q
  dn : s.dn = 0
  dr : s.dr = 0
  th : 0 ≤ s.th
  lo : 0 ≤ s.lo
  sum : s.ar = s.th + s.lo + inp.length
  top : s.ar ≤ i
  last : (inp = [] ∧ s.la = -1) ∨ (inp ≠ [] ∧ 0 ≤ s.la ∧ inp.getD (inp.length - 1) 0 = s.la)
  at0 : 0 ≤ i
  at1 : i ≤ 24
  now0 : 0 ≤ now
  now1 : now ≤ 239 * i
  le : s.la ≤ now
theorem ok_iff {s : SrcV} {k p d pin qu r : Int} : s.ok k p d pin qu r = true ↔ timesOK [s.ar, s.dn, s.th, s.lo, s.dr] = true ∧ taskOK k p d pin qu r = true ∧ (-1 ≤ s.la ∧ s.la ≤ 2147483647) ∧ (s.q.length : Int) ≤ qu ∧ ∀ i, i < s.q.length → queueAt s.q s.la i = true := by
  simp only [SrcV.ok, sourceOK, Bool.and_eq_true, decide_eq_true_eq, queueOK, List.all_eq_true, List.mem_range]
  constructor
  · rintro ⟨a, b, c, d, e⟩; exact ⟨a, b, inR_t c, d, e⟩
  · rintro ⟨a, b, c, d, e⟩; exact ⟨a, b, by simp [inR]; omega, d, e⟩
theorem times_of {a b c d e : Int} (h : (0 ≤ a ∧ a ≤ 2147483647) ∧ (0 ≤ b ∧ b ≤ 2147483647) ∧ (0 ≤ c ∧ c ≤ 2147483647) ∧ (0 ≤ d ∧ d ≤ 2147483647) ∧ (0 ≤ e ∧ e ≤ 2147483647)) : timesOK [a, b, c, d, e] = true := by
  refine all_t fun i hi => ?_
  have : i = 0 ∨ i = 1 ∨ i = 2 ∨ i = 3 ∨ i = 4 := by simp at hi; omega
  rcases this with rfl | rfl | rfl | rfl | rfl <;> simp [inR] <;> omega
theorem inR_of {n lo hi : Int} (h : lo ≤ n ∧ n ≤ hi) : inR n lo hi = true := by simpa [inR] using h
theorem queueAt_le {q : List Int} {la : Int} {i : Nat} (h : queueAt q la i = true) : 0 ≤ q.getD i 0 ∧ q.getD i 0 ≤ la := by
  simp only [queueAt, Bool.and_eq_true] at h
  exact inR_t h.1

section
variable {k p d pin qu r now i : Int} {s : SrcV} {inp out : List Int}
theorem EvI.later (h : EvI k p d pin qu r now i s inp out) (n : Int) (hn : 0 ≤ n ∧ n ≤ 239) (h24 : i < 24) : EvI k p d pin qu r (now + n) (i + 1) s inp out := by
  have := h.at0; have := h.now0; have := h.now1; have := h.le; have := h.top
  exact ⟨h.ok, h.cut, h.dn, h.dr, h.th, h.lo, h.sum, by omega, h.last, by omega, by omega, by omega, by omega, by omega⟩
theorem EvI.take {x : Int} {q : List Int} (h : EvI k p d pin qu r now i s inp out) (hq : s.q = x :: q) : EvI k p d pin qu r now i ⟨s.la, s.ar, s.dn, s.th, s.lo, s.dr, q⟩ inp (out ++ [x]) := by
  refine ⟨?_, by rw [h.cut, hq]; simp, h.dn, h.dr, h.th, h.lo, h.sum, h.top, h.last, h.at0, h.at1, h.now0, h.now1, h.le⟩
  obtain ⟨a, b, c, e, f⟩ := ok_iff.1 h.ok
  rw [hq] at e f
  refine ok_iff.2 ⟨a, b, c, by simp at e ⊢; omega, fun j hj => ?_⟩
  have := f (j + 1) (by simpa using hj)
  simp only [queueAt, Bool.and_eq_true, Bool.or_eq_true, decide_eq_true_eq, beq_iff_eq] at this ⊢
  refine ⟨by simpa using this.1, ?_⟩
  rcases Nat.eq_zero_or_pos j with h0 | h0
  · exact .inl h0
  · right
    rcases this.2 with h' | h'
    · omega
    · obtain ⟨j, rfl⟩ : ∃ j', j = j' + 1 := ⟨j - 1, by omega⟩
      simpa using h'
theorem oneN_lt {n : Int} (h : 0 ≤ n ∧ n ≤ 24) : oneN n = n + 1 := by
  unfold oneN capN
  rw [w64 (by omega), if_neg (by omega)]
theorem EvI.off (h : EvI k p d pin qu r now i s inp out) (n : Int) (hn : 0 ≤ n ∧ n ≤ 239) (h24 : i < 24) :
    EvI k p d pin qu r (now + n) (i + 1) (offer1 s p qu (now + n)).1 (if (offer1 s p qu (now + n)).2 = 0 then inp ++ [now + n] else inp) out ∧
      ((offer1 s p qu (now + n)).2 = 0 → inp ≠ [] → p ≤ now + n - s.la) := by
  have at0 := h.at0; have now0 := h.now0; have now1 := h.now1; have le := h.le; have top := h.top; have th := h.th; have lo := h.lo; have sum := h.sum
  obtain ⟨a, b, c, e, f⟩ := ok_iff.1 h.ok
  have o1 : oneN s.ar = s.ar + 1 := oneN_lt (by omega)
  have hdn := h.dn; have hdr := h.dr
  unfold offer1
  by_cases c1 : offT s.la p (now + n) = true
  · have o2 : oneN s.th = s.th + 1 := oneN_lt (by omega)
    rw [if_pos c1, if_neg (by simp)]
    refine ⟨⟨ok_iff.2 ⟨times_of ?_, b, c, e, f⟩, h.cut, h.dn, h.dr, ?_, h.lo, ?_, ?_, h.last, by omega, by omega, by omega, by omega, ?_⟩, fun h => by simp at h⟩ <;> simp only [o1, o2] <;> omega
  rw [if_neg c1]
  by_cases c2 : (s.q.length : Int) = qu
  · have o2 : oneN s.lo = s.lo + 1 := oneN_lt (by omega)
    rw [if_pos c2, if_neg (by simp)]
    refine ⟨⟨ok_iff.2 ⟨times_of ?_, b, c, e, f⟩, h.cut, h.dn, h.dr, h.th, ?_, ?_, ?_, h.last, by omega, by omega, by omega, by omega, ?_⟩, fun h => by simp at h⟩ <;> simp only [o1, o2] <;> omega
  rw [if_neg c2, if_pos rfl]
  have hp : 1 ≤ p := (ok_parts h.ok).2.1.1
  have hlt : s.la < now + n := by
    simp only [offT, Bool.and_eq_true, decide_eq_true_eq, not_and] at c1
    by_cases h0 : 0 ≤ s.la
    · have := c1 h0; omega
    · omega
  refine ⟨⟨ok_iff.2 ⟨times_of ?_, b, ?_, ?_, fun j hj => ?_⟩, ?_, h.dn, h.dr, h.th, h.lo, ?_, ?_, .inr ⟨by simp, ?_, ?_⟩, by omega, by omega, by omega, by omega, Int.le_refl _⟩, fun _ hne => ?_⟩
  · simp only [o1]; omega
  · simp only; omega
  · simp only [List.length_append, List.length_cons, List.length_nil]; omega
  · simp only [List.length_append, List.length_cons, List.length_nil] at hj
    rcases Nat.lt_or_ge j s.q.length with hj' | hj'
    · have g := f j hj'
      have g2 := queueAt_le g
      simp only [queueAt, Bool.and_eq_true, Bool.or_eq_true, decide_eq_true_eq, beq_iff_eq] at g ⊢
      have e1 : ∀ j', j' < s.q.length → (s.q ++ [now + n]).getD j' 0 = s.q.getD j' 0 := fun j' h' => by
        rw [List.getD_eq_getElem?_getD, List.getElem?_append_left h', ← List.getD_eq_getElem?_getD]
      rw [e1 j hj', e1 (j - 1) (by omega)]
      exact ⟨inR_of ⟨g2.1, by omega⟩, g.2⟩
    · have hj2 : j = s.q.length := by omega
      subst hj2
      have e1 : (s.q ++ [now + n]).getD s.q.length 0 = now + n := by
        rw [List.getD_eq_getElem?_getD, List.getElem?_append_right (Nat.le_refl _)]; simp
      simp only [queueAt, Bool.and_eq_true, Bool.or_eq_true, decide_eq_true_eq, beq_iff_eq]
      rw [e1]
      refine ⟨by simp [inR]; omega, ?_⟩
      rcases Nat.eq_zero_or_pos s.q.length with h0 | h0
      · exact .inl h0
      · right
        have g := queueAt_le (f (s.q.length - 1) (by omega))
        rw [List.getD_eq_getElem?_getD, List.getElem?_append_left (by omega), ← List.getD_eq_getElem?_getD]
        omega
  · rw [h.cut, List.append_assoc]
  · simp only [o1, List.length_append, List.length_cons, List.length_nil]; omega
  · simp only [o1]; omega
  · simp only; omega
  · rw [List.getD_eq_getElem?_getD, List.length_append, List.length_cons, List.length_nil, List.getElem?_append_right (by omega), show inp.length + (0 + 1) - 1 - inp.length = 0 by omega]; rfl
  · rcases h.last with ⟨h0, _⟩ | ⟨_, h1, _⟩
    · exact absurd h0 hne
    · simp only [offT, Bool.and_eq_true, decide_eq_true_eq, not_and] at c1
      have := c1 h1
      omega
end
theorem srcV_eta (s : SrcV) : (⟨s.la, s.ar, s.dn, s.th, s.lo, s.dr, s.q⟩ : SrcV) = s := rfl
def K_FnEvents (C : Calls_) : Prop := ∀ l1 l2 : List Int, isB l1 → isB l2 → C n_laws_FnEvents [.one (.sl (.int .u8) l1), .one (.sl (.int .u8) l2)] [] (.one (.bool true)) []
section
variable (htd : K_TaskDrawn C) (hns : K_NewSource C) (hat : K_at C) (hti : K_implTake C) (ho1 : K_Offer n_impl_OfferEvent C) (ho2 : K_Offer n_spec_OfferEvent C) (hba : K_BalanceOf n_impl_BalanceOf C) (hsa : K_sameInts C) (hso : K_SourceOK n_impl_SourceOK C)
include htd hns hat hti ho1 ho2 hba hsa hso
theorem p_laws_FnEvents (l1 l2 : List Int) (hb1 : isB l1) (hb2 : isB l2) : v_laws_FnEvents C (fun r os => r = .one (.bool true) ∧ os = []) l1 l2 := by
  refine ifP (fun _ => ⟨rfl, rfl⟩) (fun h1 => ifP (fun _ => ⟨rfl, rfl⟩) (fun h2 => ?_))
  have hn1 : l1.length ≤ 1048576 := by omega
  have hn2 : l2.length ≤ 1048576 := by omega
  obtain ⟨k, p, d, pin, qu, r, ⟨htk, hp1, hp2⟩, ctd⟩ := htd l1 hb1 hn1
  have start : EvI k p d pin qu r 0 0 ⟨-1, 0, 0, 0, 0, 0, []⟩ [] [] := by
    refine ⟨ok_iff.2 ⟨times_of (by simp), htk, by simp, ?_, fun i hi => by simp at hi⟩, rfl, rfl, rfl, by simp, by simp, rfl, by simp, .inl ⟨rfl, rfl⟩, by omega, by omega, by omega, by omega, by simp⟩
    simp only [taskOK, Bool.and_eq_true] at htk
    have := inR_t htk.2.2.1
    simp; omega
  have hwrap : ∀ x : Int, 0 ≤ x ∧ x ≤ 1000000 → IntKind.wrap .i64 x = x := fun x hx => w64 (by omega)
  refine ⟨_, _, _, _, _, _, ctd, rfl, ?_⟩
  first
    | refine ⟨_, _, _, _, _, _, hns, rfl, ?_⟩
    | refine ⟨rfl, _, _, _, _, _, _, hns, rfl, ?_⟩
    | refine ⟨rfl, rfl, _, _, _, _, _, _, hns, rfl, ?_⟩
  first
    | refine ⟨fun a1 a2 a3 a4 a5 a6 la ar dn th lo dr i j inp out row => ∃ now, (k = a1 ∧ p = a2 ∧ d = a3 ∧ pin = a4 ∧ qu = a5 ∧ r = a6) ∧ EvI k p d pin qu r now 24 ⟨la, ar, dn, th, lo, dr, (row.take j).drop i⟩ inp out, ?_, ?_⟩
    | refine ⟨rfl, fun a1 a2 a3 a4 a5 a6 la ar dn th lo dr i j inp out row => ∃ now, (k = a1 ∧ p = a2 ∧ d = a3 ∧ pin = a4 ∧ qu = a5 ∧ r = a6) ∧ EvI k p d pin qu r now 24 ⟨la, ar, dn, th, lo, dr, (row.take j).drop i⟩ inp out, ?_, ?_⟩
    | refine ⟨rfl, rfl, fun a1 a2 a3 a4 a5 a6 la ar dn th lo dr i j inp out row => ∃ now, (k = a1 ∧ p = a2 ∧ d = a3 ∧ pin = a4 ∧ qu = a5 ∧ r = a6) ∧ EvI k p d pin qu r now 24 ⟨la, ar, dn, th, lo, dr, (row.take j).drop i⟩ inp out, ?_, ?_⟩
  · refine ⟨fun m b1 b2 now t a1 a2 a3 a4 a5 a6 la ar dn th lo dr i j inp out row => (l1 = b1 ∧ l2 = b2) ∧ (k = a1 ∧ p = a2 ∧ d = a3 ∧ pin = a4 ∧ qu = a5 ∧ r = a6) ∧ m = (24 - t).toNat ∧ EvI k p d pin qu r now t ⟨la, ar, dn, th, lo, dr, (row.take j).drop i⟩ inp out, ⟨_, ⟨rfl, rfl⟩, ⟨rfl, rfl, rfl, rfl, rfl, rfl⟩, rfl, start⟩, ?_⟩
    rintro m _ _ now t _ _ _ _ _ _ la ar dn th lo dr i j inp out row ⟨⟨rfl, rfl⟩, ⟨rfl, rfl, rfl, rfl, rfl, rfl⟩, rfl, hI⟩
    generalize hq : (row.take j).drop i = q at hI
    have at0 := hI.at0; have at1 := hI.at1; have now0 := hI.now0; have now1 := hI.now1; have hle := hI.le; have hcut := hI.cut
    have hok := hI.ok
    have hparts := ok_parts hok
    have hok' : sourceOK la ar dn th lo dr q k p d pin qu r = true := hok
    simp only at hle hcut hparts
    have hql : q.length ≤ 4 := by omega
    have hil : (inp.length : Int) ≤ 24 := by have := hI.sum; have := hI.top; have := hI.th; have := hI.lo; simp only at *; omega
    refine ifP (fun hlt => ?_) (fun hge => ?_)
    · obtain ⟨n, n0, n1, _, cn⟩ := hat l2 t p hb2 (by omega) hn2
      have n1 := n1 (by omega)
      obtain ⟨c, c0, c1, _, cc⟩ := hat l1 t 3 hb1 (by omega) hn1
      refine ⟨_, cn, rfl, _, cc, rfl, ?_⟩
      rw [hwrap (now + n) (by omega), hwrap (t + 1) (by omega)]
      refine ifE (fun _ => ?_) (fun _ => ?_)
      · have ct := hti la ar dn th lo dr q k p d pin qu r (by omega)
        rw [hok'] at ct
        have hmid := mid (takeP true q) (takeQ true q) []
        refine ⟨_, _, _, _, _, _, _, _, _, _, _, ct, rfl, ?_⟩
        have hI2 := hI.later n (by omega) hlt
        have next : ∀ (inp' out' : List Int), EvI k p d pin qu r (now + n) (t + 1) ⟨takeZ true la, takeZ true ar, takeZ true dn, takeZ true th, takeZ true lo, takeZ true dr, takeQ true q⟩ inp' out' →
            ∃ m18 : Nat, m18 < (24 - t).toNat ∧ (l1 = l1 ∧ l2 = l2) ∧ (k = k ∧ p = p ∧ d = d ∧ pin = pin ∧ qu = qu ∧ r = r) ∧ m18 = (24 - (t + 1)).toNat ∧
              EvI k p d pin qu r (now + n) (t + 1) ⟨takeZ true la, takeZ true ar, takeZ true dn, takeZ true th, takeZ true lo, takeZ true dr, ((takeP true q ++ takeQ true q ++ []).take ((takeP true q).length + (takeQ true q).length)).drop (takeP true q).length⟩ inp' out' := by
          intro inp' out' he
          rw [hmid]
          exact ⟨_, by omega, ⟨rfl, rfl⟩, ⟨rfl, rfl, rfl, rfl, rfl, rfl⟩, rfl, he⟩
        cases q with
        | nil =>
          have e : takeE true ([] : List Int) = 5 := rfl
          have hl : decide ((out.length : Int) < (inp.length : Int)) = false := by rw [hcut]; simp
          rw [e, hl]
          have nx := next inp out hI2
          first
            | exact ifB_f (by decide) (ifB_f (by decide) nx)
            | exact ⟨rfl, ifB_f (by decide) (ifB_f (by decide) nx)⟩
            | exact ⟨rfl, ifB_f (by decide) (ifB_f (by decide) ⟨rfl, nx⟩)⟩
            | exact ⟨rfl, rfl, ifB_f (by decide) (ifB_f (by decide) nx)⟩
            | exact ⟨rfl, ifB_f (by decide) (ifB_f (by decide) ⟨rfl, rfl, nx⟩)⟩
        | cons x q =>
          have e : takeE true (x :: q) = 0 := rfl
          have hl : decide ((out.length : Int) < (inp.length : Int)) = true := by rw [hcut]; simp; omega
          rw [e, hl]
          have nx := next inp (out ++ [x]) (hI2.take rfl)
          have sz : (out.length + [takeZ true ((x :: q).getD 0 0)].length) * 8 ≤ 140737488355328 := by
            rw [hcut] at hil; simp at hil ⊢; omega
          first
            | exact ifB_f (by decide) (ifB_t (by decide) ⟨sz, nx⟩)
            | exact ⟨rfl, ifB_f (by decide) (ifB_t (by decide) ⟨sz, nx⟩)⟩
            | exact ⟨rfl, ifB_f (by decide) (ifB_t (by decide) ⟨sz, rfl, nx⟩)⟩
            | exact ⟨rfl, ifB_f (by decide) (ifB_t (by decide) ⟨sz, rfl, rfl, nx⟩)⟩
            | exact ⟨rfl, rfl, ifB_f (by decide) (ifB_t (by decide) ⟨sz, nx⟩)⟩
      · have k1 := ho1 ⟨la, ar, dn, th, lo, dr, q⟩ k p d pin qu r (now + n) (by simp only; omega)
        have k2 := ho2 ⟨la, ar, dn, th, lo, dr, q⟩ k p d pin qu r (now + n) (by simp only; omega)
        have hno : nowOK la (now + n) = true := by
          simp only [nowOK, inR, Bool.and_eq_true, decide_eq_true_eq]
          split <;> omega
        have hof : offerF ⟨la, ar, dn, th, lo, dr, q⟩ k p d pin qu r (now + n) = offer1 ⟨la, ar, dn, th, lo, dr, q⟩ p qu (now + n) := by
          unfold offerF
          rw [if_pos hok, if_pos hno]
        rw [hof] at k1 k2
        obtain ⟨hN, hG⟩ := hI.off n (by omega) hlt
        have hcode : (offer1 ⟨la, ar, dn, th, lo, dr, q⟩ p qu (now + n)).2 = 18 ∨ (offer1 ⟨la, ar, dn, th, lo, dr, q⟩ p qu (now + n)).2 = 7 ∨ (offer1 ⟨la, ar, dn, th, lo, dr, q⟩ p qu (now + n)).2 = 0 := by
          unfold offer1; split; exact .inl rfl; split; exact .inr (.inl rfl); exact .inr (.inr rfl)
        revert k1 k2 hN hG hcode
        generalize offer1 ⟨la, ar, dn, th, lo, dr, q⟩ p qu (now + n) = o
        obtain ⟨⟨xa, xb, xc, xd, xe, xf, xq⟩, xn⟩ := o
        intro k1 k2 hN hG hcode
        simp only at k1 k2 hN hG hcode
        have next : ∀ inp' : List Int, EvI k p d pin qu r (now + n) (t + 1) ⟨xa, xb, xc, xd, xe, xf, xq⟩ inp' out →
            ∃ m18 : Nat, m18 < (24 - t).toNat ∧ (l1 = l1 ∧ l2 = l2) ∧ (k = k ∧ p = p ∧ d = d ∧ pin = pin ∧ qu = qu ∧ r = r) ∧ m18 = (24 - (t + 1)).toNat ∧
              EvI k p d pin qu r (now + n) (t + 1) ⟨xa, xb, xc, xd, xe, xf, (xq.take (xq.length)).drop 0⟩ inp' out := by
          intro inp' he
          rw [List.take_length, List.drop_zero]
          exact ⟨_, by omega, ⟨rfl, rfl⟩, ⟨rfl, rfl, rfl, rfl, rfl, rfl⟩, rfl, he⟩
        have sz : (inp.length + [now + n].length) * 8 ≤ 140737488355328 := by simp only [List.length_cons, List.length_nil]; omega
        have main : ifB (xn == (0 : Int)) (ifB (decide ((inp.length : Int) > (0 : Int))) ((0 ≤ (IntKind.wrap .i64 ((inp.length : Int) - (1 : Int))) ∧ (IntKind.wrap .i64 ((inp.length : Int) - (1 : Int))) < inp.length) ∧
              ifB (decide ((IntKind.wrap .i64 ((now + n) - (inp.getD (Int.toNat (IntKind.wrap .i64 ((inp.length : Int) - (1 : Int)))) (0 : Int)))) < p)) False True) True) True := by
          refine ifE (fun h0 => ifP (fun hpos => ?_) (fun _ => trivial)) (fun _ => trivial)
          have hne : inp ≠ [] := fun e => by rw [e] at hpos; simp at hpos
          have hg := hG h0 hne
          rcases hI.last with ⟨h', _⟩ | ⟨_, hla, hlast⟩
          · exact absurd h' hne
          · simp only at hlast hla
            rw [w64 (x := (inp.length : Int) - 1) (by omega), show ((inp.length : Int) - 1).toNat = inp.length - 1 by omega, hlast, w64 (by omega)]
            exact ⟨⟨by omega, by omega⟩, ifP_f (by omega) trivial⟩
        refine ⟨_, _, _, _, _, _, _, _, k1, rfl, ?_⟩
        first
          | refine ⟨_, _, _, _, _, _, _, _, k2, rfl, ?_⟩
          | refine ⟨rfl, _, _, _, _, _, _, _, _, k2, rfl, ?_⟩
          | refine ⟨rfl, rfl, _, _, _, _, _, _, _, _, k2, rfl, ?_⟩
        have fin : ∀ (h0 : xn = 0), ∃ m18 : Nat, m18 < (24 - t).toNat ∧ (l1 = l1 ∧ l2 = l2) ∧ (k = k ∧ p = p ∧ d = d ∧ pin = pin ∧ qu = qu ∧ r = r) ∧ m18 = (24 - (t + 1)).toNat ∧
              EvI k p d pin qu r (now + n) (t + 1) ⟨xa, xb, xc, xd, xe, xf, (xq.take (xq.length)).drop 0⟩ (inp ++ [now + n]) out := fun h0 => next _ (by rw [if_pos h0] at hN; exact hN)
        have fin2 : ∀ (h0 : xn ≠ 0), ∃ m18 : Nat, m18 < (24 - t).toNat ∧ (l1 = l1 ∧ l2 = l2) ∧ (k = k ∧ p = p ∧ d = d ∧ pin = pin ∧ qu = qu ∧ r = r) ∧ m18 = (24 - (t + 1)).toNat ∧
              EvI k p d pin qu r (now + n) (t + 1) ⟨xa, xb, xc, xd, xe, xf, (xq.take (xq.length)).drop 0⟩ inp out := fun h0 => next _ (by rw [if_neg h0] at hN; exact hN)
        have step : ∀ {A B : Prop}, (A → xn = 0 → B) → True := fun _ => trivial
        have hpos : xn = 0 → (inp.length : Int) > 0 → (0 ≤ (IntKind.wrap .i64 ((inp.length : Int) - (1 : Int))) ∧ (IntKind.wrap .i64 ((inp.length : Int) - (1 : Int))) < inp.length) ∧ ¬ (IntKind.wrap .i64 ((now + n) - (inp.getD (Int.toNat (IntKind.wrap .i64 ((inp.length : Int) - (1 : Int)))) (0 : Int)))) < p := by
          intro h0 hpos
          have hne : inp ≠ [] := fun e => by rw [e] at hpos; simp at hpos
          have hg := hG h0 hne
          rcases hI.last with ⟨h', _⟩ | ⟨_, hla, hlast⟩
          · exact absurd h' hne
          · simp only at hlast hla
            rw [w64 (x := (inp.length : Int) - 1) (by omega), show ((inp.length : Int) - 1).toNat = inp.length - 1 by omega, hlast, w64 (by omega)]
            exact ⟨⟨by omega, by omega⟩, by omega⟩
        first
          | exact ifN_f rfl (ifN_f rfl (ifN_f rfl (ifN_f rfl (ifE (fun h0 => ifP (fun hp => ⟨(hpos h0 hp).1, ifP_f (hpos h0 hp).2 ⟨sz, fin h0⟩⟩) (fun _ => ⟨sz, fin h0⟩)) (fun h0 => fin2 h0)))))
          | exact ⟨rfl, ifN_f rfl (ifN_f rfl (ifN_f rfl (ifN_f rfl (ifE (fun h0 => ifP (fun hp => ⟨(hpos h0 hp).1, ifP_f (hpos h0 hp).2 ⟨sz, fin h0⟩⟩) (fun _ => ⟨sz, fin h0⟩)) (fun h0 => fin2 h0)))))⟩
          | exact ⟨rfl, ifN_f rfl (ifN_f rfl (ifN_f rfl (ifN_f rfl (ifE (fun h0 => ifP (fun hp => ⟨(hpos h0 hp).1, ifP_f (hpos h0 hp).2 ⟨sz, rfl, fin h0⟩⟩) (fun _ => ⟨sz, rfl, fin h0⟩)) (fun h0 => ⟨rfl, fin2 h0⟩)))))⟩
          | exact ⟨rfl, ifN_f rfl (ifN_f rfl (ifN_f rfl (ifN_f rfl (ifE (fun h0 => ifP (fun hp => ⟨(hpos h0 hp).1, ifP_f (hpos h0 hp).2 ⟨sz, rfl, rfl, fin h0⟩⟩) (fun _ => ⟨sz, rfl, rfl, fin h0⟩)) (fun h0 => ⟨rfl, rfl, fin2 h0⟩)))))⟩
    · have e24 : t = 24 := by omega
      subst e24
      exact ⟨now, ⟨rfl, rfl, rfl, rfl, rfl, rfl⟩, by rw [hq]; exact hI⟩
  · rintro _ _ _ _ _ _ la ar dn th lo dr i j inp out row ⟨now, ⟨rfl, rfl, rfl, rfl, rfl, rfl⟩, hI⟩
    generalize (row.take j).drop i = q at hI
    have hok : sourceOK la ar dn th lo dr q k p d pin qu r = true := hI.ok
    have hb := hba la ar dn th lo dr q k p d pin qu r
    rw [hok, if_pos rfl, if_pos rfl] at hb
    have hs := hso la ar dn th lo dr q k p d pin qu r
    rw [hok] at hs
    have hcut := hI.cut; have hsum := hI.sum; have htop := hI.top; have hth := hI.th; have hlo := hI.lo; have hdn := hI.dn; have hdr := hI.dr
    simp only at hcut hsum htop hth hlo hdn hdr
    have hlen : (inp.length : Int) = out.length + q.length := by rw [hcut]; simp
    have hbal : balance ar dn th lo dr q = out.length := by
      unfold balance
      rw [w64 (x := ar - dn) (by omega), w64 (x := ar - dn - th) (by omega), w64 (x := ar - dn - th - lo) (by omega), w64 (x := ar - dn - th - lo - dr) (by omega), w64 (by omega)]
      omega
    rw [hbal] at hb
    have hsm := hsa out (by omega)
    have e : (inp.take (Int.toNat (out.length : Int))).drop (Int.toNat 0) = out := by
      rw [hcut, Int.toNat_natCast, List.take_left' rfl]; rfl
    rw [e]
    exact ⟨_, _, hb, rfl, ifB_t rfl (ifB_t (by simp) ⟨rfl, ⟨by omega, by omega, by omega⟩, _, hsm, rfl, ifB_t rfl ⟨_, hs, rfl, rfl, rfl⟩⟩)⟩
end
end Go.Ry
