/- Bounds of an admitted program: the longest part, the cost, the bound, the deadline rise. Plain. No condition. -/
import Derived.Test.YtopchiaiefkehaaGreatPAdm1
set_option linter.unusedVariables false
set_option linter.unusedSimpArgs false
namespace Go.Ry
open Go.Proofs

/-! ### no part costs more than the whole -/
structure leS (a : Su) : Prop where
  ok : okS a
  n : a.2.1 ≤ a.1
  h : a.2.2.1 ≤ a.1
  l : a.2.2.2.1 ≤ a.1
  i : a.2.2.2.2.1 ≤ a.1
theorem plus_le {a b x y : Int} (ha : 0 ≤ a ∧ a ≤ 2147483647) (hb : 0 ≤ b ∧ b ≤ 2147483647) (hx : okN x) (hy : okN y) (h1 : x ≤ a) (h2 : y ≤ b) : plus x y ≤ plus a b := by
  unfold okN at hx hy
  unfold plus
  rw [if_neg (show ¬ (a = -1 ∨ b = -1) by omega)]
  split
  · split <;> omega
  · split <;> split <;> omega
theorem plus_ge1 {a b : Int} (ha : 0 ≤ a ∧ a ≤ 2147483647) (hb : 0 ≤ b ∧ b ≤ 2147483647) : a ≤ plus a b ∧ b ≤ plus a b := by
  unfold plus
  rw [if_neg (show ¬ (a = -1 ∨ b = -1) by omega)]
  split <;> omega
theorem one_le {n : Int} {b : Bool} (h : 0 ≤ n ∧ n ≤ 2147483647) : leS (one n b) := by
  refine ⟨one_ok h, ?_, ?_, ?_, ?_⟩ <;> (unfold one; cases b <;> simp <;> omega)
theorem beh_le {a b : Su} (ha : leS a) (hb : leS b) : leS (beh a b) := by
  have pa := ha.ok.t
  have pb := hb.ok.t
  have g := plus_ge1 pa pb
  have e1 := plus_le pa pb ha.ok.n hb.ok.n ha.n hb.n
  have e2 := plus_le pa pb ha.ok.n hb.ok.h ha.n hb.h
  have e3 := plus_le pa pb ha.ok.l hb.ok.n ha.l hb.n
  have e4 := plus_le pa pb ha.ok.l hb.ok.h ha.l hb.h
  have f1 := ha.h
  have f2 := hb.l
  have f3 := ha.i
  have f4 := hb.i
  refine ⟨beh_ok ha.ok hb.ok, ?_, ?_, ?_, ?_⟩ <;> (unfold beh; simp only; omega)
theorem eith_le {a b : Su} (ha : leS a) (hb : leS b) : leS (eith a b) := by
  obtain ⟨a0, a1, a2, a3, a4⟩ := ha
  obtain ⟨b0, b1, b2, b3, b4⟩ := hb
  refine ⟨eith_ok a0 b0, ?_, ?_, ?_, ?_⟩ <;> (unfold eith; simp only; omega)
theorem one0_le : leS one0 := one_le (by omega)
theorem tick_le : leS tick := one_le (by omega)
theorem rep_le {a : Su} (ha : leS a) : ∀ n, leS (rep a n)
  | 0 => one0_le
  | n + 1 => beh_le (rep_le ha n) ha
theorem jobM_le {a : Su} (ha : leS a) : leS (jobM a) := beh_le (beh_le tick_le ha) tick_le
def allLe (l : List Su) : Prop := ∀ x ∈ l, leS x
theorem allLe.at {l : List Su} (h : allLe l) {i : Nat} (hi : i < l.length) : leS (l.getD i ((0 : Int), ((0 : Int), ((0 : Int), ((0 : Int), ((0 : Int), ())))))) := by
  rw [List.getD_eq_getElem?_getD, List.getElem?_eq_getElem hi]; exact h _ (List.getElem_mem hi)
theorem sumM_le {code : List Ins} {known : List Su} (hc : CodeIn code known.length) (hk : allLe known) : ∀ (N : Nat) {i to : Nat} {out : Su}, to - i ≤ N → Seg code i to → leS out → leS (sumM code known i to out)
  | 0, i, to, out, hn, hs, ho => by rw [sumM_end (by omega)]; exact ho
  | N + 1, i, to, out, hn, hs, ho => by
    by_cases h : i < to
    · have h1 := beh_le ho (one_le (n := cost (insAt code i).1) (b := (insAt code i).1 == 25) (by have := cost_range (insAt code i).1; omega))
      have hl := hs.len
      by_cases h2 : (insAt code i).1 = 26
      · rw [sumM_call h h2]
        have := hc.call i (by omega) h2
        exact sumM_le hc hk N (by omega) (hs.step h (by omega) (by omega)).1 (beh_le h1 (hk.at (by omega)))
      by_cases h3 : (insAt code i).1 = 21
      · obtain ⟨o, e, hm⟩ := hs.meet h (.inl h3)
        have := hm.lt
        have := hm.hi
        by_cases h0 : 0 < o
        · have h4 : i < o ∧ o < e ∧ Seg code (i + 1) o ∧ Seg code (o + 1) e := by
            rcases hm.oth with h | h
            · omega
            · exact h
          rw [sumM_if h h3 hm h0]
          exact sumM_le hc hk N (by omega) hm.rest (beh_le h1 (eith_le (beh_le (sumM_le hc hk N (by omega) h4.2.2.1 one0_le) tick_le) (beh_le (sumM_le hc hk N (by omega) h4.2.2.2 one0_le) tick_le)))
        · have : o = 0 := by omega
          subst this
          rw [sumM_if0 h h3 hm]
          exact sumM_le hc hk N (by omega) hm.rest (beh_le h1 (eith_le (beh_le (sumM_le hc hk N (by omega) hm.body one0_le) tick_le) one0_le))
      by_cases h4 : (insAt code i).1 = 24
      · obtain ⟨o, e, hm⟩ := hs.meet h (.inr h4)
        have := hm.lt
        have := hm.hi
        rw [sumM_rep h h4 hm]
        exact sumM_le hc hk N (by omega) hm.rest (beh_le h1 (rep_le (beh_le (sumM_le hc hk N (by omega) hm.body one0_le) tick_le) _))
      · rw [sumM_plain h h2 h3 h4]
        exact sumM_le hc hk N (by omega) (hs.step h h3 h4).1 h1
    · rw [sumM_end h]; exact ho
theorem costs_le {rs : List Rou} (h : RousIn rs) : allLe (costsM rs) := by
  have : ∀ (n k : Nat) (acc : List Su), rs.length - k = n → k ≤ rs.length → acc.length = k → allLe acc → costsM rs = costsL (rs.drop k) acc → allLe (costsM rs) := by
    intro n
    induction n with
    | zero =>
      intro k acc hn hk ha hok he
      rw [List.drop_eq_nil_of_le (by omega)] at he
      rw [he]
      exact hok
    | succ n ih =>
      intro k acc hn hk ha hok he
      rw [drop_getD (by omega) (([] : List Ins), ())] at he
      refine ih (k + 1) _ (by omega) (by omega) (by simp [ha]) (fun x hx => ?_) he
      rcases List.mem_append.1 hx with hx | hx
      · exact hok x hx
      · simp only [List.mem_singleton] at hx
        subst hx
        have := h.code k (by omega)
        exact sumM_le (ha ▸ this.1) hok _ (Nat.le_refl _) this.2 one0_le
  exact this _ 0 [] rfl (by omega) rfl (fun x hx => by simp at hx) rfl
theorem longM_le {a : Su} (h : leS a) : longM a ≤ a.1 := by
  obtain ⟨h0, h1, h2, h3, h4⟩ := h
  unfold longM max2
  split <;> split <;> split <;> omega

/-! ### no task costs more than its bound -/
theorem busyF_fix {cs ps : List Int} {b : Int} : ∀ {f : Nat} {n : Int}, 1 ≤ n → (busyF cs ps b f n).2 = true → demL (busyF cs ps b f n).1 cs ps b ≤ (busyF cs ps b f n).1
  | 0, n, _, h => by simp [busyF] at h
  | f + 1, n, hn, h => by
    rw [busyF_succ] at h ⊢
    split
    · rename_i h5
      rw [if_pos h5] at h
      split
      · rename_i hd; exact hd
      · rename_i hd
        rw [if_neg hd] at h
        exact busyF_fix (by omega) h
    · rename_i h5
      rw [if_neg h5] at h
      simp at h
theorem demL_last {n : Int} (hn : 1 ≤ n) {c p : Int} (hc : 0 ≤ c) (hp : 1 ≤ p) : ∀ {cs ps : List Int} {b : Int}, cs.length = ps.length → (∀ x ∈ cs, 0 ≤ x) → (∀ q ∈ ps, 1 ≤ q) → 0 ≤ b → c ≤ demL n (cs ++ [c]) (ps ++ [p]) b
  | [], [], b, _, _, _, hb => by
    show c ≤ b + c * ceilM n p
    have h1 : 1 ≤ ceilM n p := by
      unfold ceilM
      exact Int.le_ediv_of_mul_le (by omega) (by omega)
    have := Int.mul_le_mul_of_nonneg_left h1 hc
    omega
  | [], _ :: _, _, h, _, _, _ => by simp at h
  | _ :: _, [], _, h, _, _, _ => by simp at h
  | x :: cs, q :: ps, b, h, h1, h2, hb => by
    rw [List.cons_append, List.cons_append, demL_cons]
    have hq := h2 q (by simp)
    have := (ceil_range (a := n) (b := q) (by omega) hq).1
    have := Int.mul_nonneg (h1 x (by simp)) this
    exact demL_last hn hc hp (by simpa using h) (fun y hy => h1 y (by simp [hy])) (fun y hy => h2 y (by simp [hy])) (by omega)
/-- As a bound is ahead of its search, and behind it. -/
def rawG (y : Bd) : Prop := 0 ≤ y.1 ∧ 0 ≤ y.2.2.1 ∧ y.2.1 ≤ y.1
def finG (y : Bd) : Prop := y.1 ≤ y.2.2.2.1 ∧ y.2.1 ≤ y.1
theorem bndG_fin : ∀ {l : List Bd} {ts : List Tsk} {cs ps : List Int} {acc : List Bd} {i : Int}, l.length = ts.length → cs.length = ps.length → (∀ x ∈ cs, 0 ≤ x) → (∀ q ∈ ps, 1 ≤ q) → (∀ y ∈ l, rawG y) → (∀ t ∈ ts, 1 ≤ t.2.1) → (∀ y ∈ acc, finG y) → (bndG l ts cs ps acc i).2.2 = true →
    ∀ y ∈ (bndG l ts cs ps acc i).1, finG y
  | [], ts, cs, ps, acc, i, _, _, _, _, _, _, ha, _ => ha
  | y :: l, [], _, _, _, _, h, _, _, _, _, _, _, _ => by simp at h
  | y :: l, t :: ts, cs, ps, acc, i, h, hl, h1, h2, h3, h4, ha, hb => by
    rw [bndG_cons] at hb ⊢
    split
    · rename_i g1
      rw [if_pos g1] at hb
      have hy := h3 y (by simp)
      have ht := h4 t (by simp)
      refine bndG_fin (l := l) (ts := ts) (by simpa using h) (by simp [hl]) (fun x hx => ?_) (fun x hx => ?_) (fun z hz => h3 z (by simp [hz])) (fun z hz => h4 z (by simp [hz])) (fun z hz => ?_) hb
      · rcases List.mem_append.1 hx with hx | hx
        · exact h1 x hx
        · rw [List.mem_singleton.1 hx]; exact hy.1
      · rcases List.mem_append.1 hx with hx | hx
        · exact h2 x hx
        · rw [List.mem_singleton.1 hx]; exact ht
      · rcases List.mem_append.1 hz with hz | hz
        · exact ha z hz
        · rw [List.mem_singleton.1 hz]
          refine ⟨?_, hy.2.2⟩
          have hr := busyM_range g1
          have hf := busyF_fix (by omega) g1
          exact Int.le_trans (demL_last hr.1 hy.1 ht hl h1 h2 hy.2.1) hf
    · rename_i g1
      rw [if_neg g1] at hb
      simp at hb
theorem accB_ge : ∀ {l : List Bd} {b : Int}, b ≤ accB l b
  | [], b => Int.le_refl _
  | y :: l, b => by
    rw [accB_cons]
    split
    · exact Int.le_trans (by omega) (accB_ge (l := l))
    · exact accB_ge
theorem blkL_raw : ∀ {l : List Bd}, (∀ y ∈ l, rawG y) → ∀ y ∈ blkL l, rawG y
  | [], _, y, hy => by simp [blkL] at hy
  | x :: l, h, y, hy => by
    have hx := h x (by simp)
    simp only [blkL, List.mem_cons] at hy
    rcases hy with rfl | hy
    · exact ⟨hx.1, Int.le_trans hx.2.1 accB_ge, hx.2.2⟩
    · exact blkL_raw (fun z hz => h z (by simp [hz])) y hy
theorem bndM_fin {ks : List Int} {rs : List Rou} {ts : List Tsk} {sf : List Bool} (hf : PrgFit ks rs ts sf) (h : (bndM (costsM rs) ts).2.2 = true) : ∀ y ∈ (bndM (costsM rs) ts).1, finG y := by
  have hc := costs_le hf.rous
  have hcl := (costs_all hf.rous).2
  unfold bndM at h ⊢
  split
  · rename_i h1
    rw [if_pos h1] at h
    simp at h
  · rename_i h1
    rw [if_neg h1] at h
    refine bndG_fin (by rw [blkL_len, rawL_len]) rfl (fun x hx => by cases hx) (fun x hx => by cases hx) (blkL_raw fun y hy => ?_) (fun t ht => ?_) (fun x hx => by cases hx) h
    · obtain ⟨t, ht, rfl⟩ := List.mem_map.1 hy
      have h2 := hf.hts t ht
      have h3 := tskOK_range h2.1
      have := jobM_le (hc.at (i := t.2.2.2.2.2.1.toNat) (by have := h2.2; omega))
      exact ⟨this.ok.t.1, Int.le_refl _, longM_le this⟩
    · exact (tskOK_range (hf.hts t ht).1).1.1

/-! ### no bound of an admitted program is above a deadline -/
theorem admC_dl : ∀ {l : List Bd} {ts : List Tsk} {i : Int}, (admC l ts i).2 = 0 → ∀ (k : Nat), k < l.length → k < ts.length → (l.getD k dBd).2.2.2.1 ≤ (ts.getD k dTsk).2.2.1
  | [], ts, i, _, k, hk, _ => by simp at hk
  | y :: l, [], i, _, k, _, hk => by simp at hk
  | y :: l, t :: ts, i, h, k, h1, h2 => by
    rw [admC_cons] at h
    split at h
    · cases h
    · rename_i g1
      split at h
      · cases h
      · match k with
        | 0 => show y.2.2.2.1 ≤ t.2.2.1; omega
        | k + 1 => exact admC_dl h k (by simpa using h1) (by simpa using h2)
theorem adm_fine {ks : List Int} {rs : List Rou} {ts : List Tsk} {sf : List Bool} (hf : PrgFit ks rs ts sf) (h : (admM (costsM rs) ts).2.2 = 0) : (bndM (costsM rs) ts).2.2 = true ∧ (bndM (costsM rs) ts).1.length = ts.length ∧
    ∀ k : Nat, k < ts.length → ((bndM (costsM rs) ts).1.getD k dBd).2.2.2.1 ≤ (ts.getD k dTsk).2.2.1 ∧ ((bndM (costsM rs) ts).1.getD k dBd).1 ≤ ((bndM (costsM rs) ts).1.getD k dBd).2.2.2.1 ∧ ((bndM (costsM rs) ts).1.getD k dBd).2.1 ≤ ((bndM (costsM rs) ts).1.getD k dBd).1 := by
  unfold admM at h
  split at h
  · cases h
  · rename_i g1
    have g1 : (bndM (costsM rs) ts).2.2 = true := by simpa using g1
    split at h
    · rename_i g2
      have hl := (bndM_ok g1).1
      refine ⟨g1, hl, fun k hk => ?_⟩
      have hm : (bndM (costsM rs) ts).1.getD k dBd ∈ (bndM (costsM rs) ts).1 := by
        rw [List.getD_eq_getElem?_getD, List.getElem?_eq_getElem (by omega)]; exact List.getElem_mem _
      exact ⟨admC_dl g2 k (by omega) hk, bndM_fin hf g1 _ hm⟩
    · rename_i g2; exact absurd h g2
end Go.Ry
