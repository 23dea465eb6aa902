/- What a code costs. No condition. -/
import Derived.Test.YtlfapnlaalnbjaaGreatPCost2
set_option linter.unusedVariables false
set_option linter.unusedSimpArgs false
namespace Go.Ry
open Go.Proofs

def sumM (code : List Ins) (known : List Su) (i to : Nat) (out : Su) : Su :=
  if h : i < to then
    if (insAt code i).1 = 26 then
      sumM code known (i + 1) to (beh (beh out (one (cost (insAt code i).1) ((insAt code i).1 == 25))) (known.getD (insAt code i).2.1.toNat ((0 : Int), ((0 : Int), ((0 : Int), ((0 : Int), ((0 : Int), ())))))))
    else if (insAt code i).1 = 21 then
      if hm : i < (matchM code i).2.1 ∧ (matchM code i).2.1 < to ∧ (matchM code i).1 < (matchM code i).2.1 then
        if ho : i < (matchM code i).1 then
          sumM code known ((matchM code i).2.1 + 1) to (beh (beh out (one (cost (insAt code i).1) ((insAt code i).1 == 25)))
            (eith (beh (sumM code known (i + 1) (matchM code i).1 one0) tick) (beh (sumM code known ((matchM code i).1 + 1) (matchM code i).2.1 one0) tick)))
        else
          sumM code known ((matchM code i).2.1 + 1) to (beh (beh out (one (cost (insAt code i).1) ((insAt code i).1 == 25))) (eith (beh (sumM code known (i + 1) (matchM code i).2.1 one0) tick) one0))
      else out
    else if (insAt code i).1 = 24 then
      if hm : i < (matchM code i).2.1 ∧ (matchM code i).2.1 < to then
        sumM code known ((matchM code i).2.1 + 1) to (beh (beh out (one (cost (insAt code i).1) ((insAt code i).1 == 25))) (rep (beh (sumM code known (i + 1) (matchM code i).2.1 one0) tick) (insAt code i).2.1.toNat))
      else out
    else sumM code known (i + 1) to (beh out (one (cost (insAt code i).1) ((insAt code i).1 == 25)))
  else out
termination_by to - i
decreasing_by all_goals omega
theorem sumM_end {code : List Ins} {known : List Su} {i to : Nat} {out : Su} (h : ¬ i < to) : sumM code known i to out = out := by rw [sumM, dif_neg h]
section
variable {code : List Ins} {known : List Su} {i to : Nat} {out : Su} (h : i < to)
include h
theorem sumM_call (h1 : (insAt code i).1 = 26) : sumM code known i to out =
    sumM code known (i + 1) to (beh (beh out (one (cost (insAt code i).1) ((insAt code i).1 == 25))) (known.getD (insAt code i).2.1.toNat ((0 : Int), ((0 : Int), ((0 : Int), ((0 : Int), ((0 : Int), ()))))))) := by
  rw [sumM, dif_pos h, if_pos h1]
theorem sumM_plain (h1 : (insAt code i).1 ≠ 26) (h2 : (insAt code i).1 ≠ 21) (h3 : (insAt code i).1 ≠ 24) : sumM code known i to out = sumM code known (i + 1) to (beh out (one (cost (insAt code i).1) ((insAt code i).1 == 25))) := by
  rw [sumM, dif_pos h, if_neg h1, if_neg h2, if_neg h3]
theorem sumM_if {o e : Nat} (h2 : (insAt code i).1 = 21) (hm : Met code i to o e) (ho : 0 < o) : sumM code known i to out =
    sumM code known (e + 1) to (beh (beh out (one (cost (insAt code i).1) ((insAt code i).1 == 25))) (eith (beh (sumM code known (i + 1) o one0) tick) (beh (sumM code known (o + 1) e one0) tick))) := by
  have h1 := hm.lt
  have h3 := hm.hi
  have h4 : i < o ∧ o < e := by rcases hm.oth with h | h <;> omega
  rw [sumM, dif_pos h, if_neg (by omega), if_pos h2]
  simp only [hm.m]
  rw [dif_pos (by omega), dif_pos h4.1]
theorem sumM_if0 {e : Nat} (h2 : (insAt code i).1 = 21) (hm : Met code i to 0 e) : sumM code known i to out =
    sumM code known (e + 1) to (beh (beh out (one (cost (insAt code i).1) ((insAt code i).1 == 25))) (eith (beh (sumM code known (i + 1) e one0) tick) one0)) := by
  have h1 := hm.lt
  have h3 := hm.hi
  rw [sumM, dif_pos h, if_neg (by omega), if_pos h2]
  simp only [hm.m]
  rw [dif_pos (by omega), dif_neg (by omega)]
theorem sumM_rep {o e : Nat} (h2 : (insAt code i).1 = 24) (hm : Met code i to o e) : sumM code known i to out =
    sumM code known (e + 1) to (beh (beh out (one (cost (insAt code i).1) ((insAt code i).1 == 25))) (rep (beh (sumM code known (i + 1) e one0) tick) (insAt code i).2.1.toNat)) := by
  have h1 := hm.lt
  have h3 := hm.hi
  rw [sumM, dif_pos h, if_neg (by omega), if_neg (by omega), if_pos h2]
  simp only [hm.m]
  rw [dif_pos (by omega)]
end
/-- Instructions whose operands are as they should be, where k routines are known. -/
structure CodeIn (code : List Ins) (k : Nat) : Prop where
  len : code.length ≤ 40
  call : ∀ i, i < code.length → (insAt code i).1 = 26 → 0 ≤ (insAt code i).2.1 ∧ (insAt code i).2.1 < k
  rep : ∀ i, i < code.length → (insAt code i).1 = 24 → 1 ≤ (insAt code i).2.1 ∧ (insAt code i).2.1 ≤ 20
theorem cost_range (op : Int) : 0 ≤ cost op ∧ cost op ≤ 4 := by
  unfold cost
  split
  · omega
  split
  · omega
  split <;> omega
theorem sumM_ok {code : List Ins} {known : List Su} (hc : CodeIn code known.length) (hk : allOk known) : ∀ (N : Nat) {i to : Nat} {out : Su}, to - i ≤ N → Seg code i to → okS out → okS (sumM code known i to out)
  | 0, i, to, out, hn, hs, ho => by rw [sumM_end (by omega)]; exact ho
  | N + 1, i, to, out, hn, hs, ho => by
    by_cases h : i < to
    · have h1 := beh_ok ho (one_ok (n := cost (insAt code i).1) (b := (insAt code i).1 == 25) (by have := cost_range (insAt code i).1; omega))
      have hl := hs.len
      by_cases h2 : (insAt code i).1 = 26
      · rw [sumM_call h h2]
        have := hc.call i (by omega) h2
        exact sumM_ok hc hk N (by omega) (hs.step h (by omega) (by omega)).1 (beh_ok h1 (hk.at (by omega)))
      by_cases h3 : (insAt code i).1 = 21
      · obtain ⟨o, e, hm⟩ := hs.meet h (.inl h3)
        have := hm.lt
        have := hm.hi
        by_cases h0 : 0 < o
        · have h4 : i < o ∧ o < e ∧ Seg code (i + 1) o ∧ Seg code (o + 1) e := by
            rcases hm.oth with h | h
            · omega
            · exact h
          rw [sumM_if h h3 hm h0]
          exact sumM_ok hc hk N (by omega) hm.rest (beh_ok h1 (eith_ok (beh_ok (sumM_ok hc hk N (by omega) h4.2.2.1 one0_ok) tick_ok) (beh_ok (sumM_ok hc hk N (by omega) h4.2.2.2 one0_ok) tick_ok)))
        · have : o = 0 := by omega
          subst this
          rw [sumM_if0 h h3 hm]
          exact sumM_ok hc hk N (by omega) hm.rest (beh_ok h1 (eith_ok (beh_ok (sumM_ok hc hk N (by omega) hm.body one0_ok) tick_ok) one0_ok))
      by_cases h4 : (insAt code i).1 = 24
      · obtain ⟨o, e, hm⟩ := hs.meet h (.inr h4)
        have := hm.lt
        have := hm.hi
        rw [sumM_rep h h4 hm]
        exact sumM_ok hc hk N (by omega) hm.rest (beh_ok h1 (rep_ok (beh_ok (sumM_ok hc hk N (by omega) hm.body one0_ok) tick_ok) _))
      · rw [sumM_plain h h2 h3 h4]
        exact sumM_ok hc hk N (by omega) (hs.step h h3 h4).1 h1
    · rw [sumM_end h]; exact ho
theorem c_impl_summarize (code : List Ins) (known : List Su) (hc : CodeIn code known.length) (hk : allOk known) (hkl : known.length ≤ 1048576) : ∀ (N i to : Nat), to - i ≤ N → Seg code i to →
    TT n_impl_summarize [.one (.sl tIns code), eI i, eI to, .one (.sl tSu known)] [] (suE (sumM code known i to one0)) []
  | N, i0, to, hn, hs0 => by
    have hl40 := hc.len
    have hl := hs0.len
    refine r_impl_summarize code i0 to known ⟨_, _, _, _, _, c_impl_oneCost 0 false, _, _, _, _, _, c_impl_oneCost 1 false,
      fun m i t n h ta ii t2 n2 h2 ta2 ii2 => ∃ k : Nat, i = k ∧ i0 ≤ k ∧ m = to - k ∧ Seg code k to ∧ (t2, (n2, (h2, (ta2, (ii2, ()))))) = tick ∧ okS (t, (n, (h, (ta, (ii, ()))))) ∧ sumM code known k to (t, (n, (h, (ta, (ii, ()))))) = sumM code known i0 to one0,
      ⟨_, rfl, rfl, i0, rfl, by omega, rfl, hs0, rfl, one0_ok, rfl⟩, ?_⟩
    rintro m i t n h ta ii t2 n2 h2 ta2 ii2 ⟨k, rfl, hk0, rfl, hs, htk, hout, hv⟩
    obtain ⟨rfl, rfl, rfl, rfl, rfl⟩ : t2 = 1 ∧ n2 = 1 ∧ h2 = -1 ∧ ta2 = -1 ∧ ii2 = -1 := by
      simp [tick, one] at htk
      exact htk
    refine ifP (fun hlt => ?_) (fun hge => ?_)
    · have hlt : k < to := by omega
      have rec_ := fun (a b : Nat) (hab : b - a < N) (hs : Seg code a b) => c_impl_summarize code known hc hk hkl (b - a) a b (Nat.le_refl _) hs
      have hat : code.getD k ((0 : Int), ((0 : Int), ())) = insAt code k := rfl
      rw [Int.toNat_natCast, hat]
      have hco := cost_range (insAt code k).1
      have h1 := one_ok (n := cost (insAt code k).1) (b := (insAt code k).1 == 25) (by omega)
      have h1b := beh_ok hout h1
      refine ⟨by omega, _, c_impl_cost _, _, _, _, _, _, c_impl_oneCost _ _, _, _, _, _, _, c_impl_beh (t, (n, (h, (ta, (ii, ()))))) (one (cost (insAt code k).1) ((insAt code k).1 == 25)) hout h1, ?_⟩
      refine ifE (fun e26 => ?_) (fun e26 => ifE (fun e21 => ?_) (fun e21 => ifE (fun e24 => ?_) (fun e24 => ?_)))
      · have hr := hc.call k (by omega) e26
        have hx := hk.at (i := (insAt code k).2.1.toNat) (by omega)
        refine ⟨by omega, _, _, _, _, _, c_impl_beh (beh (t, (n, (h, (ta, (ii, ()))))) (one (cost (insAt code k).1) ((insAt code k).1 == 25))) _ h1b hx, ?_⟩
        rw [w64 (by omega)]
        rw [sumM_call hlt e26] at hv
        exact ⟨_, (by omega : to - (k + 1) < to - k), rfl, rfl, k + 1, by omega, by omega, rfl, (hs.step hlt (by omega) (by omega)).1, rfl, beh_ok h1b hx, hv⟩
      · obtain ⟨o, e, hm⟩ := hs.meet hlt (.inl e21)
        have q1 := hm.lt
        have q2 := hm.hi
        have q3 := c_impl_match code k (by omega) (by omega) (.inl e21)
        rw [hm.m] at q3
        have r1 := rec_ (k + 1) e (by omega) hm.body
        have s1 := beh_ok (sumM_ok hc hk _ (Nat.le_refl _) hm.body one0_ok) tick_ok
        have w1 : wI ((k : Int) + 1) = ((k + 1 : Nat) : Int) := by rw [w64 (by omega)]; rfl
        rw [w1]
        refine ⟨_, _, _, q3, _, _, _, _, _, r1, _, _, _, _, _, c_impl_oneCost 0 false, ?_⟩
        by_cases ho : 0 < o
        · have h4 : k < o ∧ o < e ∧ Seg code (k + 1) o ∧ Seg code (o + 1) e := by
            rcases hm.oth with h | h
            · omega
            · exact h
          have w2 : wI ((o : Int) + 1) = ((o + 1 : Nat) : Int) := by rw [w64 (by omega)]; rfl
          have w3 : wI ((e : Int) + 1) = ((e + 1 : Nat) : Int) := by rw [w64 (by omega)]; rfl
          have r2 := rec_ (k + 1) o (by omega) h4.2.2.1
          have r3 := rec_ (o + 1) e (by omega) h4.2.2.2
          have s2 := beh_ok (sumM_ok hc hk _ (Nat.le_refl _) h4.2.2.1 one0_ok) tick_ok
          have s3 := beh_ok (sumM_ok hc hk _ (Nat.le_refl _) h4.2.2.2 one0_ok) tick_ok
          have b3 := c_impl_beh (sumM code known (o + 1) e one0) tick (sumM_ok hc hk _ (Nat.le_refl _) h4.2.2.2 one0_ok) tick_ok
          rw [sumM_if hlt e21 hm ho] at hv
          rw [w2]
          refine ⟨_, ifP_t (by omega) ⟨_, _, _, _, _, r2, ⟨_, _, _, _, _, r3, _, _, _, _, _, b3, rfl, rfl, ?_⟩, ⟨_, _, _, _, _, r3, _, _, _, _, _, b3, rfl, rfl, ?_⟩⟩, fun _ _ _ _ _ _ _ _ _ _ _ _ _ _ _ _ _ _ _ _ _ h => h⟩
          all_goals
            refine ⟨_, _, _, _, _, c_impl_beh (sumM code known (k + 1) o one0) tick (sumM_ok hc hk _ (Nat.le_refl _) h4.2.2.1 one0_ok) tick_ok, _, _, _, _, _, c_impl_either (beh (sumM code known (k + 1) o one0) tick) (beh (sumM code known (o + 1) e one0) tick), _, _, _, _, _,
              c_impl_beh (beh (t, (n, (h, (ta, (ii, ()))))) (one (cost (insAt code k).1) ((insAt code k).1 == 25))) _ h1b (eith_ok s2 s3), ?_⟩
            rw [w3]
            exact ⟨_, (by omega : to - (e + 1) < to - k), rfl, rfl, e + 1, rfl, by omega, rfl, hm.rest, rfl, beh_ok h1b (eith_ok s2 s3), hv⟩
        · have h0 : o = 0 := by omega
          subst h0
          have w3 : wI ((e : Int) + 1) = ((e + 1 : Nat) : Int) := by rw [w64 (by omega)]; rfl
          rw [sumM_if0 hlt e21 hm] at hv
          refine ⟨_, ifP_f (by omega) ⟨rfl, rfl, ?_⟩, fun _ _ _ _ _ _ _ _ _ _ _ _ _ _ _ _ _ _ _ _ _ h => h⟩
          refine ⟨_, _, _, _, _, c_impl_beh (sumM code known (k + 1) e one0) tick (sumM_ok hc hk _ (Nat.le_refl _) hm.body one0_ok) tick_ok, _, _, _, _, _, c_impl_either (beh (sumM code known (k + 1) e one0) tick) one0, _, _, _, _, _,
            c_impl_beh (beh (t, (n, (h, (ta, (ii, ()))))) (one (cost (insAt code k).1) ((insAt code k).1 == 25))) _ h1b (eith_ok s1 one0_ok), ?_⟩
          rw [w3]
          exact ⟨_, (by omega : to - (e + 1) < to - k), rfl, rfl, e + 1, rfl, by omega, rfl, hm.rest, rfl, beh_ok h1b (eith_ok s1 one0_ok), hv⟩
      · obtain ⟨o, e, hm⟩ := hs.meet hlt (.inr e24)
        have q1 := hm.lt
        have q2 := hm.hi
        have q3 := c_impl_match code k (by omega) (by omega) (.inr e24)
        rw [hm.m] at q3
        have hr := hc.rep k (by omega) e24
        have r1 := rec_ (k + 1) e (by omega) hm.body
        have s0 := sumM_ok hc hk _ (Nat.le_refl _) hm.body one0_ok
        have s1 := beh_ok s0 tick_ok
        have w1 : wI ((k : Int) + 1) = ((k + 1 : Nat) : Int) := by rw [w64 (by omega)]; rfl
        have w3 : wI ((e : Int) + 1) = ((e + 1 : Nat) : Int) := by rw [w64 (by omega)]; rfl
        rw [sumM_rep hlt e24 hm] at hv
        rw [w1]
        refine ⟨_, _, _, q3, ⟨_, _, _, _, _, r1, _, _, _, _, _, c_impl_beh _ tick s0 tick_ok, _, _, _, _, _, c_impl_repeated (beh (sumM code known (k + 1) e one0) tick) _ s1 (by omega), _, _, _, _, _, c_impl_beh (beh (t, (n, (h, (ta, (ii, ()))))) (one (cost (insAt code k).1) ((insAt code k).1 == 25))) _ h1b (rep_ok s1 _), ?_⟩,
          ⟨_, _, _, _, _, r1, _, _, _, _, _, c_impl_beh _ tick s0 tick_ok, _, _, _, _, _, c_impl_repeated (beh (sumM code known (k + 1) e one0) tick) _ s1 (by omega), _, _, _, _, _, c_impl_beh (beh (t, (n, (h, (ta, (ii, ()))))) (one (cost (insAt code k).1) ((insAt code k).1 == 25))) _ h1b (rep_ok s1 _), ?_⟩⟩
        all_goals
          rw [w3]
          exact ⟨_, (by omega : to - (e + 1) < to - k), rfl, rfl, e + 1, rfl, by omega, rfl, hm.rest, rfl, beh_ok h1b (rep_ok s1 _), hv⟩
      · rw [sumM_plain hlt e26 e21 e24] at hv
        rw [w64 (by omega)]
        exact ⟨_, (by omega : to - (k + 1) < to - k), rfl, rfl, k + 1, by omega, by omega, rfl, (hs.step hlt e21 e24).1, rfl, h1b, hv⟩
    · rw [sumM_end (by omega)] at hv
      rw [← hv]; exact ⟨rfl, rfl⟩
termination_by N => N
end Go.Ry
