/- One operation, the reference's. No condition. -/
import Derived.Test.YtonmkhdbgofbpaaPOps6
set_option linter.unusedVariables false
set_option linter.unusedSimpArgs false
namespace Go.Ry
open Go.Proofs

theorem both {p : Prop} (h : p) : p ∧ p := ⟨h, h⟩
theorem c_spec_apply (x : Dat) (op a : Int) (st : List Int) (now : Int) (h : Fit x op a st) :
    TT n_spec_l06Apply [.agg x.cs, .agg [cI op, cI a], .one (.sl tyInt st), eI now] []
      (.tup [(true, (appM x op a (argA x op a st) (argB x op a st) now).1.cs), (false, [.row 0])]) [.row t_int tyInt (appM x op a (argA x op a st) (argB x op a st) now).2] := by
  have hD := datOK_iff.1 h.hx
  have hbl := h.block
  obtain ⟨r1, r2, r3, r4, r5⟩ := h.rng
  obtain ⟨t1, t2, t3, t4, t5⟩ := tk_of h
  have ht := h.ht
  have hl := h.hl
  have ha := h.ha
  have hkind : op = 19 → isKind (x.f.getD a.toNat dFb).1 = true := fun e => hD.kind (by have := ha (.inl e); have := r3 (.inl e); omega)
  have hblk : op = 19 → _ := fun e => c_spec_block x a st now (r3 (.inl e)) (ha (.inl e)) (hkind e) (by rw [← t4 e]; exact ht) (by omega) (by have := hD.f; omega)
  have hAi : ∀ i, ar (argA x op a st) i = st.getD (st.length - tk x op a + i) 0 := fun i => ar_drop st _ i
  have hB : argB x op a st = st.take (st.length - tk x op a) := rfl
  have hAd : argA x op a st = st.drop (st.length - tk x op a) := rfl
  have hBl : (argB x op a st).length ≤ 4096 := by simp [argB]; omega
  have d0 := c_spec_l06Drop st 0 (by omega) (by omega)
  have d1 := c_spec_l06Drop st 1 (by omega) (by omega)
  have d2 := c_spec_l06Drop st 2 (by omega) (by omega)
  have d3 := c_spec_l06Drop st 3 (by omega) (by omega)
  have tl : ∀ k, (st.take k).length ≤ 4096 := fun k => by simp; omega
  generalize argA x op a st = A at *
  generalize argB x op a st = B at *
  refine r_spec_l06Apply x.g x.f x.a x.b x.c x.d x.w op a st now ?_
  unfold v_spec_l06Apply
  refine ⟨fun n => n = st.getD (st.length - 1) 0, ?_, ?_⟩
  · refine ifP (fun e => ?_) fun e => ?_
    · have e1 : wI ((st.length : Int) - 1) = ((st.length - 1 : Nat) : Int) := by rw [w64 (by omega)]; omega
      rw [e1]
      exact ⟨by omega, rfl, rfl, rfl⟩
    · have : st = [] := List.eq_nil_of_length_eq_zero (by omega)
      exact ⟨rfl, rfl, by rw [this]; rfl⟩
  rintro top htop
  refine ⟨fun p q => (1 < st.length → p = st.getD (st.length - 2) 0) ∧ q = top, ?_, ?_⟩
  · refine ifP (fun e => ?_) fun e => ?_
    · have e1 : wI ((st.length : Int) - 2) = ((st.length - 2 : Nat) : Int) := by rw [w64 (by omega)]; omega
      rw [e1]
      exact ⟨by omega, rfl, rfl, fun _ => rfl, rfl⟩
    · exact ⟨rfl, rfl, fun e' => absurd e' (by omega), rfl⟩
  rintro sec q ⟨hsec, rfl⟩
  refine ⟨_, d1, _, d2, fun p q' b r s => p = sec ∧ q' = q ∧ b = (op == 1 || op == 2) ∧ r = st.take (st.length - 1) ∧ s = st.take (st.length - 2), ?_, ?_⟩
  · exact ifE (fun e => ⟨rfl, rfl, rfl, rfl, by simp [e], rfl, rfl⟩) fun e => ⟨rfl, rfl, rfl, rfl, by simp [e], rfl, rfl⟩
  rintro p q' b r s ⟨rfl, rfl, rfl, rfl, rfl⟩
  refine ifB_cases (fun e => ?_) fun e => ?_
  · have e' : op = 1 ∨ op = 2 := by simpa using e
    have hB0 : B = st.take (st.length - 0) := by rw [hB, t5 (by omega)]
    have := tl (st.length - 0)
    exact both ⟨_, d0, by simp only [List.length_cons, List.length_nil]; omega, by simp [appM, e'], by simp only [appM, e', if_true, hB0]⟩
  have n12 : ¬ (op = 1 ∨ op = 2) := by simpa using e
  refine ifE (fun e => ?_) fun n3 => ?_
  · have := r1 (.inl e); have := hD.g
    have hB0 : B = st.take (st.length - 0) := by rw [hB, t5 (by omega)]
    have := tl (st.length - 0)
    exact ⟨by omega, both ⟨_, d0, by simp only [List.length_cons, List.length_nil]; omega, by simp [appM, e], by rw [hB0]; simp [appM, e]⟩⟩
  refine ifE (fun e => ?_) fun n4 => ?_
  · have := r1 (.inr e); have := hD.g; have hk := t1 (.inl e)
    have h0 : ar A 0 = q' := by rw [hAi 0, hk]; exact htop.symm
    have hB1 : B = st.take (st.length - 1) := by rw [hB, hk]
    refine ⟨by simp; omega, by simp; omega, ?_, ?_⟩
    · simp only [appM, e, h0]; simp
    · rw [hB1]; simp [appM, e]
  refine ifE (fun e => ?_) fun n5 => ?_
  · have := r2 (.inl e); have := hD.a
    have hB0 : B = st.take (st.length - 0) := by rw [hB, t5 (by omega)]
    have := tl (st.length - 0)
    exact ⟨by omega, _, d0, _, c_spec_l06Bit _, by simp only [List.length_cons, List.length_nil]; omega, by simp [appM, e], by rw [hB0]; simp [appM, e]⟩
  refine ifE (fun e => ?_) fun n7 => ?_
  · have := r2 (.inr (.inr (.inl e))); have := hD.b
    have hB0 : B = st.take (st.length - 0) := by rw [hB, t5 (by omega)]
    have := tl (st.length - 0)
    exact ⟨by omega, _, d0, _, c_spec_l06Bit _, by simp only [List.length_cons, List.length_nil]; omega, by simp [appM, e], by rw [hB0]; simp [appM, e]⟩
  refine ifE (fun e => ?_) fun n6 => ?_
  · have := r2 (.inr (.inl e)); have := hD.c; have hk := t1 (.inr (.inl e))
    have h0 : ar A 0 = q' := by rw [hAi 0, hk]; exact htop.symm
    have hB1 : B = st.take (st.length - 1) := by rw [hB, hk]
    refine ⟨_, c_spec_l06Set _ _ _ (by omega) (by omega) (by omega), ?_, ?_⟩
    · simp only [appM, e, h0]; simp
    · rw [hB1]; simp [appM, e]
  refine ifE (fun e => ?_) fun n8 => ?_
  · have := r2 (.inr (.inr (.inr e))); have := hD.c; have := hD.d; have hk := t1 (.inr (.inr (.inl e)))
    have h0 : ar A 0 = q' := by rw [hAi 0, hk]; exact htop.symm
    have hB1 : B = st.take (st.length - 1) := by rw [hB, hk]
    refine ⟨_, c_spec_l06Set _ _ _ (by omega) (by omega) (by omega), _, c_spec_l06Set _ _ _ (by omega) (by omega) (by omega), ?_, ?_⟩
    · simp only [appM, e, h0]; simp
    · rw [hB1]; simp [appM, e]
  refine ⟨fun p2 q2 b r s => p2 = p ∧ q2 = q' ∧ b = (op == 9 || (op == 10 || (op == 11 || op == 12))) ∧ r = st.take (st.length - 1) ∧ s = st.take (st.length - 2), ?_, ?_⟩
  · refine ifE (fun e => ⟨rfl, rfl, rfl, rfl, by simp [e], rfl, rfl⟩) fun e9 => ifE (fun e => ⟨rfl, rfl, rfl, rfl, by simp [e], rfl, rfl⟩) fun e10 => ifE (fun e => ⟨rfl, rfl, rfl, rfl, by simp [e], rfl, rfl⟩) fun e11 => ⟨rfl, rfl, rfl, rfl, ?_, rfl, rfl⟩
    rw [show (op == 9) = false by simp [e9], show (op == 10) = false by simp [e10], show (op == 11) = false by simp [e11]]; rfl
  rintro p2 q2 b r s ⟨rfl, rfl, rfl, rfl, rfl⟩
  have two : tk x op a = 2 → ar A 0 = p2 ∧ ar A 1 = q2 ∧ B = st.take (st.length - 2) := fun hk => by
    refine ⟨?_, ?_, by rw [hB, hk]⟩
    · rw [hAi 0, hk, hsec (by omega)]; rfl
    · rw [hAi 1, hk, htop]; congr 1; omega
  have hcal : op ≠ 1 ∧ op ≠ 2 ∧ op ≠ 3 ∧ op ≠ 4 ∧ op ≠ 5 ∧ op ≠ 6 ∧ op ≠ 7 ∧ op ≠ 8 := by omega
  have hap : op ≠ 19 → op ≠ 20 → op ≠ 25 → appM x op a (A) (B) now = (x.wrong (calcM op (A)).2, B ++ [(calcM op (A)).1]) := fun _ _ _ => by simp [appM, *]
  refine ifB_cases (fun e => ?_) fun e => ?_
  · have e' : op = 9 ∨ op = 10 ∨ op = 11 ∨ op = 12 := by simpa using e
    obtain ⟨g0, g1, g2⟩ := two (t2 (by omega))
    have hc : calcM op (A) = checkedM (wI (op - 9)) p2 q2 := by
      rw [← g0, ← g1]
      unfold calcM
      rw [if_neg (by omega), if_neg (by omega), if_neg (by omega), if_neg (by omega), if_neg (by omega), if_neg (by omega)]
    rw [hap (by omega) (by omega) (by omega), hc, g2]
    have := tl (st.length - 2)
    have hm := c_spec_l06Math x (wI (op - 9)) p2 q2
    exact ⟨_, _, _, _, _, _, _, _, hm, by simp only [List.length_cons, List.length_nil]; omega, rfl, rfl⟩
  have n9 : ¬ (op = 9 ∨ op = 10 ∨ op = 11 ∨ op = 12) := by simpa using e
  have hw : x.wrong false = x := rfl
  refine ifE (fun e => ?_) fun n13 => ?_
  · obtain ⟨g0, g1, g2⟩ := two (t2 (by omega))
    rw [hap (by omega) (by omega) (by omega), g2]
    have := tl (st.length - 2)
    refine ⟨_, c_spec_l06Bit _, by simp only [List.length_cons, List.length_nil]; omega, ?_, ?_⟩
    · simp [calcM, e, hw]
    · simp [calcM, e, g0, g1]
  refine ifE (fun e => ?_) fun n14 => ?_
  · obtain ⟨g0, g1, g2⟩ := two (t2 (by omega))
    rw [hap (by omega) (by omega) (by omega), g2]
    have := tl (st.length - 2)
    refine ⟨_, c_spec_l06Bit _, by simp only [List.length_cons, List.length_nil]; omega, ?_, ?_⟩
    · simp [calcM, e, hw]
    · simp [calcM, e, g0, g1]
  refine ifE (fun e => ?_) fun n15 => ?_
  · obtain ⟨g0, g1, g2⟩ := two (t2 (by omega))
    rw [hap (by omega) (by omega) (by omega), g2]
    have := tl (st.length - 2)
    refine ⟨by simp only [List.length_cons, List.length_nil]; omega, ?_, ?_⟩
    · simp [calcM, e, hw]
    · simp [calcM, e, g0, g1]
  refine ifE (fun e => ?_) fun n16 => ?_
  · obtain ⟨g0, g1, g2⟩ := two (t2 (by omega))
    rw [hap (by omega) (by omega) (by omega), g2]
    have := tl (st.length - 2)
    refine ⟨by simp only [List.length_cons, List.length_nil]; omega, ?_, ?_⟩
    · simp [calcM, e, hw]
    · simp [calcM, e, g0, g1]
  refine ifE (fun e => ?_) fun n17 => ?_
  · have hk := t1 (.inr (.inr (.inr e)))
    have h0 : ar A 0 = q2 := by rw [hAi 0, hk]; exact htop.symm
    rw [hap (by omega) (by omega) (by omega), show B = st.take (st.length - 1) by rw [hB, hk]]
    have := tl (st.length - 1)
    refine ⟨by simp only [List.length_cons, List.length_nil]; omega, ?_, ?_⟩
    · simp [calcM, e, hw]
    · simp [calcM, e, h0]
  refine ifE (fun e => ?_) fun n18 => ?_
  · have hk := t3 e
    have h0 : ar A 0 = st.getD (st.length - 3) 0 := by rw [hAi 0, hk]; rfl
    have h1 : ar A 1 = p2 := by rw [hAi 1, hk, hsec (by omega)]; congr 1; omega
    have h2 : ar A 2 = q2 := by rw [hAi 2, hk, htop]; congr 1; omega
    rw [hap (by omega) (by omega) (by omega), show B = st.take (st.length - 3) by rw [hB, hk]]
    have := tl (st.length - 3)
    have e1 : wI ((st.length : Int) - 3) = ((st.length - 3 : Nat) : Int) := by rw [w64 (by omega)]; omega
    rw [e1]
    refine ⟨fun n => n = (calcM op (A)).1, ⟨by omega, ifE (fun e1 => ⟨rfl, rfl, ?_⟩) fun e1 => ⟨rfl, rfl, ?_⟩⟩, ?_⟩
    · have e2 : ar A 0 = 1 := by rw [h0]; exact e1
      simp [calcM, e, e2, h1]
    · have e2 : ¬ ar A 0 = 1 := by rw [h0]; exact e1
      simp [calcM, e, e2, h2]
    · rintro n rfl
      have hc2 : (calcM op (A)).2 = false := by simp [calcM, e]
      rw [hc2]
      exact both ⟨_, d3, by simp only [List.length_cons, List.length_nil]; omega, rfl, rfl⟩
  refine ifE (fun e => ?_) fun n19 => ?_
  · have hk := t4 e
    refine ⟨_, _, _, _, _, _, _, _, hblk e, ?_, ?_⟩
    · rw [hAd, hk]; simp [appM, e]
    · rw [hAd, hB, hk]; simp [appM, e]
  refine ifE (fun e => ?_) fun n20 => ?_
  · have q1 := r3 (.inr e); have q2 := ha (.inr e)
    have hB0 : B = st.take (st.length - 0) := by rw [hB, t5 (by omega)]
    have := tl (st.length - 0)
    exact ⟨by omega, both ⟨_, d0, by simp only [List.length_cons, List.length_nil]; omega, by simp [appM, e], by rw [hB0]; simp [appM, e]⟩⟩
  have e : op = 25 := by omega
  have hB0 : B = st.take (st.length - 0) := by rw [hB, t5 (by omega)]
  exact ⟨_, d0, by simp [appM, e], by rw [hB0]; simp [appM, e]⟩
end Go.Ry
