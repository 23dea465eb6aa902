/- What a code costs, by the reference; all routines; the load. No condition. -/
import Derived.Test.YtopchiaiefkehaaGreatPCost3
set_option linter.unusedVariables false
set_option linter.unusedSimpArgs false
namespace Go.Ry
open Go.Proofs

theorem c_spec_l05Part (code : List Ins) (known : List Su) (hc : CodeIn code known.length) (hk : allOk known) (hkl : known.length ≤ 1048576) : ∀ (N i to : Nat), to - i ≤ N → Seg code i to →
    TT n_spec_l05Part [.one (.sl tIns code), eI i, eI to, .one (.sl tSu known)] [] (suE (sumM code known i to one0)) []
  | N, i0, to, hn, hs0 => by
    have hl40 := hc.len
    have hl := hs0.len
    refine r_spec_l05Part code i0 to known ⟨_, _, _, _, _, c_spec_l05One 0 false,
      fun m i t n h ta ii => ∃ k : Nat, i = k ∧ i0 ≤ k ∧ m = to - k ∧ Seg code k to ∧ okS (t, (n, (h, (ta, (ii, ()))))) ∧ sumM code known k to (t, (n, (h, (ta, (ii, ()))))) = sumM code known i0 to one0,
      ⟨_, rfl, rfl, i0, rfl, by omega, rfl, hs0, one0_ok, rfl⟩, ?_⟩
    rintro m i t n h ta ii ⟨k, rfl, hk0, rfl, hs, hout, hv⟩
    refine ifP (fun hlt => ?_) (fun hge => ?_)
    · have hlt : k < to := by omega
      have rec_ := fun (a b : Nat) (hab : b - a < N) (hs : Seg code a b) => c_spec_l05Part code known hc hk hkl (b - a) a b (Nat.le_refl _) hs
      have hat : code.getD k ((0 : Int), ((0 : Int), ())) = insAt code k := rfl
      rw [Int.toNat_natCast, hat]
      have hco := cost_range (insAt code k).1
      have h1 := one_ok (n := cost (insAt code k).1) (b := (insAt code k).1 == 25) (by omega)
      have h1b := beh_ok hout h1
      refine ⟨by omega, fun i t' n' h' ta' ii' op a t1 n1 h1 ta1 ii1 => i = k ∧ t' = t ∧ n' = n ∧ h' = h ∧ ta' = ta ∧ ii' = ii ∧ op = (insAt code k).1 ∧ a = (insAt code k).2.1 ∧ (t1, (n1, (h1, (ta1, (ii1, ()))))) = one (cost (insAt code k).1) ((insAt code k).1 == 25),
        ⟨⟨_, c_spec_l02Cost _, ⟨_, _, _, _, _, c_spec_l05One _ _, rfl, rfl, rfl, rfl, rfl, rfl, rfl, rfl, rfl, rfl, rfl⟩, ⟨_, _, _, _, _, c_spec_l05One _ _, rfl, rfl, rfl, rfl, rfl, rfl, rfl, rfl, rfl, rfl, rfl⟩⟩, ⟨_, c_spec_l02Cost _, _, _, _, _, _, c_spec_l05One _ _, rfl, rfl, rfl, rfl, rfl, rfl, rfl, rfl, rfl, rfl, rfl⟩⟩, ?_⟩
      rintro i t' n' h' ta' ii' op a t1 n1 h1' ta1 ii1 ⟨rfl, rfl, rfl, rfl, rfl, rfl, rfl, rfl, hone⟩
      have ho1 : okS (t1, (n1, (h1', (ta1, (ii1, ()))))) := hone ▸ h1
      refine ifE (fun e26 => ?_) (fun e26 => ifE (fun e21 => ?_) (fun e21 => ifE (fun e24 => ?_) (fun e24 => ?_)))
      · have hr := hc.call k (by omega) e26
        have hx := hk.at (i := (insAt code k).2.1.toNat) (by omega)
        refine ⟨by omega, _, _, _, _, _, c_spec_l05Behind (t1, (n1, (h1', (ta1, (ii1, ()))))) _ ho1 hx, _, _, _, _, _, c_spec_l05Behind (t', (n', (h', (ta', (ii', ()))))) _ hout (beh_ok ho1 hx), ?_⟩
        rw [w64 (by omega)]
        rw [sumM_call hlt e26, beh_assoc hout h1 hx, ← hone] at hv
        exact ⟨_, (by omega : to - (k + 1) < to - k), rfl, rfl, k + 1, by omega, by omega, rfl, (hs.step hlt (by omega) (by omega)).1, beh_ok hout (beh_ok ho1 hx), hv⟩
      · obtain ⟨o, e, hm⟩ := hs.meet hlt (.inl e21)
        have q1 := hm.lt
        have q2 := hm.hi
        have q3 := c_spec_l04Match code k (by omega) (by omega)
        rw [hm.m] at q3
        have w1 : wI ((k : Int) + 1) = ((k + 1 : Nat) : Int) := by rw [w64 (by omega)]; rfl
        have w3 : wI ((e : Int) + 1) = ((e + 1 : Nat) : Int) := by rw [w64 (by omega)]; rfl
        rw [w1]
        refine ⟨_, _, _, q3, _, _, _, _, _, c_spec_l05One 1 false, ?_⟩
        by_cases ho : 0 < o
        · have h4 : k < o ∧ o < e ∧ Seg code (k + 1) o ∧ Seg code (o + 1) e := by
            rcases hm.oth with h | h
            · omega
            · exact h
          have w2 : wI ((o : Int) + 1) = ((o + 1 : Nat) : Int) := by rw [w64 (by omega)]; rfl
          have r2 := rec_ (k + 1) o (by omega) h4.2.2.1
          have r3 := rec_ (o + 1) e (by omega) h4.2.2.2
          have p2 := sumM_ok hc hk _ (Nat.le_refl _) h4.2.2.1 one0_ok
          have p3 := sumM_ok hc hk _ (Nat.le_refl _) h4.2.2.2 one0_ok
          have s2 := beh_ok p2 tick_ok
          have s3 := beh_ok p3 tick_ok
          have s4 := eith_ok s2 s3
          rw [sumM_if hlt e21 hm ho, beh_assoc hout h1 s4, ← hone] at hv
          rw [w2]
          exact ifP_t (by omega) ⟨_, _, _, _, _, r2, _, _, _, _, _, c_spec_l05Behind _ tick p2 tick_ok, _, _, _, _, _, r3, _, _, _, _, _, c_spec_l05Behind _ tick p3 tick_ok, _, _, _, _, _, c_spec_l05Either (beh _ tick) (beh _ tick),
            _, _, _, _, _, c_spec_l05Behind (t1, (n1, (h1', (ta1, (ii1, ()))))) (eith (beh _ tick) (beh _ tick)) ho1 s4, _, _, _, _, _, c_spec_l05Behind (t', (n', (h', (ta', (ii', ()))))) (beh _ _) hout (beh_ok ho1 s4),
            _, (by omega : to - (e + 1) < to - k), rfl, rfl, e + 1, w3, by omega, rfl, hm.rest, beh_ok hout (beh_ok ho1 s4), hv⟩
        · have h0 : o = 0 := by omega
          subst h0
          have r2 := rec_ (k + 1) e (by omega) hm.body
          have p2 := sumM_ok hc hk _ (Nat.le_refl _) hm.body one0_ok
          have s4 := eith_ok (beh_ok p2 tick_ok) one0_ok
          rw [sumM_if0 hlt e21 hm, beh_assoc hout h1 s4, ← hone] at hv
          exact ifP_f (by omega) ⟨_, _, _, _, _, r2, _, _, _, _, _, c_spec_l05Behind _ tick p2 tick_ok, _, _, _, _, _, c_spec_l05One 0 false, _, _, _, _, _, c_spec_l05Either (beh _ tick) one0,
            _, _, _, _, _, c_spec_l05Behind (t1, (n1, (h1', (ta1, (ii1, ()))))) (eith (beh _ tick) one0) ho1 s4, _, _, _, _, _, c_spec_l05Behind (t', (n', (h', (ta', (ii', ()))))) (beh _ _) hout (beh_ok ho1 s4),
            _, (by omega : to - (e + 1) < to - k), rfl, rfl, e + 1, w3, by omega, rfl, hm.rest, beh_ok hout (beh_ok ho1 s4), hv⟩
      · obtain ⟨o, e, hm⟩ := hs.meet hlt (.inr e24)
        have q1 := hm.lt
        have q2 := hm.hi
        have q3 := c_spec_l04Match code k (by omega) (by omega)
        rw [hm.m] at q3
        have hr := hc.rep k (by omega) e24
        have w1 : wI ((k : Int) + 1) = ((k + 1 : Nat) : Int) := by rw [w64 (by omega)]; rfl
        have w3 : wI ((e : Int) + 1) = ((e + 1 : Nat) : Int) := by rw [w64 (by omega)]; rfl
        rw [w1]
        have r2 := rec_ (k + 1) e (by omega) hm.body
        have p2 := sumM_ok hc hk _ (Nat.le_refl _) hm.body one0_ok
        have s4 := rep_ok (beh_ok p2 tick_ok) (insAt code k).2.1.toNat
        rw [sumM_rep hlt e24 hm, beh_assoc hout h1 s4, ← hone] at hv
        exact ⟨_, _, _, q3, _, _, _, _, _, r2, _, _, _, _, _, c_spec_l05One 1 false, _, _, _, _, _, c_spec_l05Behind _ tick p2 tick_ok, _, _, _, _, _, c_spec_l05Times (beh _ tick) _ (beh_ok p2 tick_ok) (by omega),
          _, _, _, _, _, c_spec_l05Behind (t1, (n1, (h1', (ta1, (ii1, ()))))) (rep (beh _ tick) _) ho1 s4, _, _, _, _, _, c_spec_l05Behind (t', (n', (h', (ta', (ii', ()))))) (beh _ _) hout (beh_ok ho1 s4),
          _, (by omega : to - (e + 1) < to - k), rfl, rfl, e + 1, w3, by omega, rfl, hm.rest, beh_ok hout (beh_ok ho1 s4), hv⟩
      · rw [sumM_plain hlt e26 e21 e24, ← hone] at hv
        rw [w64 (by omega)]
        exact ⟨_, _, _, _, _, c_spec_l05Behind (t', (n', (h', (ta', (ii', ()))))) (t1, (n1, (h1', (ta1, (ii1, ()))))) hout ho1, _, (by omega : to - (k + 1) < to - k), rfl, rfl, k + 1, by omega, by omega, rfl, (hs.step hlt e21 e24).1, beh_ok hout ho1, hv⟩
    · rw [sumM_end (by omega)] at hv
      rw [← hv]; exact ⟨rfl, rfl⟩
termination_by N => N

/-! ### all routines -/
def costsL : List Rou → List Su → List Su
  | [], acc => acc
  | r :: l, acc => costsL l (acc ++ [sumM r.1 acc 0 r.1.length one0])
def costsM (rs : List Rou) : List Su := costsL rs []
/-- Routines that are well nested and call only those ahead of them. -/
structure RousIn (rs : List Rou) : Prop where
  len : rs.length ≤ 6
  code : ∀ k, k < rs.length → CodeIn (rs.getD k (([] : List Ins), ())).1 k ∧ Seg (rs.getD k (([] : List Ins), ())).1 0 (rs.getD k (([] : List Ins), ())).1.length
theorem PrgFit.rous {ks : List Int} {rs : List Rou} {ts : List Tsk} {sf : List Bool} (h : PrgFit ks rs ts sf) : RousIn rs := by
  have hr := h.hr
  simp only [rousOK, Bool.and_eq_true, decide_eq_true_eq, List.all_eq_true] at hr
  refine ⟨hr.1, fun k hk => ?_⟩
  have hg : rs[k]? = some (rs.getD k (([] : List Ins), ())) := by rw [List.getD_eq_getElem?_getD, List.getElem?_eq_getElem hk]; rfl
  have hv := verAllM_ok h.ver k _ hg
  have hc := hr.2 _ (List.mem_of_getElem? hg)
  revert hv hc
  generalize (rs.getD k (([] : List Ins), ())) = r
  intro hv hc
  simp only [rouOK, codeOK, Bool.and_eq_true, decide_eq_true_eq, List.all_eq_true] at hc
  have hins : ∀ i, i < r.1.length → insOK (insAt r.1 i) = true := fun i hi => by
    unfold insAt
    rw [List.getD_eq_getElem?_getD, List.getElem?_eq_getElem hi]
    exact hc.2 _ (List.getElem_mem hi)
  have hmem : ∀ i, i < r.1.length → insAt r.1 i ∈ r.1 := fun i hi => by
    unfold insAt
    rw [List.getD_eq_getElem?_getD, List.getElem?_eq_getElem hi]
    exact List.getElem_mem hi
  refine ⟨⟨hc.1, fun i hi h26 => ?_, fun i hi h24 => ?_⟩, ⟨by omega, by omega, ?_⟩⟩
  · have h1 := hins i hi
    simp only [insOK, instrOK, Bool.and_eq_true] at h1
    rw [h26] at h1
    have h2 : within (insAt r.1 i).2.1 0 5 = true := h1.2
    have h2 := within_iff.1 h2
    have h3 := verS_calls hv _ (hmem i hi) h26
    omega
  · have h1 := hins i hi
    simp only [insOK, instrOK, Bool.and_eq_true] at h1
    rw [h24] at h1
    have h2 : within (insAt r.1 i).2.1 1 20 = true := h1.2
    exact within_iff.1 h2
  · have := verM_bal hv
    rw [List.drop_zero, Nat.sub_zero, List.take_length]
    exact this
theorem costs_step {rs : List Rou} (h : RousIn rs) {acc : List Su} {k : Nat} (hk : k < rs.length) (ha : acc.length = k) (hok : allOk acc) :
    allOk (acc ++ [sumM (rs.getD k (([] : List Ins), ())).1 acc 0 (rs.getD k (([] : List Ins), ())).1.length one0]) := by
  intro x hx
  rcases List.mem_append.1 hx with hx | hx
  · exact hok x hx
  · simp only [List.mem_singleton] at hx
    subst hx
    have := h.code k hk
    exact sumM_ok (ha ▸ this.1) hok _ (Nat.le_refl _) this.2 one0_ok
theorem costs_all {rs : List Rou} (h : RousIn rs) : allOk (costsM rs) ∧ (costsM rs).length = rs.length := by
  have : ∀ (n k : Nat) (acc : List Su), rs.length - k = n → k ≤ rs.length → acc.length = k → allOk acc → costsM rs = costsL (rs.drop k) acc → allOk (costsM rs) ∧ (costsM rs).length = rs.length := by
    intro n
    induction n with
    | zero =>
      intro k acc hn hk ha hok he
      rw [List.drop_eq_nil_of_le (by omega)] at he
      rw [he]
      exact ⟨hok, by simp only [costsL]; omega⟩
    | succ n ih =>
      intro k acc hn hk ha hok he
      rw [drop_getD (by omega) (([] : List Ins), ())] at he
      exact ih (k + 1) _ (by omega) (by omega) (by simp [ha]) (costs_step h (by omega) ha hok) he
  exact this _ 0 [] rfl (by omega) rfl (fun x hx => by simp at hx) rfl
theorem c_spec_l05Costs (rs : List Rou) (h : RousIn rs) : TT n_spec_l05Costs [.one (.sl tRou rs)] [] (.one (.row 0)) [.row t_impl_Summary tSu (costsM rs)] := by
  have hl := h.len
  refine r_spec_l05Costs rs ⟨fun m i acc => 0 ≤ i ∧ i ≤ rs.length ∧ m = (rs.length - i).toNat ∧ acc.length = i.toNat ∧ allOk acc ∧ costsM rs = costsL (rs.drop i.toNat) acc, ⟨_, rfl, by omega, by omega, rfl, rfl, fun x hx => by simp at hx, rfl⟩, ?_⟩
  rintro m i acc ⟨h0, h1, rfl, ha, hok, he⟩
  refine ifP (fun hlt => ?_) (fun hge => ?_)
  · have hc := h.code i.toNat (by omega)
    have hcl := hc.1.len
    rw [drop_getD (by omega) (([] : List Ins), ())] at he
    refine ⟨⟨h0, hlt⟩, ⟨h0, hlt⟩, _, _, _, _, _, c_spec_l05Part _ acc (ha ▸ hc.1) hok (by omega) _ 0 _ (Nat.le_refl _) hc.2, by simp; omega, ?_⟩
    rw [w64 (by omega)]
    exact ⟨_, by omega, rfl, by omega, by omega, rfl, by simp; omega, costs_step h (by omega) ha hok, by rw [toNat_succ h0]; exact he⟩
  · rw [List.drop_eq_nil_of_le (by omega)] at he
    rw [he]; exact ⟨rfl, rfl⟩
end Go.Ry
