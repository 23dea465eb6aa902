/- Cores: are they right, are they new? No condition. -/
import Derived.Test.YthpolfpbioebnaaGreatPPlc2
set_option linter.unusedVariables false
set_option linter.unusedSimpArgs false
namespace Go.Ry
open Go.Proofs

theorem toNat_pred {a : Int} (h : 0 < a) : (a - 1).toNat = a.toNat - 1 := by omega
theorem fr_rng {rs : List Rou} {f : Frm} (h : frame0 rs f = true) : (0 ≤ f.1 ∧ f.1 < (rs.length : Int)) ∧ (0 ≤ f.2.1 ∧ f.2.1 ≤ ((rs.getD f.1.toNat (([] : List Ins), ())).1.length : Int)) := by
  simp only [frame0, Bool.and_eq_true] at h
  have h1 := within_iff.1 h.1
  have h2 := within_iff.1 h.2.1
  exact ⟨by omega, h2⟩
def allFr (rs : List Rou) (fs : List Frm) : Bool := (List.range fs.length).all (frAt rs fs)
theorem allFr_f {rs : List Rou} {fs : List Frm} {i : Nat} (hi : i < fs.length) (h : frAt rs fs i = false) : allFr rs fs = false := by
  rw [← Bool.not_eq_true]
  intro e
  simp only [allFr, List.all_eq_true, List.mem_range] at e
  rw [e i hi] at h
  exact absurd h (by decide)
theorem allFr_t {rs : List Rou} {fs : List Frm} (h : ∀ j, j < fs.length → frAt rs fs j = true) : allFr rs fs = true := by
  simp only [allFr, List.all_eq_true, List.mem_range]; exact h
theorem coreM_eq {ks : List Int} {rs : List Rou} {fs : List Frm} {st : List Int} : coreM ks rs fs st = (decide (fs.length ≤ 6) && (allFr rs fs && (decide ((tysM ks rs fs fs.length).size = st.length) && onM (tysM ks rs fs fs.length) st))) := rfl
theorem tysM_succ {ks : List Int} {rs : List Rou} {fs : List Frm} {k : Nat} : tysM ks rs fs (k + 1) = tysM ks rs fs k ++ tyAt ks rs (fs.getD k dFrm) := rfl
/-- What a frame's test and its link come to. -/
theorem frAt_last {rs : List Rou} {fs : List Frm} {i : Nat} (h : i + 1 = fs.length) : frAt rs fs i = frameM rs (fs.getD i dFrm) true := by
  unfold frAt
  rw [decide_eq_true h]; simp
theorem frAt_mid {rs : List Rou} {fs : List Frm} {i : Nat} (h : ¬ i + 1 = fs.length) : frAt rs fs i = (frameM rs (fs.getD i dFrm) false && linkM rs (fs.getD i dFrm) (fs.getD (i + 1) dFrm)) := by
  unfold frAt
  rw [decide_eq_false h]; simp
theorem frame0_of {rs : List Rou} {f : Frm} {b : Bool} (h : frameM rs f b = true) : frame0 rs f = true := by
  unfold frameM at h
  rw [Bool.and_eq_true] at h; exact h.1
theorem frAt_0 {rs : List Rou} {fs : List Frm} {i : Nat} (h : frAt rs fs i = true) : frame0 rs (fs.getD i dFrm) = true := by
  unfold frAt at h
  rw [Bool.and_eq_true] at h
  exact frame0_of h.1
theorem frameM_f {rs : List Rou} {f : Frm} : frameM rs f false = frame0 rs f := by
  unfold frameM; simp

theorem c_impl_coreOK (ks : List Int) (rs : List Rou) (fs : List Frm) (st : List Int) (h : Verd ks rs) (hls : ∀ f ∈ fs, f.2.2.1.length ≤ 1048576) (hst : st.length ≤ 1048576) :
    TT n_impl_coreOK [.one (.sl tRou rs), .one (.sl tyInt ks), .agg [.sl tFrm fs, .sl tyInt st]] [] (eB (coreM ks rs fs st)) [] := by
  have hr := rousOK_fit h.hr
  have hk := kindsOK_in h.hk
  refine r_impl_coreOK rs ks fs st (ifP (fun h6 => ⟨by rw [coreM_eq, decide_eq_false (show ¬ fs.length ≤ 6 by omega)]; rfl, rfl⟩) (fun h6 => ?_))
  have h6' : fs.length ≤ 6 := by omega
  refine ⟨fun s => s = tysM ks rs fs fs.length ∧ s.size ≤ 48 ∧ allFr rs fs = true, ⟨fun m s i => 0 ≤ i ∧ i ≤ fs.length ∧ m = (fs.length - i).toNat ∧ s = tysM ks rs fs i.toNat ∧ s.size ≤ 8 * i.toNat ∧ ∀ j, j < i.toNat → frAt rs fs j = true,
    ⟨_, rfl, rfl, by omega, by omega, rfl, rfl, Nat.zero_le _, fun j hj => by simp at hj⟩, ?_⟩, ?_⟩
  · rintro m s i ⟨h0, h1, rfl, rfl, hsz, hj⟩
    refine ifP (fun hlt => ?_) (fun hge => ⟨rfl, by rw [show i.toNat = fs.length by omega], by omega, allFr_t fun j hj' => hj j (by omega)⟩)
    have hin : i.toNat < fs.length := by omega
    have hs := tysM_succ (ks := ks) (rs := rs) (fs := fs) (k := i.toNat)
    rw [w64 (x := (fs.length : Int) - 1) (by omega), w64 (x := i + 1) (by omega)]
    have el : (i == (fs.length : Int) - 1) = decide (i.toNat + 1 = fs.length) := by
      by_cases e : i.toNat + 1 = fs.length
      · rw [decide_eq_true e]; simp; omega
      · rw [decide_eq_false e]; simp; omega
    rw [el]
    have hfl := hls (fs.getD i.toNat dFrm) (by rw [List.getD_eq_getElem?_getD, List.getElem?_eq_getElem hin]; exact List.getElem_mem _)
    have cf := c_impl_frameOK rs (fs.getD i.toNat dFrm) (decide (i.toNat + 1 = fs.length)) hr hfl
    have hnx : (i + 1).toNat = i.toNat + 1 := toNat_succ h0
    by_cases hlast : i.toNat + 1 = fs.length
    · have hA := frAt_last (rs := rs) hlast
      rw [decide_eq_true hlast] at cf ⊢
      revert hs cf hA
      generalize fs.getD i.toNat dFrm = f
      intro hs cf hA
      refine ⟨⟨h0, hlt⟩, _, cf, ifB_cases (fun hb => ?_) (fun hb => ?_)⟩
      · have hb : frameM rs f true = false := by simpa using hb
        exact ⟨by rw [coreM_eq, allFr_f hin (hA.trans hb)]; simp, rfl⟩
      have hb : frameM rs f true = true := by simpa using hb
      obtain ⟨g1, g2⟩ := fr_rng (frame0_of hb)
      refine ⟨g1, fun s' code n15 n16 n17 l18 => tysM ks rs fs i.toNat = s' ∧ (rs.getD f.1.toNat (([] : List Ins), ())).1 = code ∧ i = n15 ∧ f.1 = n16 ∧ f.2.1 = n17, ifB_f rfl ⟨rfl, rfl, rfl, rfl, rfl, rfl, rfl⟩, ?_⟩
      rintro _ _ _ _ _ l18 ⟨rfl, rfl, rfl, rfl, rfl⟩
      rw [w64 (x := i + 1) (by omega)]
      have hc := hr.at (i := f.1.toNat) (by omega)
      have hv := h.ver f.1.toNat (by omega)
      rw [Int.toNat_of_nonneg g1.1] at hv
      have cv := c_impl_verify (rs.getD f.1.toNat (([] : List Ins), ())).1 ks f.1 hc hk
      have et : (verI ks f.1 (rs.getD f.1.toNat (([] : List Ins), ())).1 0 e0 [] []).1 = trS ks f.1 (rs.getD f.1.toNat (([] : List Ins), ())).1 0 e0 [] := verI_tr (o := []) (acc := []) Open.nil hv
      rw [et] at cv
      have hts := tyAt_size (f := f) h g1
      have hty : tyAt ks rs f = (trS ks f.1 (rs.getD f.1.toNat (([] : List Ins), ())).1 0 e0 []).getD f.2.1.toNat e0 := rfl
      refine ⟨_, _, _, cv, ⟨g2.1, by rw [trS_len]; omega⟩, ?_, (fs.length - (i + 1)).toNat, by omega, rfl, rfl, by omega, by omega, rfl, ?_, ?_, ?_⟩
      · show _ + ((trS ks f.1 (rs.getD f.1.toNat (([] : List Ins), ())).1 0 e0 []).getD f.2.1.toNat e0).size ≤ _
        rw [← hty]; omega
      · rw [hnx, hs]; rfl
      · rw [size_append]
        show _ + ((trS ks f.1 (rs.getD f.1.toNat (([] : List Ins), ())).1 0 e0 []).getD f.2.1.toNat e0).size ≤ _
        rw [← hty]; omega
      · intro j hj'
        rcases Nat.lt_or_ge j i.toNat with h8 | h8
        · exact hj j h8
        · rw [show j = i.toNat by omega, hA]; exact hb
    · have hA := frAt_mid (rs := rs) hlast
      have hg : (fs.getD (i + 1).toNat dFrm) = fs.getD (i.toNat + 1) dFrm := by rw [hnx]
      rw [decide_eq_false hlast] at cf ⊢
      revert hs cf hA hg
      generalize fs.getD i.toNat dFrm = f
      intro hs cf hA hg
      refine ⟨⟨h0, hlt⟩, _, cf, ifB_cases (fun hb => ?_) (fun hb => ?_)⟩
      · have hb : frameM rs f false = false := by simpa using hb
        exact ⟨by rw [coreM_eq, allFr_f hin (hA.trans (by rw [hb]; rfl))]; simp, rfl⟩
      have hb : frameM rs f false = true := by simpa using hb
      obtain ⟨g1, g2⟩ := fr_rng (frame0_of hb)
      rw [hb, Bool.true_and] at hA
      have hc := hr.at (i := f.1.toNat) (by omega)
      have hcl : (rs.getD f.1.toNat (([] : List Ins), ())).1.length ≤ 40 := hc.1
      refine ⟨g1, fun s' code n15 n16 n17 l18 => tysM ks rs fs i.toNat = s' ∧ (rs.getD f.1.toNat (([] : List Ins), ())).1 = code ∧ i = n15 ∧ f.1 = n16 ∧ f.2.1 = n17 ∧ frAt rs fs i.toNat = true, ifB_t rfl (ifE (fun hz => ?_) (fun hz => ?_)), ?_⟩
      · exact ⟨by rw [coreM_eq, allFr_f hin (hA.trans (by unfold linkM; rw [decide_eq_false (fun e => e hz)]; rfl))]; simp, rfl⟩
      · rw [w64 (x := f.2.1 - 1) (by omega), toNat_pred (by omega)]
        refine ⟨⟨by omega, by omega⟩, ⟨by omega, by omega⟩, ifB_cases (fun hx => ?_) (fun hx => ?_)⟩
        · refine ⟨?_, rfl⟩
          have : linkM rs f (fs.getD (i.toNat + 1) dFrm) = false := by
            unfold linkM
            rw [decide_eq_true hz, Bool.true_and, ← Bool.not_eq_true]
            intro e
            simp only [Bool.and_eq_true, decide_eq_true_eq] at e
            rw [← hg] at e
            simp only [Bool.not_eq_true', Bool.and_eq_false_iff, Bool.and_true, beq_eq_false_iff_ne] at hx
            rcases hx with hx | hx
            · exact hx e.1
            · exact hx e.2
          rw [coreM_eq, allFr_f hin (hA.trans this)]; simp
        · refine ⟨rfl, rfl, rfl, rfl, rfl, rfl, rfl, ?_⟩
          rw [hA]
          unfold linkM
          simp only [Bool.not_eq_false', Bool.and_eq_true, Bool.and_true, beq_iff_eq] at hx
          rw [decide_eq_true hz, Bool.true_and, Bool.and_eq_true, decide_eq_true_eq, decide_eq_true_eq, ← hg]
          exact hx
      rintro _ _ _ _ _ l18 ⟨rfl, rfl, rfl, rfl, rfl, hfa⟩
      rw [w64 (x := i + 1) (by omega)]
      have hv := h.ver f.1.toNat (by omega)
      rw [Int.toNat_of_nonneg g1.1] at hv
      have cv := c_impl_verify (rs.getD f.1.toNat (([] : List Ins), ())).1 ks f.1 hc hk
      have et : (verI ks f.1 (rs.getD f.1.toNat (([] : List Ins), ())).1 0 e0 [] []).1 = trS ks f.1 (rs.getD f.1.toNat (([] : List Ins), ())).1 0 e0 [] := verI_tr (o := []) (acc := []) Open.nil hv
      rw [et] at cv
      have hts := tyAt_size (f := f) h g1
      have hty : tyAt ks rs f = (trS ks f.1 (rs.getD f.1.toNat (([] : List Ins), ())).1 0 e0 []).getD f.2.1.toNat e0 := rfl
      refine ⟨_, _, _, cv, ⟨g2.1, by rw [trS_len]; omega⟩, ?_, (fs.length - (i + 1)).toNat, by omega, rfl, rfl, by omega, by omega, rfl, ?_, ?_, ?_⟩
      · show _ + ((trS ks f.1 (rs.getD f.1.toNat (([] : List Ins), ())).1 0 e0 []).getD f.2.1.toNat e0).size ≤ _
        rw [← hty]; omega
      · rw [hnx, hs]; rfl
      · rw [size_append]
        show _ + ((trS ks f.1 (rs.getD f.1.toNat (([] : List Ins), ())).1 0 e0 []).getD f.2.1.toNat e0).size ≤ _
        rw [← hty]; omega
      · intro j hj'
        rcases Nat.lt_or_ge j i.toNat with h8 | h8
        · exact hj j h8
        · rw [show j = i.toNat by omega]; exact hfa
  rintro s ⟨rfl, hsz, hall⟩
  have e : coreM ks rs fs st = (decide ((tysM ks rs fs fs.length).size = st.length) && onM (tysM ks rs fs fs.length) st) := by
    rw [coreM_eq, hall, decide_eq_true h6']; rfl
  rw [e]
  refine ifE (fun hq => ⟨_, c_impl_areOn st _ hst (by omega), by rw [decide_eq_true (show (tysM ks rs fs fs.length).size = st.length by omega)]; rfl, rfl⟩) (fun hq => ⟨by rw [decide_eq_false (show ¬ (tysM ks rs fs fs.length).size = st.length by omega)]; rfl, rfl⟩)

/-! ### the reference's -/
theorem c_spec_l07Types (ks : List Int) (rs : List Rou) (fs : List Frm) (st : List Int) (h : Verd ks rs) (h6 : fs.length ≤ 6) (hall : ∀ j, j < fs.length → frAt rs fs j = true) :
    TT n_spec_l07Types [.one (.sl tRou rs), .one (.sl tyInt ks), .agg [.sl tFrm fs, .sl tyInt st]] [] (eS (tysM ks rs fs fs.length)) [] := by
  refine r_spec_l07Types rs ks fs st ⟨fun m s i => 0 ≤ i ∧ i ≤ fs.length ∧ m = (fs.length - i).toNat ∧ s = tysM ks rs fs i.toNat ∧ s.size ≤ 8 * i.toNat, ⟨_, rfl, rfl, by omega, by omega, rfl, rfl, Nat.zero_le _⟩, ?_⟩
  rintro m s i ⟨h0, h1, rfl, rfl, hsz⟩
  refine ifP (fun hlt => ?_) (fun hge => ⟨by rw [show i.toNat = fs.length by omega], rfl⟩)
  have hs := tysM_succ (ks := ks) (rs := rs) (fs := fs) (k := i.toNat)
  have hf := frAt_0 (hall i.toNat (by omega))
  rw [w64 (x := i + 1) (by omega)]
  revert hs hf
  generalize fs.getD i.toNat dFrm = f
  intro hs hf
  obtain ⟨g1, g2⟩ := fr_rng hf
  have hts := tyAt_size (f := f) h g1
  exact ⟨⟨h0, hlt⟩, g1, _, _, c_spec_StackAt ks rs f h g1 g2, by omega, _, by omega, rfl, rfl, by omega, by omega, rfl, by rw [toNat_succ h0, hs], by rw [size_append, toNat_succ h0]; omega⟩
theorem c_spec_l07OK (ks : List Int) (rs : List Rou) (fs : List Frm) (st : List Int) (h : Verd ks rs) (hst : st.length ≤ 1048576) :
    TT n_spec_l07OK [.one (.sl tRou rs), .one (.sl tyInt ks), .agg [.sl tFrm fs, .sl tyInt st]] [] (eB (coreM ks rs fs st)) [] := by
  have hr := rousOK_fit h.hr
  have hk := kindsOK_in h.hk
  refine r_spec_l07OK rs ks fs st (ifP (fun h6 => ⟨by rw [coreM_eq, decide_eq_false (show ¬ fs.length ≤ 6 by omega)]; rfl, rfl⟩) (fun h6 => ?_))
  have h6' : fs.length ≤ 6 := by omega
  refine ⟨∀ j, j < fs.length → frAt rs fs j = true, ⟨fun m i => 0 ≤ i ∧ i ≤ fs.length ∧ m = (fs.length - i).toNat ∧ ∀ j, j < i.toNat → frAt rs fs j = true, ⟨_, rfl, rfl, by omega, by omega, rfl, fun j hj => by simp at hj⟩, ?_⟩, fun hall => ?_⟩
  · rintro m i ⟨h0, h1, rfl, hj⟩
    refine ifP (fun hlt => ?_) (fun hge => ⟨rfl, rfl, fun j hj' => hj j (by omega)⟩)
    have hin : i.toNat < fs.length := by omega
    rw [w64 (x := (fs.length : Int) - 1) (by omega)]
    have cf := c_spec_l07Frame rs (fs.getD i.toNat dFrm) hr
    have hnx : (i + 1).toNat = i.toNat + 1 := toNat_succ h0
    have next : frAt rs fs i.toNat = true → ∃ m' : Nat, m' < ((fs.length : Int) - i).toNat ∧ eqC [.sl tRou rs, .sl tyInt ks] ∧ eqC [.sl tFrm fs, .sl tyInt st] ∧ 0 ≤ i + 1 ∧ i + 1 ≤ (fs.length : Int) ∧ m' = ((fs.length : Int) - (i + 1)).toNat ∧ ∀ j, j < (i + 1).toNat → frAt rs fs j = true := by
      intro hfa
      refine ⟨_, by omega, rfl, rfl, by omega, by omega, rfl, fun j hj' => ?_⟩
      rcases Nat.lt_or_ge j i.toNat with h8 | h8
      · exact hj j h8
      · rw [show j = i.toNat by omega]; exact hfa
    by_cases hlast : i.toNat + 1 = fs.length
    · have hA := frAt_last (rs := rs) hlast
      revert cf hA
      generalize fs.getD i.toNat dFrm = f
      intro cf hA
      refine ⟨⟨h0, hlt⟩, _, cf, ifB_cases (fun hb => ?_) (fun hb => ?_)⟩
      · have hb : frame0 rs f = false := by simpa using hb
        exact ⟨by rw [coreM_eq, allFr_f hin (hA.trans (by unfold frameM; rw [hb]; rfl))]; simp, rfl⟩
      have hb : frame0 rs f = true := by simpa using hb
      obtain ⟨g1, g2⟩ := fr_rng hb
      refine ⟨g1, fun n12 l13 n14 n15 l16 => i = n12 ∧ frAt rs fs i.toNat = true, ifE_t (by omega) (ifE (fun he => ?_) (fun he => ⟨rfl, rfl, rfl, ?_⟩)), ?_⟩
      · exact ⟨by rw [coreM_eq, allFr_f hin (hA.trans (by unfold frameM; rw [hb, decide_eq_true he]; rfl))]; simp, rfl⟩
      · rw [hA]
        unfold frameM
        rw [hb, decide_eq_false he]; rfl
      rintro _ l13 n14 n15 l16 ⟨rfl, hfa⟩
      rw [w64 (x := i + 1) (by omega)]
      exact ifP_f (by omega) (next hfa)
    · have hA := frAt_mid (rs := rs) hlast
      have hg : (fs.getD (i + 1).toNat dFrm) = fs.getD (i.toNat + 1) dFrm := by rw [hnx]
      revert cf hA hg
      generalize fs.getD i.toNat dFrm = f
      intro cf hA hg
      rw [frameM_f] at hA
      refine ⟨⟨h0, hlt⟩, _, cf, ifB_cases (fun hb => ?_) (fun hb => ?_)⟩
      · have hb : frame0 rs f = false := by simpa using hb
        exact ⟨by rw [coreM_eq, allFr_f hin (hA.trans (by rw [hb]; rfl))]; simp, rfl⟩
      have hb : frame0 rs f = true := by simpa using hb
      obtain ⟨g1, g2⟩ := fr_rng hb
      have hc := hr.at (i := f.1.toNat) (by omega)
      have hcl : (rs.getD f.1.toNat (([] : List Ins), ())).1.length ≤ 40 := hc.1
      rw [hb, Bool.true_and] at hA
      refine ⟨g1, fun n12 l13 n14 n15 l16 => i = n12 ∧ (rs.getD f.1.toNat (([] : List Ins), ())).1 = l13 ∧ f.2.1 = n15, ifE_f (by omega) ⟨rfl, rfl, rfl, rfl, rfl⟩, ?_⟩
      rintro _ _ n14 _ l16 ⟨rfl, rfl, rfl⟩
      refine ifP_t (by omega) (ifE (fun hz => ?_) (fun hz => ?_))
      · exact ⟨by rw [coreM_eq, allFr_f hin (hA.trans (by unfold linkM; rw [decide_eq_false (fun e => e hz)]; rfl))]; simp, rfl⟩
      · rw [w64 (x := f.2.1 - 1) (by omega), toNat_pred (by omega), w64 (x := i + 1) (by omega)]
        refine ⟨⟨by omega, by omega⟩, ⟨by omega, by omega⟩, ifB_cases (fun hx => ?_) (fun hx => next ?_)⟩
        · refine ⟨?_, rfl⟩
          have : linkM rs f (fs.getD (i.toNat + 1) dFrm) = false := by
            unfold linkM
            rw [decide_eq_true hz, Bool.true_and, ← Bool.not_eq_true]
            intro e
            simp only [Bool.and_eq_true, decide_eq_true_eq] at e
            rw [← hg] at e
            simp only [Bool.not_eq_true', Bool.and_eq_false_iff, Bool.and_true, beq_eq_false_iff_ne] at hx
            rcases hx with hx | hx
            · exact hx e.1
            · exact hx e.2
          rw [coreM_eq, allFr_f hin (hA.trans this)]; simp
        · rw [hA]
          unfold linkM
          simp only [Bool.not_eq_false', Bool.and_eq_true, Bool.and_true, beq_iff_eq] at hx
          rw [decide_eq_true hz, Bool.true_and, Bool.and_eq_true, decide_eq_true_eq, decide_eq_true_eq, ← hg]
          exact hx
  have hall' := allFr_t hall
  have e : coreM ks rs fs st = (decide ((tysM ks rs fs fs.length).size = st.length) && onM (tysM ks rs fs fs.length) st) := by
    rw [coreM_eq, hall', decide_eq_true h6']; rfl
  rw [e]
  have ct := c_spec_l07Types ks rs fs st h h6' hall
  revert ct
  generalize tysM ks rs fs fs.length = S
  intro ct
  refine ⟨_, ct, ifN (fun hq => ⟨by rw [decide_eq_false (show ¬ S.size = st.length by omega)]; rfl, rfl⟩) (fun hq => ?_)⟩
  have hq' : S.size = st.length := by omega
  rw [decide_eq_true hq', Bool.true_and]
  have hd : st.drop (st.length - S.size) = st := by rw [hq', Nat.sub_self]; rfl
  refine ⟨fun m s i => s = S ∧ 0 ≤ i ∧ i ≤ S.size ∧ m = (S.size - i).toNat ∧ ∀ j, j < i.toNat → okI S st j = true, ⟨_, rfl, rfl, by omega, by omega, rfl, fun j hj => by simp at hj⟩, ?_⟩
  rintro m s i ⟨rfl, k0, k1, rfl, k2⟩
  refine ifP (fun hlt => ?_) (fun hge => ?_)
  · have hi : i.toNat < s.size := by omega
    have next : okI s st i.toNat = true → ∀ j, j < (i + 1).toNat → okI s st j = true := fun ho j hj => by
      by_cases hji : j = i.toNat
      · rw [hji]; exact ho
      · exact k2 j (by omega)
    have bad : okI s st i.toNat = false → onM s st = false := fun hb => onM_bad hi (by rw [hd]; exact hb)
    rw [w64 (x := i + 1) (by omega)]
    refine ⟨⟨k0, hlt⟩, ifE (fun h98 => ?_) (fun h98 => ?_)⟩
    · refine ⟨⟨k0, by omega⟩, _, c_spec_l01In _ _ _, ifB_cases (fun hb => ?_) (fun hb => ⟨⟨k0, by omega⟩, _, c_spec_l01Int _, ifB_cases (fun hv => ?_) (fun hv => ?_)⟩)⟩
      · simp only [Bool.not_eq_true'] at hb
        exact ⟨by rw [bad (by unfold okI ar; rw [if_pos h98, hb]; rfl)], rfl⟩
      · simp only [Bool.not_eq_true'] at hv
        exact ⟨by rw [bad (by unfold okI ar; rw [if_pos h98, hv, Bool.and_false])], rfl⟩
      · simp only [Bool.not_eq_false'] at hb hv
        exact ⟨_, by omega, rfl, rfl, by omega, by omega, rfl, next (by unfold okI ar; rw [if_pos h98, hb, hv]; rfl)⟩
    · refine ⟨⟨k0, by omega⟩, _, c_spec_l01Int _, ifB_cases (fun hv => ?_) (fun hv => ?_)⟩
      · simp only [Bool.not_eq_true'] at hv
        exact ⟨by rw [bad (by unfold okI ar; rw [if_neg h98, hv])], rfl⟩
      · simp only [Bool.not_eq_false'] at hv
        exact ⟨_, by omega, rfl, rfl, by omega, by omega, rfl, next (by unfold okI ar; rw [if_neg h98, hv])⟩
  · exact ⟨by rw [onM_iff.2 ⟨by omega, fun j hj => by rw [hd]; exact k2 j (by omega)⟩], rfl⟩
end Go.Ry
