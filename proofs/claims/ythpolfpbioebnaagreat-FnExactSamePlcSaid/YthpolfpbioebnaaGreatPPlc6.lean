/- Processors: jobs, and the whole. No condition. -/
import Derived.Test.YthpolfpbioebnaaGreatPPlc5
set_option linter.unusedVariables false
set_option linter.unusedSimpArgs false
namespace Go.Ry
open Go.Proofs

@[reducible] def jbE (j : Jb) : Ent := .agg [cI j.1, cI j.2.1, cI j.2.2.1, cI j.2.2.2.1, cI j.2.2.2.2.1, .sl tFrm j.2.2.2.2.2.1.1, .sl tyInt j.2.2.2.2.2.1.2.1, .sl .bool j.2.2.2.2.2.2.1, .sl .bool j.2.2.2.2.2.2.2.1, .sl .bool j.2.2.2.2.2.2.2.2.1]
structure Pl.Fit (X : Pl) : Prop where
  prg : PrgFit X.ks X.rs X.ts X.sf
  sm : X.Sm
theorem Pl.Fit.rout {X : Pl} (h : X.Fit) {k : Int} (hk : 0 ≤ k ∧ k < (X.ts.length : Int)) : 0 ≤ (X.ts.getD k.toNat dTsk).2.2.2.2.2.1 ∧ (X.ts.getD k.toNat dTsk).2.2.2.2.2.1 < (X.rs.length : Int) :=
  (h.prg.task (k := k.toNat) (by omega)).2
theorem c_spec_l11Job (X : Pl) (h : X.Fit) (j : Jb) (top : Bool) (hj : j.2.2.2.2.2.1.1.length ≤ 1048576 ∧ j.2.2.2.2.2.1.2.1.length ≤ 1048576 ∧ ∀ f ∈ j.2.2.2.2.2.1.1, f.2.2.1.length ≤ 1048576) :
    TT n_spec_l11Job [X.e, jbE j, eB top] [] (eB (jobE X j top)) [] := by
  obtain ⟨ta, ar, sd, ph, le, ⟨fs, st, u0⟩, la, ou, fi, u⟩ := j
  obtain ⟨hf, hst, hls⟩ := hj
  simp only at hf hst hls
  have h5 := h.prg.ts5
  have hver := h.prg.verd
  refine r_spec_l11Job X.ks X.rs X.ts X.sf X.x.g X.x.f X.x.a X.x.b X.x.c X.x.d X.x.w X.mode X.now X.since X.late X.busy X.src X.jobs X.log ta ar sd ph le fs st la ou fi top ⟨_, c_spec_l01In _ _ _, ?_⟩
  rw [w64 (x := (X.ts.length : Int) - 1) (by omega)]
  have e : jobE X (ta, ar, sd, ph, le, (fs, st, u0), la, ou, fi, u) top = (within ta 0 ((X.ts.length : Int) - 1) && (within ar 0 sd && (!decide (sd > X.now) && (decide ((la.length : Int) = 8) && (decide ((ou.length : Int) = 8) && (decide ((fi.length : Int) = 8) &&
    (within le 0 3 && ((decide (le = 0) || (top && X.busy)) && (coreM X.ks X.rs fs st && phM X.rs (X.ts.getD ta.toNat dTsk).2.2.2.2.2.1 ph le fs st))))))))) := rfl
  rw [e]
  clear e
  refine ifB_cases (fun g => ⟨by rw [nb_t g]; simp only [Bool.false_and], rfl⟩) (fun g1 => ?_)
  have g1 := nb_f g1
  have hta := within_iff.1 g1
  rw [g1, Bool.true_and]
  refine ⟨_, c_spec_l01In _ _ _, ifB_cases (fun g => ⟨by rw [nb_t g]; simp only [Bool.false_and], rfl⟩) (fun g2 => ?_)⟩
  rw [nb_f g2, Bool.true_and]
  refine ifP (fun g => ⟨by rw [decide_eq_true g]; rfl, rfl⟩) (fun g3 => ?_)
  rw [decide_eq_false g3, Bool.not_false, Bool.true_and]
  refine ifN (fun g => ⟨by rw [decide_eq_false g]; simp only [Bool.false_and], rfl⟩) (fun g4 => ?_)
  rw [decide_eq_true g4, Bool.true_and]
  refine ifN (fun g => ⟨by rw [decide_eq_false g]; simp only [Bool.false_and], rfl⟩) (fun g5 => ?_)
  rw [decide_eq_true g5, Bool.true_and]
  refine ifN (fun g => ⟨by rw [decide_eq_false g]; simp only [Bool.false_and], rfl⟩) (fun g6 => ?_)
  rw [decide_eq_true g6, Bool.true_and]
  refine ⟨_, c_spec_l07OK X.ks X.rs fs st hver hst, ifB_cases (fun g => ⟨by rw [nb_t g]; simp only [Bool.false_and, Bool.and_false], rfl⟩) (fun g7 => ?_)⟩
  rw [nb_f g7, Bool.true_and]
  refine ⟨(within le 0 3 && (decide (le = 0) || (top && X.busy))) = true, ⟨_, c_spec_l01In _ _ _, ifB_cases (fun g => ⟨by rw [nb_t g]; simp only [Bool.false_and], rfl⟩) (fun g8 => ?_)⟩, fun hJ => ?_⟩
  · have g8 := nb_f g8
    have hle := within_iff.1 g8
    rw [g8, Bool.true_and]
    refine ifP (fun g9 => ?_) (fun g9 => ⟨rfl, by rw [decide_eq_true (show le = 0 by omega)]; rfl⟩)
    rw [decide_eq_false (show ¬ le = 0 by omega), Bool.false_or]
    refine ifB_cases (fun ga => ifB_cases (fun gb => ⟨by rw [nb_t gb]; simp only [Bool.false_and, Bool.and_false], rfl⟩) (fun gb => ⟨rfl, by rw [ga, nb_f gb]; rfl⟩)) (fun ga => ⟨by rw [ga]; simp only [Bool.false_and], rfl⟩)
  simp only [Bool.and_eq_true] at hJ
  rw [hJ.1, hJ.2, Bool.true_and, Bool.true_and]
  have hro := h.rout (k := ta) (by omega)
  have hti : 0 ≤ ta ∧ ta < (X.ts.length : Int) := by omega
  unfold phM
  refine ifE (fun h1 => ?_) (fun h1 => ?_)
  · rw [if_pos h1]
    exact ifE (fun h2 => ⟨hti, _, _, c_spec_l07New X.rs _ hro, _, c_spec_SameCore X.rs _ fs st hls, by rw [decide_eq_true h2]; rfl, rfl⟩) (fun h2 => ⟨by rw [decide_eq_false h2]; rfl, rfl⟩)
  rw [if_neg h1]
  refine ifE (fun h2 => ?_) (fun h2 => ?_)
  · rw [if_pos h2]
    refine ifP (fun h3 => ?_) (fun h3 => ?_)
    · rw [if_neg (by omega)]
      refine ⟨⟨by omega, by omega⟩, hti, ifE (fun h4 => ⟨?_, rfl⟩) (fun h4 => ifE_f (by omega) ⟨?_, rfl⟩)⟩
      · rw [decide_eq_true (show (fs.getD 0 dFrm).1 = _ from h4)]
      · rw [decide_eq_false (show ¬ (fs.getD 0 dFrm).1 = _ from h4)]
    · rw [if_pos (by omega)]
      exact ifE_t (by omega) ⟨rfl, rfl⟩
  rw [if_neg h2]
  refine ifE (fun h3 => ?_) (fun h3 => ⟨by rw [if_neg h3], rfl⟩)
  rw [if_pos h3]
  exact ifE (fun h4 => ⟨by rw [decide_eq_true h4]; congr 2, rfl⟩) (fun h4 => ⟨by rw [decide_eq_false h4]; rfl, rfl⟩)
theorem c_impl_jobOK (X : Pl) (h : X.Fit) (i : Int) (hi : 0 ≤ i ∧ i < (X.jobs.length : Int)) : TT n_impl_jobOK [X.e, eI i] [] (eB (jobA X i.toNat)) [] := by
  have hjl := h.sm.jobs
  have h5 := h.prg.ts5
  have hver := h.prg.verd
  have hmem := h.sm.fs (X.jobs.getD i.toNat dJb) (by rw [List.getD_eq_getElem?_getD, List.getElem?_eq_getElem (by omega)]; exact List.getElem_mem _)
  refine r_impl_jobOK X.ks X.rs X.ts X.sf X.x.g X.x.f X.x.a X.x.b X.x.c X.x.d X.x.w X.mode X.now X.since X.late X.busy X.src X.jobs X.log i ?_
  unfold v_impl_jobOK
  rw [w64 (x := (X.ts.length : Int) - 1) (by omega), w64 (x := (X.jobs.length : Int) - 1) (by omega), w64 (x := i - 1) (by omega)]
  have hA : jobA X i.toNat = (jobE X (X.jobs.getD i.toNat dJb) (decide (i.toNat + 1 = X.jobs.length)) && (decide (i.toNat = 0) || !decide ((X.jobs.getD i.toNat dJb).1 ≥ (X.jobs.getD (i.toNat - 1) dJb).1))) := rfl
  rw [hA]
  clear hA
  have el : (i == (X.jobs.length : Int) - 1) = decide (i.toNat + 1 = X.jobs.length) := by
    by_cases e : i.toNat + 1 = X.jobs.length
    · rw [decide_eq_true e]; simp; omega
    · rw [decide_eq_false e]; simp; omega
  rw [el]
  clear el
  have hp : 0 < i → Int.toNat (i - 1) = i.toNat - 1 := fun hx => by omega
  have e0 : decide (i.toNat = 0) = !decide (i > 0) := by
    by_cases hx : i > 0
    · rw [decide_eq_true hx, decide_eq_false (by omega)]; rfl
    · rw [decide_eq_false hx, decide_eq_true (by omega)]; rfl
  rw [e0]
  clear e0
  have hp' : i > 0 → X.jobs.getD (Int.toNat (i - 1)) dJb = X.jobs.getD (i.toNat - 1) dJb := fun hx => by rw [hp hx]
  revert hmem hp'
  generalize X.jobs.getD i.toNat dJb = j
  generalize X.jobs.getD (Int.toNat (i - 1)) dJb = j1
  generalize X.jobs.getD (i.toNat - 1) dJb = j2
  generalize decide (i.toNat + 1 = X.jobs.length) = last
  intro hmem hp'
  obtain ⟨ta, ar, sd, ph, le, ⟨fs, st, u0⟩, la, ou, fi, u⟩ := j
  obtain ⟨hf, hst, hls⟩ := hmem
  simp only at hf hst hls
  have e : jobE X (ta, ar, sd, ph, le, (fs, st, u0), la, ou, fi, u) last = (within ta 0 ((X.ts.length : Int) - 1) && (within ar 0 sd && (!decide (sd > X.now) && (decide ((la.length : Int) = 8) && (decide ((ou.length : Int) = 8) && (decide ((fi.length : Int) = 8) &&
    (within le 0 3 && ((decide (le = 0) || (last && X.busy)) && (coreM X.ks X.rs fs st && phM X.rs (X.ts.getD ta.toNat dTsk).2.2.2.2.2.1 ph le fs st))))))))) := rfl
  rw [e]
  clear e
  refine ⟨True, ⟨hi, ⟨rfl, rfl, trivial⟩, rfl, rfl, trivial⟩, fun _ => ?_⟩
  refine ⟨within ta 0 ((X.ts.length : Int) - 1) = true ∧ (!decide (i > 0) || !decide (ta ≥ j2.1)) = true, ⟨_, c_impl_within _ _ _, ifB_cases (fun g => ⟨by rw [nb_t g]; simp only [Bool.false_and], rfl⟩) (fun g1 => ?_)⟩, fun hJ => ?_⟩
  · refine ifP (fun g2 => ?_) (fun g2 => ⟨rfl, rfl, nb_f g1, by rw [decide_eq_false g2]; rfl⟩)
    have hj12 := hp' g2
    rw [hj12]
    rw [decide_eq_true g2]
    refine ⟨⟨by omega, by omega⟩, ifP (fun g3 => ⟨?_, rfl⟩) (fun g3 => ⟨rfl, rfl, nb_f g1, ?_⟩)⟩
    · have g3 : ta ≥ j2.1 := g3
      rw [decide_eq_true g3]
      simp only [Bool.not_true, Bool.or_self, Bool.and_false]
    · have g3 : ¬ ta ≥ j2.1 := g3
      rw [decide_eq_false g3]; rfl
  obtain ⟨g1, g2⟩ := hJ
  have hta := within_iff.1 g1
  have g2' : (!decide (i > 0) || !decide ((ta, ar, sd, ph, le, (fs, st, u0), la, ou, fi, u).1 ≥ j2.1)) = true := g2
  rw [g1, Bool.true_and, g2', Bool.and_true]
  refine ⟨_, c_impl_within _ _ _, ifB_cases (fun g => ⟨by rw [nb_t g]; simp only [Bool.false_and], rfl⟩) (fun g2 => ?_)⟩
  rw [nb_f g2, Bool.true_and]
  refine ifP (fun g => ⟨by rw [decide_eq_true (show sd > X.now from g)]; rfl, rfl⟩) (fun g3 => ?_)
  rw [decide_eq_false (show ¬ sd > X.now from g3), Bool.not_false, Bool.true_and]
  refine ifN (fun g => ⟨by rw [decide_eq_false (show ¬ (la.length : Int) = 8 from g)]; simp only [Bool.false_and], rfl⟩) (fun g4 => ?_)
  rw [decide_eq_true (show (la.length : Int) = 8 from g4), Bool.true_and]
  refine ifN (fun g => ⟨by rw [decide_eq_false (show ¬ (ou.length : Int) = 8 from g)]; simp only [Bool.false_and], rfl⟩) (fun g5 => ?_)
  rw [decide_eq_true (show (ou.length : Int) = 8 from g5), Bool.true_and]
  refine ifN (fun g => ⟨by rw [decide_eq_false (show ¬ (fi.length : Int) = 8 from g)]; simp only [Bool.false_and], rfl⟩) (fun g6 => ?_)
  rw [decide_eq_true (show (fi.length : Int) = 8 from g6), Bool.true_and]
  refine ⟨(within le 0 3 && (decide (le = 0) || (last && X.busy))) = true, ⟨_, c_impl_within _ _ _, ifB_cases (fun g => ⟨by rw [nb_t g]; simp only [Bool.false_and], rfl⟩) (fun g8 => ?_)⟩, fun hJ => ?_⟩
  · have g8 := nb_f g8
    rw [g8, Bool.true_and]
    refine ifN (fun g9 => ?_) (fun g9 => ⟨rfl, by rw [decide_eq_true (show le = 0 from g9)]; rfl⟩)
    rw [decide_eq_false (show ¬ le = 0 from g9), Bool.false_or]
    refine ifB_cases (fun ga => ifB_cases (fun gb => ⟨by rw [nb_t gb]; simp only [Bool.false_and, Bool.and_false], rfl⟩) (fun gb => ⟨rfl, by rw [ga, nb_f gb]; rfl⟩)) (fun ga => ⟨by rw [ga]; simp only [Bool.false_and], rfl⟩)
  simp only [Bool.and_eq_true] at hJ
  rw [hJ.1, hJ.2, Bool.true_and, Bool.true_and]
  have hro := h.rout (k := ta) (by omega)
  exact ⟨_, c_impl_coreOK X.ks X.rs fs st hver hls hst, ifB_cases (fun g => ⟨_, c_impl_phaseOK X.ks X.rs X.ts X.sf (ta, ar, sd, ph, le, (fs, st, u0), la, ou, fi, u) (by show 0 ≤ ta ∧ ta < _; omega) hro hf hls, by rw [g]; rfl, rfl⟩) (fun g => ⟨by rw [g]; rfl, rfl⟩)⟩

/-! ### the whole -/
def jobsM (X : Pl) : Bool := (!X.busy || !decide ((X.jobs.length : Int) = 0)) && allR X.jobs.length (jobA X)
theorem c_spec_l11Jobs (X : Pl) (h : X.Fit) : TT n_spec_l11Jobs [X.e] [] (eB (jobsM X)) [] := by
  have hjl := h.sm.jobs
  refine r_spec_l11Jobs X.ks X.rs X.ts X.sf X.x.g X.x.f X.x.a X.x.b X.x.c X.x.d X.x.w X.mode X.now X.since X.late X.busy X.src X.jobs X.log ⟨∀ k, k < X.jobs.length → jobA X k = true, ⟨fun m i => 0 ≤ i ∧ i ≤ X.jobs.length ∧ m = (X.jobs.length - i).toNat ∧ ∀ k, k < i.toNat → jobA X k = true, ⟨_, rfl, rfl, by omega, by omega, rfl, fun j hj => by simp at hj⟩, ?_⟩, fun hall => ?_⟩
  · rintro m i ⟨h0, h1, rfl, h2⟩
    refine ifP (fun hlt => ?_) (fun hge => ⟨rfl, rfl, fun k hk => h2 k (by omega)⟩)
    have hf : jobA X i.toNat = false → jobsM X = false := fun e => by unfold jobsM; rw [allR_f (by omega) e]; simp
    have hn := next_all h0 h2
    have hmem := h.sm.fs (X.jobs.getD i.toNat dJb) (by rw [List.getD_eq_getElem?_getD, List.getElem?_eq_getElem (by omega)]; exact List.getElem_mem _)
    have hA : jobA X i.toNat = (jobE X (X.jobs.getD i.toNat dJb) (decide (i.toNat + 1 = X.jobs.length)) && (decide (i.toNat = 0) || !decide ((X.jobs.getD i.toNat dJb).1 ≥ (X.jobs.getD (i.toNat - 1) dJb).1))) := rfl
    rw [hA] at hf hn
    clear hA
    have el : (i == (X.jobs.length : Int) - 1) = decide (i.toNat + 1 = X.jobs.length) := by
      by_cases e : i.toNat + 1 = X.jobs.length
      · rw [decide_eq_true e]; simp; omega
      · rw [decide_eq_false e]; simp; omega
    rw [w64 (x := i + 1) (by omega), w64 (x := (X.jobs.length : Int) - 1) (by omega), w64 (x := i - 1) (by omega), el]
    have hp' : i > 0 → X.jobs.getD (Int.toNat (i - 1)) dJb = X.jobs.getD (i.toNat - 1) dJb := fun hx => by rw [show Int.toNat (i - 1) = i.toNat - 1 by omega]
    have cj := c_spec_l11Job X h (X.jobs.getD i.toNat dJb) (decide (i.toNat + 1 = X.jobs.length)) hmem
    revert hf hn hp' cj
    generalize X.jobs.getD i.toNat dJb = j
    generalize X.jobs.getD (Int.toNat (i - 1)) dJb = j1
    generalize X.jobs.getD (i.toNat - 1) dJb = j2
    generalize decide (i.toNat + 1 = X.jobs.length) = last
    intro hf hn hp' cj
    refine ⟨⟨h0, hlt⟩, _, cj, ifB_cases (fun g => ⟨by rw [hf (by rw [nb_t g]; rfl)], rfl⟩) (fun g1 => ?_)⟩
    have g1 := nb_f g1
    refine ifP (fun g2 => ?_) (fun g2 => ⟨_, by omega, rfl, rfl, by omega, by omega, rfl, hn (by rw [g1, decide_eq_true (show i.toNat = 0 by omega)]; rfl)⟩)
    rw [hp' g2]
    refine ⟨⟨h0, hlt⟩, ⟨by omega, by omega⟩, ifP (fun g3 => ⟨by rw [hf (by rw [decide_eq_true g3, decide_eq_false (show ¬ i.toNat = 0 by omega)]; simp only [Bool.not_true, Bool.or_self, Bool.and_false])], rfl⟩) (fun g3 => ⟨_, by omega, rfl, rfl, by omega, by omega, rfl, hn (by rw [g1, decide_eq_false g3]; simp only [Bool.not_false, Bool.or_true, Bool.and_true])⟩)⟩
  · have e : jobsM X = (!X.busy || !decide ((X.jobs.length : Int) = 0)) := by unfold jobsM; rw [allR_t hall, Bool.and_true]
    rw [e]
    refine ifP (fun g => ⟨by rw [decide_eq_false (by omega)]; simp only [Bool.not_false, Bool.or_true], rfl⟩) (fun g => ⟨by rw [decide_eq_true (by omega)]; simp only [Bool.not_true, Bool.or_false], rfl⟩)
def plcM (X : Pl) : Bool :=
  prgOK X.ks X.rs X.ts X.sf && (decide ((admM (costsM X.rs) X.ts).2.2 = 0) && (dataOK X.x && (decide (kindsD X.x.f = X.ks) && (within X.mode 1 2 && (isTm X.now && (within X.since 0 X.now && (isTm X.late && (stopM X && (srcM X && (jobsM X && logOK X))))))))))
theorem plcM_prg {X : Pl} (h : plcM X = true) : prgOK X.ks X.rs X.ts X.sf = true := by
  unfold plcM at h
  rw [Bool.and_eq_true] at h; exact h.1
theorem c_impl_PlcOK (X : Pl) (hs : X.Sm) (hp : prgSmall X.ks X.rs X.ts X.sf) : TT n_impl_PlcOK [X.e] [] (eB (plcM X)) [] := by
  refine r_impl_PlcOK X.ks X.rs X.ts X.sf X.x.g X.x.f X.x.a X.x.b X.x.c X.x.d X.x.w X.mode X.now X.since X.late X.busy X.src X.jobs X.log ⟨_, c_impl_isProgram X.ks X.rs X.ts X.sf hp, ?_⟩
  unfold plcM
  refine ifB_cases (fun g => ⟨by rw [nb_t g]; simp only [Bool.false_and], rfl⟩) (fun g1 => ?_)
  have g1 := nb_f g1
  have hfit := prgOK_fit g1
  have hF : X.Fit := ⟨hfit, hs⟩
  have h5 := hfit.ts5
  have hjl := hs.jobs
  rw [g1, Bool.true_and]
  refine ⟨_, _, _, c_impl_admit X.ks X.rs X.ts X.sf hfit, ifN (fun g => ⟨by rw [decide_eq_false g]; simp only [Bool.false_and], rfl⟩) (fun g2 => ?_)⟩
  rw [decide_eq_true g2, Bool.true_and]
  refine ⟨_, c_impl_DataOK X.x hs.g, ifB_cases (fun g => ⟨by rw [nb_t g]; simp only [Bool.false_and], rfl⟩) (fun g3 => ?_)⟩
  rw [nb_f g3, Bool.true_and]
  have hkl : (kindsD X.x.f).length ≤ 1048576 := by unfold kindsD; rw [List.length_map]; exact hs.f
  refine ⟨_, c_impl_kindsOf X.x hs.f, _, c_Equal_int2 (kindsD X.x.f) X.ks hkl, ifB_cases (fun g => ⟨by rw [nb_t g]; simp only [Bool.false_and], rfl⟩) (fun g4 => ?_)⟩
  rw [nb_f g4, Bool.true_and]
  refine ⟨_, c_impl_within _ _ _, ifB_cases (fun g => ⟨by rw [nb_t g]; simp only [Bool.false_and], rfl⟩) (fun g5 => ?_)⟩
  rw [nb_f g5, Bool.true_and]
  refine ⟨(isTm X.now && (within X.since 0 X.now && (isTm X.late && (stopM X && (srcM X && (!X.busy || !decide ((X.jobs.length : Int) = 0))))))) = true, ?_, fun hJ => ?_⟩
  · have hJ : ∀ q : Bool, (isTm X.now && (within X.since 0 X.now && (isTm X.late && (stopM X && (srcM X && (((!X.busy || !decide ((X.jobs.length : Int) = 0)) && allR X.jobs.length (jobA X)) && q)))))) = (isTm X.now && (within X.since 0 X.now && (isTm X.late && (stopM X && (srcM X && (jobsM X && q)))))) := fun q => rfl
    refine ⟨_, c_impl_isTime _, ifB_cases (fun g => ⟨by rw [nb_t g]; simp only [Bool.false_and], rfl⟩) (fun g6 => ?_)⟩
    rw [nb_f g6, Bool.true_and, Bool.true_and]
    refine ⟨_, c_impl_isTime _, ifB_cases (fun g => ⟨by rw [nb_t g]; simp only [Bool.false_and, Bool.and_false], rfl⟩) (fun g7 => ?_)⟩
    rw [nb_f g7]
    refine ⟨_, c_impl_within _ _ _, ifB_cases (fun g => ⟨by rw [nb_t g]; simp only [Bool.false_and], rfl⟩) (fun g8 => ?_)⟩
    rw [nb_f g8, Bool.true_and, Bool.true_and, Bool.true_and, Bool.true_and]
    refine ⟨_, c_impl_sourcesOK X hs, ifB_cases (fun g => ⟨?_, rfl⟩) (fun g9 => ?_)⟩
    · have g := nb_t g
      rw [← Bool.and_assoc, Bool.and_comm (stopM X), g]; simp only [Bool.false_and]
    have g9 := nb_f g9
    have g9' : srcM X = true ∧ stopM X = true := by simpa only [Bool.and_eq_true] using g9
    rw [g9'.1, g9'.2, Bool.true_and, Bool.true_and, Bool.true_and, Bool.true_and]
    refine ifB_cases (fun ga => ifE (fun gb => ⟨?_, rfl⟩) (fun gb => ⟨rfl, by rw [decide_eq_false gb]; simp only [Bool.not_false, Bool.or_true]⟩)) (fun ga => ⟨rfl, by rw [ga]; rfl⟩)
    unfold jobsM
    rw [ga, decide_eq_true gb]; rfl
  simp only [Bool.and_eq_true] at hJ
  obtain ⟨k1, k2, k3, k4, k5, k6⟩ := hJ
  have ej : jobsM X = allR X.jobs.length (jobA X) := by unfold jobsM; rw [k6, Bool.true_and]
  rw [k1, k2, k3, k4, k5, ej, Bool.true_and, Bool.true_and, Bool.true_and, Bool.true_and, Bool.true_and]
  refine ⟨fun m i => 0 ≤ i ∧ i ≤ X.jobs.length ∧ m = (X.jobs.length - i).toNat ∧ ∀ k, k < i.toNat → jobA X k = true, ⟨_, rfl, rfl, by omega, by omega, rfl, fun j hj => by simp at hj⟩, ?_⟩
  rintro m i ⟨h0, h1, rfl, h2⟩
  refine ifP (fun hlt => ?_) (fun hge => ⟨_, c_impl_logOK X hs (by omega), by rw [allR_t fun k hk => h2 k (by omega)]; rfl, rfl⟩)
  refine ⟨_, c_impl_jobOK X hF i ⟨h0, hlt⟩, ifB_cases (fun g => ⟨by rw [allR_f (i := i.toNat) (by omega) (nb_t g)]; rfl, rfl⟩) (fun g => ?_)⟩
  rw [w64 (x := i + 1) (by omega)]
  exact ⟨_, by omega, rfl, rfl, by omega, by omega, rfl, next_all h0 h2 (nb_f g)⟩
theorem c_spec_l11Time (n : Int) : TT n_spec_l11Time [eI n] [] (eB (isTm n)) [] := r_spec_l11Time n ⟨_, c_spec_l01In _ _ _, rfl, rfl⟩
theorem c_spec_l11OK (X : Pl) (hs : X.Sm) (hp : prgSmall X.ks X.rs X.ts X.sf) : TT n_spec_l11OK [X.e] [] (eB (plcM X)) [] := by
  refine r_spec_l11OK X.ks X.rs X.ts X.sf X.x.g X.x.f X.x.a X.x.b X.x.c X.x.d X.x.w X.mode X.now X.since X.late X.busy X.src X.jobs X.log ⟨_, c_spec_l08OK X.ks X.rs X.ts X.sf hp, ?_⟩
  unfold plcM
  refine ifB_cases (fun g => ⟨by rw [nb_t g]; simp only [Bool.false_and], rfl⟩) (fun g1 => ?_)
  have g1 := nb_f g1
  have hfit := prgOK_fit g1
  have hF : X.Fit := ⟨hfit, hs⟩
  have h5 := hfit.ts5
  rw [g1, Bool.true_and]
  refine ⟨_, _, _, c_spec_l09Admit X.ks X.rs X.ts X.sf hfit, ifN (fun g => ⟨by rw [decide_eq_false g]; simp only [Bool.false_and], rfl⟩) (fun g2 => ?_)⟩
  rw [decide_eq_true g2, Bool.true_and]
  refine ⟨_, c_spec_DataOK X.x, ifB_cases (fun g => ⟨by rw [nb_t g]; simp only [Bool.false_and], rfl⟩) (fun g3 => ?_)⟩
  rw [nb_f g3, Bool.true_and]
  have hkl : (kindsD X.x.f).length ≤ 1048576 := by unfold kindsD; rw [List.length_map]; exact hs.f
  refine ⟨_, c_spec_l06Kinds X.x hs.f, _, c_spec_l00Same (kindsD X.x.f) X.ks hkl, ifB_cases (fun g => ⟨by rw [nb_t g]; simp only [Bool.false_and], rfl⟩) (fun g4 => ?_)⟩
  rw [nb_f g4, Bool.true_and]
  refine ⟨_, c_spec_l01In _ _ _, ifB_cases (fun g => ⟨by rw [nb_t g]; simp only [Bool.false_and], rfl⟩) (fun g5 => ?_)⟩
  have hmode := within_iff.1 (nb_f g5)
  rw [nb_f g5, Bool.true_and]
  refine ⟨_, c_spec_l11Time _, ifB_cases (fun g => ⟨by rw [nb_t g]; simp only [Bool.false_and], rfl⟩) (fun g6 => ?_)⟩
  rw [nb_f g6, Bool.true_and]
  refine ⟨_, c_spec_l01In _ _ _, ifB_cases (fun g => ⟨by rw [nb_t g]; simp only [Bool.false_and], rfl⟩) (fun g7 => ?_)⟩
  rw [nb_f g7, Bool.true_and]
  refine ⟨_, c_spec_l11Time _, ifB_cases (fun g => ⟨by rw [nb_t g]; simp only [Bool.false_and], rfl⟩) (fun g8 => ?_)⟩
  rw [nb_f g8, Bool.true_and]
  refine ⟨stopM X = true, ifE (fun h1 => ?_) (fun h1 => ⟨rfl, ?_⟩), fun hJ => ?_⟩
  · have e2 : decide (X.mode = 2) = false := decide_eq_false (by omega)
    refine ifP (fun h2 => ⟨?_, rfl⟩) (fun h2 => ⟨_, c_spec_l06SameBools X.x.d X.sf hs.d, ifB_cases (fun h3 => ⟨?_, rfl⟩) (fun h3 => ⟨rfl, ?_⟩)⟩)
    · unfold stopM
      rw [e2, decide_eq_false (show ¬ (X.jobs.length : Int) = 0 by omega)]; rfl
    · unfold stopM
      rw [e2, nb_t h3]; simp only [Bool.and_false, Bool.or_self, Bool.false_and]
    · unfold stopM
      rw [e2, nb_f h3, decide_eq_true (show (X.jobs.length : Int) = 0 by omega)]; rfl
  · unfold stopM
    rw [decide_eq_true (show X.mode = 2 by omega)]; rfl
  rw [hJ, Bool.true_and]
  exact ⟨_, c_spec_l11Sources X hs, ifB_cases (fun g => ⟨_, c_spec_l11Jobs X hF, ifB_cases (fun g' => ⟨_, c_spec_l11Log X hs (by omega), by rw [g, g']; rfl, rfl⟩) (fun g' => ⟨by rw [g, g']; rfl, rfl⟩)⟩) (fun g => ⟨by rw [g]; rfl, rfl⟩)⟩
end Go.Ry
