/- Processors: sources, jobs, the log: what is right. No condition. -/
import Derived.Test.YthpolfpbioebnaaGreatPPlc4
import Derived.Test.YthpolfpbioebnaaGreatPSrc1
import Derived.Test.YthpolfpbioebnaaGreatPAdm1
set_option linter.unusedVariables false
set_option linter.unusedSimpArgs false
namespace Go.Ry
open Go.Proofs

abbrev Sc := Int × Int × Int × Int × Int × Int × List Int × Unit
@[reducible] def tSc : Ty := .pair (.int .i64) (.pair (.int .i64) (.pair (.int .i64) (.pair (.int .i64) (.pair (.int .i64) (.pair (.int .i64) (.pair (.slice (.int .i64)) .unit))))))
@[reducible] def dSc : Sc := ((0 : Int), ((0 : Int), ((0 : Int), ((0 : Int), ((0 : Int), ((0 : Int), (([] : List Int), ())))))))
abbrev Jb := Int × Int × Int × Int × Int × (List Frm × List Int × Unit) × List Bool × List Bool × List Bool × Unit
@[reducible] def tJb : Ty := .pair (.int .i64) (.pair (.int .i64) (.pair (.int .i64) (.pair (.int .i64) (.pair (.int .i64) (.pair (.pair (.slice tFrm) (.pair (.slice (.int .i64)) .unit)) (.pair (.slice .bool) (.pair (.slice .bool) (.pair (.slice .bool) .unit))))))))
@[reducible] def dJb : Jb := ((0 : Int), ((0 : Int), ((0 : Int), ((0 : Int), ((0 : Int), ((([] : List Frm), (([] : List Int), ())), (([] : List Bool), (([] : List Bool), (([] : List Bool), ())))))))))
abbrev Dn1 := Int × Int × Int × Int × Unit
@[reducible] def tDn1 : Ty := .pair (.int .i64) (.pair (.int .i64) (.pair (.int .i64) (.pair (.int .i64) .unit)))
@[reducible] def dDn1 : Dn1 := ((0 : Int), ((0 : Int), ((0 : Int), ((0 : Int), ()))))
structure Pl where
  ks : List Int
  rs : List Rou
  ts : List Tsk
  sf : List Bool
  x : Dat
  mode : Int
  now : Int
  since : Int
  late : Int
  busy : Bool
  src : List Sc
  jobs : List Jb
  log : List Dn1
@[reducible] def Pl.e (X : Pl) : Ent := .agg [.sl tyInt X.ks, .sl tRou X.rs, .sl tTsk X.ts, .sl .bool X.sf, .sl tyInt X.x.g, .sl tFb X.x.f, .sl .bool X.x.a, .sl .bool X.x.b, .sl .bool X.x.c, .sl .bool X.x.d, cI X.x.w,
  cI X.mode, cI X.now, cI X.since, cI X.late, .bool X.busy, .sl tSc X.src, .sl tJb X.jobs, .sl tDn1 X.log]
/-- What is told of sizes. -/
structure Pl.Sm (X : Pl) : Prop where
  g : X.x.g.length ≤ 1048576
  f : X.x.f.length ≤ 1048576
  d : X.x.d.length ≤ 1048576
  ks : X.ks.length ≤ 1048576
  src : X.src.length ≤ 1048576
  jobs : X.jobs.length ≤ 1048576
  log : X.log.length ≤ 1048576
  fs : ∀ j ∈ X.jobs, j.2.2.2.2.2.1.1.length ≤ 1048576 ∧ j.2.2.2.2.2.1.2.1.length ≤ 1048576 ∧ ∀ f ∈ j.2.2.2.2.2.1.1, f.2.2.1.length ≤ 1048576

theorem nb_t {b : Bool} (h : (!b) = true) : b = false := by simpa using h
theorem nb_f {b : Bool} (h : (!b) = false) : b = true := by simpa using h

/-! ### sources -/
@[reducible] def scOK (s : Sc) (t : Tsk) : Bool := sourceOK s.1 s.2.1 s.2.2.1 s.2.2.2.1 s.2.2.2.2.1 s.2.2.2.2.2.1 s.2.2.2.2.2.2.1 t.1 t.2.1 t.2.2.1 t.2.2.2.1 t.2.2.2.2.1 t.2.2.2.2.2.1
def srcE1 (now mode : Int) (s : Sc) (t : Tsk) : Bool := scOK s t && (!decide (s.1 > now) && !(decide (mode = 1) && decide ((s.2.2.2.2.2.2.1.length : Int) > 0)))
def srcM (X : Pl) : Bool := decide (X.src.length = X.ts.length) && allR X.src.length fun i => srcE1 X.now X.mode (X.src.getD i dSc) (X.ts.getD i dTsk)
theorem srcM_f {X : Pl} {i : Nat} (hi : i < X.src.length) (h : srcE1 X.now X.mode (X.src.getD i dSc) (X.ts.getD i dTsk) = false) : srcM X = false := by
  unfold srcM; rw [allR_f hi h]; simp
theorem c_spec_l11Sources (X : Pl) (hs : X.Sm) : TT n_spec_l11Sources [X.e] [] (eB (srcM X)) [] := by
  have hl := hs.src
  refine r_spec_l11Sources X.ks X.rs X.ts X.sf X.x.g X.x.f X.x.a X.x.b X.x.c X.x.d X.x.w X.mode X.now X.since X.late X.busy X.src X.jobs X.log (ifN (fun h => ⟨by unfold srcM; rw [decide_eq_false (by omega)]; rfl, rfl⟩) (fun h => ?_))
  have hlen : X.src.length = X.ts.length := by omega
  refine ⟨fun m i => 0 ≤ i ∧ i ≤ X.src.length ∧ m = (X.src.length - i).toNat ∧ ∀ j, j < i.toNat → srcE1 X.now X.mode (X.src.getD j dSc) (X.ts.getD j dTsk) = true, ⟨_, rfl, by omega, by omega, rfl, fun j hj => by simp at hj⟩, ?_⟩
  rintro m i ⟨h0, h1, rfl, h2⟩
  refine ifP (fun hlt => ?_) (fun hge => ⟨by unfold srcM; rw [decide_eq_true hlen, allR_t fun j hj => h2 j (by omega)]; rfl, rfl⟩)
  have hf := srcM_f (X := X) (i := i.toNat) (by omega)
  have hn := next_all (p := fun j => srcE1 X.now X.mode (X.src.getD j dSc) (X.ts.getD j dTsk)) h0 h2
  revert hf hn
  generalize X.src.getD i.toNat dSc = s
  generalize X.ts.getD i.toNat dTsk = t
  intro hf hn
  rw [w64 (x := i + 1) (by omega)]
  refine ⟨⟨h0, hlt⟩, ⟨h0, by omega⟩, _, c_spec_SourceOK s.1 s.2.1 s.2.2.1 s.2.2.2.1 s.2.2.2.2.1 s.2.2.2.2.2.1 s.2.2.2.2.2.2.1 t.1 t.2.1 t.2.2.1 t.2.2.2.1 t.2.2.2.2.1 t.2.2.2.2.2.1, ifB_cases (fun hb => ?_) (fun hb => ?_)⟩
  · have hb : scOK s t = false := by simpa using hb
    exact ⟨by rw [hf (by unfold srcE1; rw [hb]; rfl)], rfl⟩
  have hb : scOK s t = true := by simpa using hb
  refine ifP (fun h3 => ⟨by rw [hf (by unfold srcE1; rw [decide_eq_true h3]; simp)], rfl⟩) (fun h3 => ifE (fun h4 => ifP (fun h5 => ⟨by rw [hf (by unfold srcE1; rw [decide_eq_true h4, decide_eq_true h5]; simp)], rfl⟩) (fun h5 => ?_)) (fun h4 => ?_))
  · exact ⟨_, by omega, rfl, by omega, by omega, rfl, hn (by unfold srcE1; rw [hb, decide_eq_false h3, decide_eq_false h5]; simp)⟩
  · exact ⟨_, by omega, rfl, by omega, by omega, rfl, hn (by unfold srcE1; rw [hb, decide_eq_false h3, decide_eq_false h4]; simp)⟩
def stopM (X : Pl) : Bool := decide (X.mode = 2) || (decide ((X.jobs.length : Int) = 0) && decide (X.x.d = X.sf))
theorem c_impl_sourcesOK (X : Pl) (hs : X.Sm) : TT n_impl_sourcesOK [X.e] [] (eB (srcM X && stopM X)) [] := by
  have hl := hs.src
  refine r_impl_sourcesOK X.ks X.rs X.ts X.sf X.x.g X.x.f X.x.a X.x.b X.x.c X.x.d X.x.w X.mode X.now X.since X.late X.busy X.src X.jobs X.log (ifN (fun h => ⟨by unfold srcM; rw [decide_eq_false (by omega)]; rfl, rfl⟩) (fun h => ?_))
  have hlen : X.src.length = X.ts.length := by omega
  refine ⟨srcM X = true, ⟨fun m i => 0 ≤ i ∧ i ≤ X.src.length ∧ m = (X.src.length - i).toNat ∧ ∀ j, j < i.toNat → srcE1 X.now X.mode (X.src.getD j dSc) (X.ts.getD j dTsk) = true, ⟨_, rfl, rfl, by omega, by omega, rfl, fun j hj => by simp at hj⟩, ?_⟩, fun hM => ?_⟩
  · rintro m i ⟨h0, h1, rfl, h2⟩
    refine ifP (fun hlt => ?_) (fun hge => ⟨rfl, by unfold srcM; rw [decide_eq_true hlen, allR_t fun j hj => h2 j (by omega)]; rfl⟩)
    have hf := srcM_f (X := X) (i := i.toNat) (by omega)
    have hn := next_all (p := fun j => srcE1 X.now X.mode (X.src.getD j dSc) (X.ts.getD j dTsk)) h0 h2
    revert hf hn
    generalize X.src.getD i.toNat dSc = s
    generalize X.ts.getD i.toNat dTsk = t
    intro hf hn
    rw [w64 (x := i + 1) (by omega)]
    refine ⟨⟨h0, hlt⟩, ⟨h0, by omega⟩, _, c_impl_SourceOK s.1 s.2.1 s.2.2.1 s.2.2.2.1 s.2.2.2.2.1 s.2.2.2.2.2.1 s.2.2.2.2.2.2.1 t.1 t.2.1 t.2.2.1 t.2.2.2.1 t.2.2.2.2.1 t.2.2.2.2.2.1, ifB_cases (fun hb => ?_) (fun hb => ?_)⟩
    · have hb : scOK s t = false := by simpa using hb
      exact ⟨by rw [hf (by unfold srcE1; rw [hb]; rfl)]; rfl, rfl⟩
    have hb : scOK s t = true := by simpa using hb
    refine ifP (fun h3 => ⟨by rw [hf (by unfold srcE1; rw [decide_eq_true h3]; simp)]; rfl, rfl⟩) (fun h3 => ifE (fun h4 => ifP (fun h5 => ⟨by rw [hf (by unfold srcE1; rw [decide_eq_true h4, decide_eq_true h5]; simp)]; rfl, rfl⟩) (fun h5 => ?_)) (fun h4 => ?_))
    · exact ⟨_, by omega, rfl, rfl, by omega, by omega, rfl, hn (by unfold srcE1; rw [hb, decide_eq_false h3, decide_eq_false h5]; simp)⟩
    · exact ⟨_, by omega, rfl, rfl, by omega, by omega, rfl, hn (by unfold srcE1; rw [hb, decide_eq_false h3, decide_eq_false h4]; simp)⟩
  · rw [hM, Bool.true_and]
    unfold stopM
    refine ifE (fun h3 => ⟨by rw [decide_eq_true h3]; rfl, rfl⟩) (fun h3 => ?_)
    rw [decide_eq_false h3, Bool.false_or]
    refine ifE (fun h4 => ⟨_, c_Equal_bool2 X.x.d X.sf hs.d, by rw [decide_eq_true h4]; rfl, rfl⟩) (fun h4 => ⟨by rw [decide_eq_false h4]; rfl, rfl⟩)

/-! ### the log -/
def logE (nt now : Int) (e : Dn1) : Bool := within e.1 0 (nt - 1) && (within e.2.1 0 e.2.2.1 && (!decide (e.2.2.1 > e.2.2.2.1) && !decide (e.2.2.2.1 > now)))
def logA (X : Pl) (i : Nat) : Bool := logE X.ts.length X.now (X.log.getD i dDn1) && (decide (i = 0) || !decide ((X.log.getD i dDn1).2.2.2.1 < (X.log.getD (i - 1) dDn1).2.2.2.1))
def logOK (X : Pl) : Bool := decide ((X.log.length : Int) ≤ 40) && allR X.log.length (logA X)
theorem c_spec_l11Log (X : Pl) (hs : X.Sm) (ht : X.ts.length ≤ 1048576) : TT n_spec_l11Log [X.e] [] (eB (logOK X)) [] := by
  have hl := hs.log
  refine r_spec_l11Log X.ks X.rs X.ts X.sf X.x.g X.x.f X.x.a X.x.b X.x.c X.x.d X.x.w X.mode X.now X.since X.late X.busy X.src X.jobs X.log (ifP (fun h => ⟨by unfold logOK; rw [decide_eq_false (by omega)]; rfl, rfl⟩) (fun h => ?_))
  refine ⟨fun m i => 0 ≤ i ∧ i ≤ X.log.length ∧ m = (X.log.length - i).toNat ∧ ∀ j, j < i.toNat → logA X j = true, ⟨_, rfl, by omega, by omega, rfl, fun j hj => by simp at hj⟩, ?_⟩
  rintro m i ⟨h0, h1, rfl, h2⟩
  refine ifP (fun hlt => ?_) (fun hge => ⟨by unfold logOK; rw [decide_eq_true (by omega), allR_t fun j hj => h2 j (by omega)]; rfl, rfl⟩)
  have hf : logA X i.toNat = false → logOK X = false := fun e => by unfold logOK; rw [allR_f (by omega) e]; simp
  have hn := next_all h0 h2
  rw [w64 (x := i + 1) (by omega), w64 (x := (X.ts.length : Int) - 1) (by omega)]
  have hA : logA X i.toNat = (logE X.ts.length X.now (X.log.getD i.toNat dDn1) && (decide (i.toNat = 0) || !decide ((X.log.getD i.toNat dDn1).2.2.2.1 < (X.log.getD (i.toNat - 1) dDn1).2.2.2.1))) := rfl
  rw [hA] at hf hn
  clear hA
  by_cases hi : i = 0
  · rw [decide_eq_true (show i.toNat = 0 by omega)] at hf hn
    revert hf hn
    generalize X.log.getD (i.toNat - 1) dDn1 = e'
    generalize X.log.getD i.toNat dDn1 = e
    intro hf hn
    refine ⟨⟨h0, hlt⟩, _, c_spec_l01In _ _ _, ifB_cases (fun hb => ⟨by rw [hf (by unfold logE; rw [nb_t hb]; rfl)], rfl⟩) (fun hb => ⟨_, c_spec_l01In _ _ _, ifB_cases (fun hc => ⟨by rw [hf (by unfold logE; rw [nb_t hc]; simp)], rfl⟩) (fun hc => ifP (fun hd => ⟨by rw [hf (by unfold logE; rw [decide_eq_true hd]; simp)], rfl⟩) (fun hd => ifP (fun he => ⟨by rw [hf (by unfold logE; rw [decide_eq_true he]; simp)], rfl⟩) (fun he => ifP_f (by omega) ⟨_, by omega, rfl, by omega, by omega, rfl, hn ?_⟩)))⟩)⟩
    unfold logE
    rw [nb_f hb, nb_f hc, decide_eq_false hd, decide_eq_false he]; rfl
  · rw [decide_eq_false (show ¬ i.toNat = 0 by omega)] at hf hn
    rw [w64 (x := i - 1) (by omega), toNat_pred (by omega)]
    revert hf hn
    generalize X.log.getD i.toNat dDn1 = e
    generalize X.log.getD (i.toNat - 1) dDn1 = e'
    intro hf hn
    refine ⟨⟨h0, hlt⟩, _, c_spec_l01In _ _ _, ifB_cases (fun hb => ⟨by rw [hf (by unfold logE; rw [nb_t hb]; rfl)], rfl⟩) (fun hb => ⟨_, c_spec_l01In _ _ _, ifB_cases (fun hc => ⟨by rw [hf (by unfold logE; rw [nb_t hc]; simp)], rfl⟩) (fun hc => ifP (fun hd => ⟨by rw [hf (by unfold logE; rw [decide_eq_true hd]; simp)], rfl⟩) (fun hd => ifP (fun he => ⟨by rw [hf (by unfold logE; rw [decide_eq_true he]; simp)], rfl⟩) (fun he => ifP_t (by omega) ⟨⟨by omega, by omega⟩, ifP (fun hg => ⟨by rw [hf (by rw [decide_eq_true hg]; simp)], rfl⟩) (fun hg => ⟨_, by omega, rfl, by omega, by omega, rfl, hn ?_⟩)⟩)))⟩)⟩
    unfold logE
    rw [nb_f hb, nb_f hc, decide_eq_false hd, decide_eq_false he, decide_eq_false hg]; rfl
theorem c_impl_logOK (X : Pl) (hs : X.Sm) (ht : X.ts.length ≤ 1048576) : TT n_impl_logOK [X.e] [] (eB (logOK X)) [] := by
  have hl := hs.log
  refine r_impl_logOK X.ks X.rs X.ts X.sf X.x.g X.x.f X.x.a X.x.b X.x.c X.x.d X.x.w X.mode X.now X.since X.late X.busy X.src X.jobs X.log ?_
  refine ⟨fun m i => 0 ≤ i ∧ i ≤ X.log.length ∧ m = (X.log.length - i).toNat ∧ ∀ j, j < i.toNat → logA X j = true, ⟨_, rfl, rfl, by omega, by omega, rfl, fun j hj => by simp at hj⟩, ?_⟩
  rintro m i ⟨h0, h1, rfl, h2⟩
  refine ifP (fun hlt => ?_) (fun hge => ⟨by unfold logOK; rw [allR_t fun j hj => h2 j (by omega), Bool.and_true], rfl⟩)
  have hf : logA X i.toNat = false → logOK X = false := fun e => by unfold logOK; rw [allR_f (by omega) e]; simp
  have hn := next_all h0 h2
  rw [w64 (x := i + 1) (by omega), w64 (x := (X.ts.length : Int) - 1) (by omega)]
  have hA : logA X i.toNat = (logE X.ts.length X.now (X.log.getD i.toNat dDn1) && (decide (i.toNat = 0) || !decide ((X.log.getD i.toNat dDn1).2.2.2.1 < (X.log.getD (i.toNat - 1) dDn1).2.2.2.1))) := rfl
  rw [hA] at hf hn
  clear hA
  by_cases hi : i = 0
  · rw [decide_eq_true (show i.toNat = 0 by omega)] at hf hn
    revert hf hn
    generalize X.log.getD (i.toNat - 1) dDn1 = e'
    generalize X.log.getD i.toNat dDn1 = e
    intro hf hn
    refine ⟨⟨h0, hlt⟩, _, c_impl_within _ _ _, ifB_cases (fun hb => ⟨by rw [hf (by unfold logE; rw [nb_t hb]; rfl)], rfl⟩) (fun hb => ⟨_, c_impl_within _ _ _, ifB_cases (fun hc => ⟨by rw [hf (by unfold logE; rw [nb_t hc]; simp)], rfl⟩) (fun hc => ifP (fun hd => ⟨by rw [hf (by unfold logE; rw [decide_eq_true hd]; simp)], rfl⟩) (fun hd => ifP (fun he => ⟨by rw [hf (by unfold logE; rw [decide_eq_true he]; simp)], rfl⟩) (fun he => ifP_f (by omega) ⟨_, by omega, rfl, rfl, by omega, by omega, rfl, hn ?_⟩)))⟩)⟩
    unfold logE
    rw [nb_f hb, nb_f hc, decide_eq_false hd, decide_eq_false he]; rfl
  · rw [decide_eq_false (show ¬ i.toNat = 0 by omega)] at hf hn
    rw [w64 (x := i - 1) (by omega), toNat_pred (by omega)]
    revert hf hn
    generalize X.log.getD i.toNat dDn1 = e
    generalize X.log.getD (i.toNat - 1) dDn1 = e'
    intro hf hn
    refine ⟨⟨h0, hlt⟩, _, c_impl_within _ _ _, ifB_cases (fun hb => ⟨by rw [hf (by unfold logE; rw [nb_t hb]; rfl)], rfl⟩) (fun hb => ⟨_, c_impl_within _ _ _, ifB_cases (fun hc => ⟨by rw [hf (by unfold logE; rw [nb_t hc]; simp)], rfl⟩) (fun hc => ifP (fun hd => ⟨by rw [hf (by unfold logE; rw [decide_eq_true hd]; simp)], rfl⟩) (fun hd => ifP (fun he => ⟨by rw [hf (by unfold logE; rw [decide_eq_true he]; simp)], rfl⟩) (fun he => ifP_t (by omega) ⟨⟨by omega, by omega⟩, ifP (fun hg => ⟨by rw [hf (by rw [decide_eq_true hg]; simp)], rfl⟩) (fun hg => ⟨_, by omega, rfl, rfl, by omega, by omega, rfl, hn ?_⟩)⟩)))⟩)⟩
    unfold logE
    rw [nb_f hb, nb_f hc, decide_eq_false hd, decide_eq_false he, decide_eq_false hg]; rfl

/-! ### jobs -/
def phM (rs : List Rou) (r phase left : Int) (fs : List Frm) (st : List Int) : Bool :=
  if phase = 1 then decide (left = 0) && sameNew rs r fs st
  else if phase = 2 then (if (fs.length : Int) = 0 then decide (left > 0) else decide ((fs.getD 0 dFrm).1 = r))
  else if phase = 3 then decide ((fs.length : Int) = 0) && decide (left = 0) else false
theorem c_impl_phaseOK (ks : List Int) (rs : List Rou) (ts : List Tsk) (sf : List Bool) (j : Jb) (hj : 0 ≤ j.1 ∧ j.1 < (ts.length : Int)) (hr : 0 ≤ (ts.getD j.1.toNat dTsk).2.2.2.2.2.1 ∧ (ts.getD j.1.toNat dTsk).2.2.2.2.2.1 < (rs.length : Int))
    (hf : j.2.2.2.2.2.1.1.length ≤ 1048576) (hls : ∀ f ∈ j.2.2.2.2.2.1.1, f.2.2.1.length ≤ 1048576) :
    TT n_impl_phaseOK [prgE ks rs ts sf, .agg [cI j.1, cI j.2.1, cI j.2.2.1, cI j.2.2.2.1, cI j.2.2.2.2.1, .sl tFrm j.2.2.2.2.2.1.1, .sl tyInt j.2.2.2.2.2.1.2.1, .sl .bool j.2.2.2.2.2.2.1, .sl .bool j.2.2.2.2.2.2.2.1, .sl .bool j.2.2.2.2.2.2.2.2.1]] []
      (eB (phM rs (ts.getD j.1.toNat dTsk).2.2.2.2.2.1 j.2.2.2.1 j.2.2.2.2.1 j.2.2.2.2.2.1.1 j.2.2.2.2.2.1.2.1)) [] := by
  obtain ⟨ta, ar, sd, ph, le, ⟨fs, st, u0⟩, la, ou, fi, u⟩ := j
  simp only at hj hr hf hls
  refine r_impl_phaseOK ks rs ts sf ta ar sd ph le fs st la ou fi ⟨hj, ?_⟩
  unfold phM
  refine ifE (fun h1 => ?_) (fun h1 => ?_)
  · rw [if_pos h1]
    exact ifE (fun h2 => ⟨_, c_impl_newCore rs _ hr, _, c_impl_SameCore rs _ fs st hf hls, by rw [decide_eq_true h2]; rfl, rfl⟩) (fun h2 => ⟨by rw [decide_eq_false h2]; rfl, rfl⟩)
  rw [if_neg h1]
  refine ifE (fun h2 => ?_) (fun h2 => ?_)
  · rw [if_pos h2]
    refine ifE (fun h3 => ⟨by rw [if_pos h3], rfl⟩) (fun h3 => ⟨⟨by omega, by omega⟩, ?_, rfl⟩)
    rw [if_neg h3]
    congr 2
  rw [if_neg h2]
  refine ifE (fun h3 => ?_) (fun h3 => ⟨by rw [if_neg h3], rfl⟩)
  rw [if_pos h3]
  exact ifE (fun h4 => ⟨by rw [decide_eq_true h4]; congr 2, rfl⟩) (fun h4 => ⟨by rw [decide_eq_false h4]; rfl, rfl⟩)
def jobE (X : Pl) (j : Jb) (last : Bool) : Bool :=
  within j.1 0 ((X.ts.length : Int) - 1) && (within j.2.1 0 j.2.2.1 && (!decide (j.2.2.1 > X.now) && (decide ((j.2.2.2.2.2.2.1.length : Int) = 8) && (decide ((j.2.2.2.2.2.2.2.1.length : Int) = 8) && (decide ((j.2.2.2.2.2.2.2.2.1.length : Int) = 8) &&
    (within j.2.2.2.2.1 0 3 && ((decide (j.2.2.2.2.1 = 0) || (last && X.busy)) && (coreM X.ks X.rs j.2.2.2.2.2.1.1 j.2.2.2.2.2.1.2.1 && phM X.rs (X.ts.getD j.1.toNat dTsk).2.2.2.2.2.1 j.2.2.2.1 j.2.2.2.2.1 j.2.2.2.2.2.1.1 j.2.2.2.2.2.1.2.1))))))))
def jobA (X : Pl) (i : Nat) : Bool := jobE X (X.jobs.getD i dJb) (decide (i + 1 = X.jobs.length)) && (decide (i = 0) || !decide ((X.jobs.getD i dJb).1 ≥ (X.jobs.getD (i - 1) dJb).1))
end Go.Ry
