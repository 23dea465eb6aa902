/- Processors: within their bounds; balanced. No condition. -/
import Derived.Test.YtkgefledbigklaaGreatPPlc7
set_option linter.unusedVariables false
set_option linter.unusedSimpArgs false
namespace Go.Ry
open Go.Proofs

structure Pl.Ok (X : Pl) : Prop where
  prg : PrgFit X.ks X.rs X.ts X.sf
  adm : (admM (costsM X.rs) X.ts).2.2 = 0
  now : 0 ≤ X.now ∧ X.now ≤ 2147483647
  src : srcM X = true
  log : logOK X = true
theorem plcM_ok {X : Pl} (h : plcM X = true) : X.Ok := by
  have h1 := plcM_prg h
  unfold plcM at h
  simp only [Bool.and_eq_true, decide_eq_true_eq, isTm, within_iff] at h
  obtain ⟨_, h2, _, _, _, h3, _, _, _, h4, _, h5⟩ := h
  exact ⟨prgOK_fit h1, h2, h3, h4, h5⟩
theorem Pl.Ok.bnd {X : Pl} (h : X.Ok) : (bndM (costsM X.rs) X.ts).2.2 = true ∧ (bndM (costsM X.rs) X.ts).1.length = X.ts.length := by
  have h2 := h.adm
  unfold admM at h2
  by_cases hb : (bndM (costsM X.rs) X.ts).2.2 = false
  · rw [if_pos hb] at h2; simp at h2
  · have hb : (bndM (costsM X.rs) X.ts).2.2 = true := by simpa using hb
    exact ⟨hb, (bndM_ok hb).1⟩
@[reducible] def dn1E (e : Dn1) : Ent := .agg [cI e.1, cI e.2.1, cI e.2.2.1, cI e.2.2.2.1]
/-- An entry of the log whose task is there, and whose times do not overflow. -/
def dnFit (n : Nat) (e : Dn1) : Prop := (0 ≤ e.1 ∧ e.1 < (n : Int)) ∧ (0 ≤ e.2.1 ∧ e.2.1 ≤ e.2.2.2.1) ∧ e.2.2.2.1 ≤ 2147483647
theorem Pl.Ok.logs {X : Pl} (h : X.Ok) : ∀ e ∈ X.log, dnFit X.ts.length e := by
  intro e he
  have hl := h.log
  have hn := h.now
  unfold logOK at hl
  rw [Bool.and_eq_true] at hl
  obtain ⟨k, hk, rfl⟩ := List.getElem_of_mem he
  have e1 : X.log.getD k dDn1 = X.log[k] := by rw [List.getD_eq_getElem?_getD, List.getElem?_eq_getElem hk]; rfl
  have := allR_at hl.2 hk
  unfold logA logE at this
  rw [e1] at this
  simp only [Bool.and_eq_true, within_iff, Bool.not_eq_true', decide_eq_false_iff_not] at this
  unfold dnFit
  omega
def inB (r : List Bd) (e : Dn1) : Bool := decide (e.2.2.2.1 - e.2.1 ≤ (r.getD e.1.toNat dBd).2.2.2.1)
@[reducible] def wO (r : List Bd) : List Ob := [.box [.row 1], .row t_impl_Bound tBd r]
@[reducible] def wO3 (r : List Bd) : List Ob := [.box [.fn n_impl_WithinBounds_1 [1]], .box [.row 2], .row t_impl_Bound tBd r]
theorem c_wb1 (r : List Bd) (e : Dn1) (h : dnFit r.length e) : TT n_impl_WithinBounds_1 [dn1E e, .one (.ptrB 0 0)] (wO r) (eB (inB r e)) (wO r) := by
  obtain ⟨ta, ar, sd, fi, u⟩ := e
  obtain ⟨h1, h2, h3⟩ := h
  simp only at h1 h2 h3
  refine r_impl_WithinBounds_1 ta ar sd fi r ⟨h1, fi - ar, r_impl_Done_response ta ar sd fi (by unfold v_impl_Done_response; rw [w64 (by omega)]; exact ⟨rfl, rfl⟩), rfl, rfl⟩
theorem c_wbA1 (r : List Bd) (e : Dn1) (h : dnFit r.length e) : TT n_impl_all_impl_Done_1 [dn1E e, .one (.ptrB 0 0)] (wO3 r) (eB (!inB r e)) (wO3 r) :=
  r_impl_all_impl_Done_1 e.1 e.2.1 e.2.2.1 e.2.2.2.1 r ⟨_, c_wb1 r e h, rfl, rfl⟩
theorem c_wbIdx (l : List Dn1) (r : List Bd) (hl : l.length ≤ 1048576) (h : ∀ e ∈ l, dnFit r.length e) : ∃ n : Int, decide (n ≥ 0) = (l.any fun x => !inB r x) ∧
    TT n_slices_IndexFunc_impl_Done_impl_Done [.one (.sl tDn1 l), .one (.fn n_impl_all_impl_Done_1 [0])] (wO3 r) (eI n) (wO3 r) := by
  refine ⟨findI (fun x => !inB r x) l 0, findI_ge, r_slices_IndexFunc_impl_Done_impl_Done l r ⟨fun m i s => r = s ∧ 0 ≤ i ∧ i ≤ l.length ∧ m = (l.length - i).toNat ∧ findI (fun x => !inB r x) (l.drop i.toNat) i.toNat = findI (fun x => !inB r x) l 0, ⟨_, rfl, rfl, by omega, by omega, rfl, rfl⟩, ?_⟩⟩
  rintro m i _ ⟨rfl, h0, h1, rfl, h2⟩
  refine ifP (fun hlt => ?_) (fun hge => ?_)
  · have hm := h (l.getD i.toNat dDn1) (by rw [List.getD_eq_getElem?_getD, List.getElem?_eq_getElem (by omega)]; exact List.getElem_mem _)
    rw [drop_getD (by omega) dDn1, findI] at h2
    refine ⟨⟨h0, hlt⟩, _, c_wbA1 r _ hm, ifB_cases (fun hb => ?_) (fun hb => ?_)⟩
    · rw [if_pos hb] at h2
      exact ⟨by rw [← h2]; congr 1; omega, rfl⟩
    · rw [if_neg (by rw [hb]; exact Bool.false_ne_true)] at h2
      rw [w64 (by omega)]
      exact ⟨_, by omega, rfl, rfl, by omega, by omega, rfl, by rw [toNat_succ h0]; exact h2⟩
  · rw [List.drop_eq_nil_of_le (by omega)] at h2
    exact ⟨by rw [← h2]; rfl, rfl⟩
theorem c_wbAll (l : List Dn1) (r : List Bd) (hl : l.length ≤ 1048576) (h : ∀ e ∈ l, dnFit r.length e) : TT n_impl_all_impl_Done [.one (.sl tDn1 l), .one (.fn n_impl_WithinBounds_1 [0])] (wO r) (eB (l.all (inB r))) (wO r) := by
  obtain ⟨n, hn, hc⟩ := c_wbIdx l r hl h
  exact r_impl_all_impl_Done l r ⟨_, _, r_slices_ContainsFunc_impl_Done_impl_Done l r ⟨_, _, hc, rfl, rfl⟩, by rw [hn, all_any], rfl⟩
@[reducible] def tupBI (b : Bool) (n : Int) : Ent := .tup [(false, [.bool b]), (false, [cI n])]
def withM (X : Pl) : Bool × Int := if plcM X = true then (X.log.all (inB (bndM (costsM X.rs) X.ts).1), 0) else (false, 1)
theorem c_impl_WithinBounds (X : Pl) (hs : X.Sm) (hp : prgSmall X.ks X.rs X.ts X.sf) : TT n_impl_WithinBounds [X.e] [] (tupBI (withM X).1 (withM X).2) [] := by
  refine r_impl_WithinBounds X.ks X.rs X.ts X.sf X.x.g X.x.f X.x.a X.x.b X.x.c X.x.d X.x.w X.mode X.now X.since X.late X.busy X.src X.jobs X.log ⟨_, c_impl_PlcOK X hs hp, ifB_cases (fun g => ?_) (fun g => ?_)⟩
  · have e : withM X = (false, 1) := if_neg (by rw [nb_t g]; simp)
    rw [e]; exact ⟨rfl, rfl⟩
  have g := nb_f g
  have e : withM X = (X.log.all (inB (bndM (costsM X.rs) X.ts).1), 0) := if_pos g
  rw [e]
  have hok := plcM_ok g
  have hl := hok.logs
  rw [← hok.bnd.2] at hl
  exact ⟨_, _, _, c_impl_bounds X.ks X.rs X.ts X.sf hok.prg, _, _, c_wbAll X.log _ hs.log hl, rfl, rfl⟩
theorem c_spec_WithinBounds (X : Pl) (hs : X.Sm) (hp : prgSmall X.ks X.rs X.ts X.sf) : TT n_spec_WithinBounds [X.e] [] (tupBI (withM X).1 (withM X).2) [] := by
  have hlog := hs.log
  refine r_spec_WithinBounds X.ks X.rs X.ts X.sf X.x.g X.x.f X.x.a X.x.b X.x.c X.x.d X.x.w X.mode X.now X.since X.late X.busy X.src X.jobs X.log ⟨_, c_spec_l11OK X hs hp, ifB_cases (fun g => ?_) (fun g => ?_)⟩
  · have e : withM X = (false, 1) := if_neg (by rw [nb_t g]; simp)
    rw [e]; exact ⟨rfl, rfl⟩
  have g := nb_f g
  have e : withM X = (X.log.all (inB (bndM (costsM X.rs) X.ts).1), 0) := if_pos g
  rw [e]
  have hok := plcM_ok g
  have hl := hok.logs
  rw [← hok.bnd.2] at hl
  refine ⟨_, _, _, c_spec_l09Bounds X.ks X.rs X.ts X.sf hok.prg, ?_⟩
  revert hl
  generalize (bndM (costsM X.rs) X.ts).1 = B
  intro hl
  refine ⟨fun m i r => B = r ∧ 0 ≤ i ∧ i ≤ X.log.length ∧ m = (X.log.length - i).toNat ∧ (X.log.drop i.toNat).all (inB B) = X.log.all (inB B), ⟨_, rfl, rfl, by omega, by omega, rfl, rfl⟩, ?_⟩
  rintro m i _ ⟨rfl, h0, h1, rfl, h2⟩
  refine ifP (fun hlt => ?_) (fun hge => ?_)
  · have hm := hl (X.log.getD i.toNat dDn1) (by rw [List.getD_eq_getElem?_getD, List.getElem?_eq_getElem (by omega)]; exact List.getElem_mem _)
    rw [all_drop (by omega) dDn1] at h2
    rw [w64 (x := i + 1) (by omega)]
    revert h2 hm
    generalize X.log.getD i.toNat dDn1 = e
    intro h2 hm
    obtain ⟨ta, ar, sd, fi, u⟩ := e
    obtain ⟨k1, k2, k3⟩ := hm
    simp only at k1 k2 k3
    rw [w64 (x := fi - ar) (by omega)]
    have ei : inB B (ta, ar, sd, fi, u) = decide (fi - ar ≤ (B.getD ta.toNat dBd).2.2.2.1) := rfl
    rw [ei] at h2
    refine ⟨⟨h0, hlt⟩, k1, ifP (fun hg => ⟨?_, rfl⟩) (fun hg => ?_)⟩
    · have hg' : fi - ar > (B.getD ta.toNat dBd).2.2.2.1 := hg
      rw [decide_eq_false (by omega), Bool.false_and] at h2
      rw [← h2]
    · have hg' : ¬ (fi - ar > (B.getD ta.toNat dBd).2.2.2.1) := hg
      rw [decide_eq_true (by omega), Bool.true_and] at h2
      exact ⟨_, by omega, rfl, rfl, by omega, by omega, rfl, by rw [toNat_succ h0]; exact h2⟩
  · rw [List.drop_eq_nil_of_le (by omega)] at h2
    rw [← h2]; exact ⟨rfl, rfl⟩
theorem c_laws_FnExactWithinBounds (x : PlT) (hw : Ty.wf tPlc x) : TT n_laws_FnExactWithinBounds [(plX x).e] [] (eB true) [] := by
  refine r_laws_FnExactWithinBounds _ _ _ _ _ _ _ _ _ _ _ _ _ _ _ _ _ _ _ ⟨_, c_sz_Plc x 1048576 hw (by omega), ifP (fun _ => ⟨rfl, rfl⟩) (fun h0 => ?_)⟩
  have hs := (sz_Plc_ok (l := x) (n := 1048576) (by omega)).2 (by omega)
  have t := c_to_Plc x hs
  have e := c_eq_Plc x hs
  have ci := c_impl_WithinBounds (plX x) (plX_sm hs) (plX_prg hs)
  have cs := c_spec_WithinBounds (plX x) (plX_sm hs) (plX_prg hs)
  exact ⟨_, _, _, _, _, _, _, _, _, _, _, _, _, _, _, _, _, _, _, t, _, _, cs, _, _, _, _, _, _, _, _, _, _, _, _, _, _, _, _, _, _, _, t, _, _, ci, ifB_f (by simp) (ifN_f rfl ⟨_, _, _, _, _, _, _, _, _, _, _, _, _, _, _, _, _, _, _, t, _, e, ifB_f rfl ⟨rfl, rfl⟩⟩)⟩

/-! ### balances -/
def balW (s : Sc) : Int := wI (wI (wI (wI (wI (s.2.1 - s.2.2.1) - s.2.2.2.1) - s.2.2.2.2.1) - s.2.2.2.2.2.1) - (s.2.2.2.2.2.2.1.length : Int))
def bitW (b : Bool) : Int := if b = true then 1 else 0
def runM (jobs : List Jb) (i : Int) : Bool := jobs.any fun j => j.1 == i
def balA (X : Pl) (i : Nat) : Bool := decide (balW (X.src.getD i dSc) = bitW (runM X.jobs i))
def balM (X : Pl) : Bool × Int := if plcM X = true then (allR X.src.length (balA X), 0) else (false, 1)
theorem c_spec_l11Running (X : Pl) (i : Int) (hl : X.jobs.length ≤ 1048576) : TT n_spec_l11Running [X.e, eI i] [] (eB (runM X.jobs i)) [] := by
  refine r_spec_l11Running X.ks X.rs X.ts X.sf X.x.g X.x.f X.x.a X.x.b X.x.c X.x.d X.x.w X.mode X.now X.since X.late X.busy X.src X.jobs X.log i ⟨fun m k => 0 ≤ k ∧ k ≤ X.jobs.length ∧ m = (X.jobs.length - k).toNat ∧ runM (X.jobs.drop k.toNat) i = runM X.jobs i, ⟨_, rfl, rfl, by omega, by omega, rfl, rfl⟩, ?_⟩
  rintro m k ⟨h0, h1, rfl, h2⟩
  refine ifP (fun hlt => ?_) (fun hge => ?_)
  · unfold runM at h2 ⊢
    rw [drop_getD (by omega) dJb, List.any_cons] at h2
    rw [w64 (x := k + 1) (by omega)]
    refine ⟨⟨h0, hlt⟩, ifE (fun he => ⟨?_, rfl⟩) (fun he => ?_)⟩
    · rw [← h2, show ((X.jobs.getD k.toNat dJb).1 == i) = true by simpa using he]; rfl
    · rw [show ((X.jobs.getD k.toNat dJb).1 == i) = false by simpa using he, Bool.false_or] at h2
      exact ⟨_, by omega, rfl, rfl, by omega, by omega, rfl, by rw [toNat_succ h0]; exact h2⟩
  · unfold runM at h2 ⊢
    rw [List.drop_eq_nil_of_le (by omega)] at h2
    rw [← h2]; exact ⟨rfl, rfl⟩
theorem c_jobIdx (l : List Jb) (i : Int) (hl : l.length ≤ 1048576) : ∃ n : Int, decide (n ≥ 0) = runM l i ∧
    TT n_slices_IndexFunc_impl_Job_impl_Job [.one (.sl tJb l), .one (.fn n_impl_Plc_hasJob_1 [0])] [.box [cI i]] (eI n) [.box [cI i]] := by
  refine ⟨findI (fun j => j.1 == i) l 0, findI_ge, r_slices_IndexFunc_impl_Job_impl_Job l i ⟨fun m k => 0 ≤ k ∧ k ≤ l.length ∧ m = (l.length - k).toNat ∧ findI (fun j => j.1 == i) (l.drop k.toNat) k.toNat = findI (fun j => j.1 == i) l 0, ⟨_, rfl, rfl, by omega, by omega, rfl, rfl⟩, ?_⟩⟩
  rintro m k ⟨h0, h1, rfl, h2⟩
  refine ifP (fun hlt => ?_) (fun hge => ?_)
  · rw [drop_getD (by omega) dJb, findI] at h2
    refine ⟨⟨h0, hlt⟩, (l.getD k.toNat dJb).1 == i, r_impl_Plc_hasJob_1 _ _ _ _ _ _ _ _ _ _ i ⟨rfl, rfl⟩, ifB_cases (fun hb => ?_) (fun hb => ?_)⟩
    · rw [if_pos hb] at h2
      exact ⟨by rw [← h2]; congr 1; omega, rfl⟩
    · rw [if_neg (by rw [hb]; exact Bool.false_ne_true)] at h2
      rw [w64 (by omega)]
      exact ⟨_, by omega, rfl, rfl, by omega, by omega, rfl, by rw [toNat_succ h0]; exact h2⟩
  · rw [List.drop_eq_nil_of_le (by omega)] at h2
    exact ⟨by rw [← h2]; rfl, rfl⟩
@[reducible] def Pl.b (X : Pl) : Ob := .box [.sl tyInt X.ks, .sl tRou X.rs, .sl tTsk X.ts, .sl .bool X.sf, .sl tyInt X.x.g, .sl tFb X.x.f, .sl .bool X.x.a, .sl .bool X.x.b, .sl .bool X.x.c, .sl .bool X.x.d, cI X.x.w,
  cI X.mode, cI X.now, cI X.since, cI X.late, .bool X.busy, .sl tSc X.src, .sl tJb X.jobs, .sl tDn1 X.log]
theorem c_impl_hasJob (X : Pl) (i : Int) (hl : X.jobs.length ≤ 1048576) : TT n_impl_Plc_hasJob [.one (.ptrB 0 0), eI i] [X.b] (eB (runM X.jobs i)) [X.b] := by
  obtain ⟨n, hn, hc⟩ := c_jobIdx X.jobs i hl
  exact r_impl_Plc_hasJob i _ _ _ _ _ _ _ _ _ _ _ _ _ _ _ _ _ _ _ ⟨_, r_slices_ContainsFunc_impl_Job_impl_Job X.jobs i ⟨_, hc, rfl, rfl⟩, by rw [hn], rfl⟩
theorem c_impl_bitW (b : Bool) : TT n_impl_bit [eB b] [] (eI (bitW b)) [] := r_impl_bit b (by cases b <;> exact ⟨rfl, rfl⟩)
theorem c_spec_bitW (b : Bool) : TT n_spec_l06Bit [eB b] [] (eI (bitW b)) [] := r_spec_l06Bit b (by cases b <;> exact ⟨rfl, rfl⟩)
@[reducible] def scE (s : Sc) : Ent := .agg [cI s.1, cI s.2.1, cI s.2.2.1, cI s.2.2.2.1, cI s.2.2.2.2.1, cI s.2.2.2.2.2.1, .sl tyInt s.2.2.2.2.2.2.1]
@[reducible] def tkE (t : Tsk) : Ent := .agg [cI t.1, cI t.2.1, cI t.2.2.1, cI t.2.2.2.1, cI t.2.2.2.2.1, cI t.2.2.2.2.2.1]
theorem c_balance (s : Sc) (t : Tsk) (h : scOK s t = true) : TT n_impl_BalanceOf [scE s, tkE t] [] (.tup [(false, [cI (balW s)]), (false, [cI 0])]) [] := by
  have := c_impl_SourceOK s.1 s.2.1 s.2.2.1 s.2.2.2.1 s.2.2.2.2.1 s.2.2.2.2.2.1 s.2.2.2.2.2.2.1 t.1 t.2.1 t.2.2.1 t.2.2.2.1 t.2.2.2.2.1 t.2.2.2.2.2.1
  rw [show sourceOK s.1 s.2.1 s.2.2.1 s.2.2.2.1 s.2.2.2.2.1 s.2.2.2.2.2.1 s.2.2.2.2.2.2.1 t.1 t.2.1 t.2.2.1 t.2.2.2.1 t.2.2.2.2.1 t.2.2.2.2.2.1 = true from h] at this
  exact r_impl_BalanceOf _ _ _ _ _ _ _ _ _ _ _ _ _ ⟨_, this, ifB_f rfl ⟨rfl, rfl⟩⟩
theorem c_impl_Balanced (X : Pl) (hs : X.Sm) (hp : prgSmall X.ks X.rs X.ts X.sf) : TT n_impl_Balanced [X.e] [] (tupBI (balM X).1 (balM X).2) [] := by
  have hsl := hs.src
  have hjl := hs.jobs
  refine r_impl_Balanced X.ks X.rs X.ts X.sf X.x.g X.x.f X.x.a X.x.b X.x.c X.x.d X.x.w X.mode X.now X.since X.late X.busy X.src X.jobs X.log ⟨_, c_impl_PlcOK X hs hp, ifB_cases (fun g => ?_) (fun g => ?_)⟩
  · have e : balM X = (false, 1) := if_neg (by rw [nb_t g]; simp)
    rw [e]; exact ⟨rfl, rfl⟩
  have g := nb_f g
  have e : balM X = (allR X.src.length (balA X), 0) := if_pos g
  rw [e]
  have hsrc := (plcM_ok g).src
  unfold srcM at hsrc
  rw [Bool.and_eq_true, decide_eq_true_eq] at hsrc
  refine ⟨fun m i => 0 ≤ i ∧ i ≤ X.src.length ∧ m = (X.src.length - i).toNat ∧ ∀ k, k < i.toNat → balA X k = true, ⟨_, rfl, rfl, by omega, by omega, rfl, fun j hj => by simp at hj⟩, ?_⟩
  rintro m i ⟨h0, h1, rfl, h2⟩
  refine ifP (fun hlt => ?_) (fun hge => ⟨by rw [allR_t fun k hk => h2 k (by omega)], rfl⟩)
  have hso : scOK (X.src.getD i.toNat dSc) (X.ts.getD i.toNat dTsk) = true := by
    have := allR_at hsrc.2 (i := i.toNat) (by omega)
    unfold srcE1 at this
    rw [Bool.and_eq_true] at this; exact this.1
  have hb : balA X i.toNat = decide (balW (X.src.getD i.toNat dSc) = bitW (runM X.jobs i)) := by
    unfold balA
    rw [Int.toNat_of_nonneg h0]
  have cb := c_balance (X.src.getD i.toNat dSc) (X.ts.getD i.toNat dTsk) hso
  rw [w64 (x := i + 1) (by omega)]
  refine ⟨⟨h0, hlt⟩, ⟨h0, by omega⟩, _, _, cb, _, c_impl_hasJob X i hjl, _, c_impl_bitW _, ifN (fun hn => ⟨?_, rfl⟩) (fun hn => ⟨_, by omega, rfl, rfl, by omega, by omega, rfl, next_all h0 h2 (by rw [hb, decide_eq_true hn])⟩)⟩
  rw [allR_f (i := i.toNat) (by omega) (by rw [hb, decide_eq_false hn])]
theorem c_spec_Balanced (X : Pl) (hs : X.Sm) (hp : prgSmall X.ks X.rs X.ts X.sf) : TT n_spec_Balanced [X.e] [] (tupBI (balM X).1 (balM X).2) [] := by
  have hsl := hs.src
  have hjl := hs.jobs
  refine r_spec_Balanced X.ks X.rs X.ts X.sf X.x.g X.x.f X.x.a X.x.b X.x.c X.x.d X.x.w X.mode X.now X.since X.late X.busy X.src X.jobs X.log ⟨_, c_spec_l11OK X hs hp, ifB_cases (fun g => ?_) (fun g => ?_)⟩
  · have e : balM X = (false, 1) := if_neg (by rw [nb_t g]; simp)
    rw [e]; exact ⟨rfl, rfl⟩
  have g := nb_f g
  have e : balM X = (allR X.src.length (balA X), 0) := if_pos g
  rw [e]
  refine ⟨fun m i => 0 ≤ i ∧ i ≤ X.src.length ∧ m = (X.src.length - i).toNat ∧ ∀ k, k < i.toNat → balA X k = true, ⟨_, rfl, by omega, by omega, rfl, fun j hj => by simp at hj⟩, ?_⟩
  rintro m i ⟨h0, h1, rfl, h2⟩
  refine ifP (fun hlt => ?_) (fun hge => ⟨by rw [allR_t fun k hk => h2 k (by omega)], rfl⟩)
  have hb : balA X i.toNat = decide (balW (X.src.getD i.toNat dSc) = bitW (runM X.jobs i)) := by
    unfold balA
    rw [Int.toNat_of_nonneg h0]
  have cb : TT n_spec_l10Balance [scE (X.src.getD i.toNat dSc)] [] (eI (balW (X.src.getD i.toNat dSc))) [] := r_spec_l10Balance _ _ _ _ _ _ _ ⟨rfl, rfl⟩
  rw [w64 (x := i + 1) (by omega)]
  refine ⟨⟨h0, hlt⟩, _, cb, _, c_spec_l11Running X i hjl, _, c_spec_bitW _, ifN (fun hn => ⟨?_, rfl⟩) (fun hn => ⟨_, by omega, rfl, by omega, by omega, rfl, next_all h0 h2 (by rw [hb, decide_eq_true hn])⟩)⟩
  rw [allR_f (i := i.toNat) (by omega) (by rw [hb, decide_eq_false hn])]
theorem c_laws_FnExactBalanced (x : PlT) (hw : Ty.wf tPlc x) : TT n_laws_FnExactBalanced [(plX x).e] [] (eB true) [] := by
  refine r_laws_FnExactBalanced _ _ _ _ _ _ _ _ _ _ _ _ _ _ _ _ _ _ _ ⟨_, c_sz_Plc x 1048576 hw (by omega), ifP (fun _ => ⟨rfl, rfl⟩) (fun h0 => ?_)⟩
  have hs := (sz_Plc_ok (l := x) (n := 1048576) (by omega)).2 (by omega)
  have t := c_to_Plc x hs
  have e := c_eq_Plc x hs
  have ci := c_impl_Balanced (plX x) (plX_sm hs) (plX_prg hs)
  have cs := c_spec_Balanced (plX x) (plX_sm hs) (plX_prg hs)
  exact ⟨_, _, _, _, _, _, _, _, _, _, _, _, _, _, _, _, _, _, _, t, _, _, cs, _, _, _, _, _, _, _, _, _, _, _, _, _, _, _, _, _, _, _, t, _, _, ci, ifB_f (by simp) (ifN_f rfl ⟨_, _, _, _, _, _, _, _, _, _, _, _, _, _, _, _, _, _, _, t, _, e, ifB_f rfl ⟨rfl, rfl⟩⟩)⟩
end Go.Ry
