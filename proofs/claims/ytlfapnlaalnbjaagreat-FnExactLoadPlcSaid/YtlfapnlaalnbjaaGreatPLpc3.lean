/- The law on processors that are loaded. No condition. -/
import Derived.Test.YtlfapnlaalnbjaaGreatPLpc2
set_option linter.unusedVariables false
set_option linter.unusedSimpArgs false
namespace Go.Ry
open Go.Proofs

@[reducible] def lpO' (x : LpT) : List Ob := [rwK x.ks, rwR x.rs, .row t_impl_Task tTsk x.ts, .row t_bool .bool x.sf, .row t_int (.int .i64) x.g, .row t_impl_Fb tFb x.f, .row t_bool .bool x.a, .row t_bool .bool x.b, .row t_bool .bool x.c, .row t_bool .bool x.d, rwQ x.q, rwJ, rwD]
theorem fit_small {ks : List Int} {rs : List Rou} {ts : List Tsk} {sf : List Bool} (h : PrgFit ks rs ts sf) : ks.length ≤ 8 ∧ small rs ∧ ts.length ≤ 5 ∧ sf.length = 8 := by
  have hr := rousOK_fit h.hr
  refine ⟨(kindsOK_in h.hk).1, ⟨by have := hr.1; omega, fun r hm => ?_⟩, h.ts5, h.hs⟩
  have := (hr.2 r hm).1
  omega
theorem c_spec_LoadPlc (s : ByteArray) : TT n_spec_LoadPlc [eS s] [] (lpE' (lpT s)) (lpO' (lpT s)) := by
  refine r_spec_LoadPlc s (ifP (fun hg => ?_) (fun hg => ?_))
  · have e : imgE s = 2 := by unfold imgE; rw [if_pos (by omega)]
    rw [lp_bad (show lpC s = 2 by unfold lpC; rw [if_pos (by rw [e]; decide), e]) (by decide)]
    exact ⟨rfl, rfl⟩
  have hR := c_spec_l08Read s (by omega)
  by_cases h : imgE s = 0
  · have hf := img_fit h
    obtain ⟨k1, k2, k3, k4⟩ := fit_small hf
    have hA := c_spec_l09Admit _ _ _ _ hf
    have hc : lpC s = (admM (costsM (imgR s)) (imgT s)).2.2 := if_neg (fun e => e h)
    by_cases h2 : (admM (costsM (imgR s)) (imgT s)).2.2 = 0
    · have hN := c_spec_l11New (imgK s) (imgR s) (imgT s) (imgF s) (by omega) (by omega) (by omega)
      have hO := c_spec_l11Own (imgK s) (imgR s) (imgT s) (imgF s) ⟨List.replicate 16 0, newF (imgK s), rep8, rep8, rep8, imgF s, 0⟩ 1 (imgT s).length (by omega) k2 (by omega) (by omega) (by omega)
        ⟨by simp, by show (newF (imgK s)).length ≤ 1048576; simp [newF]; omega, by simp, by simp, by simp, by show (imgF s).length ≤ 1048576; omega⟩
      have hL := r_spec_l11Load s ⟨_, _, _, _, _, hR, ifN_f h ⟨_, _, _, hA, ifN_f h2 ⟨_, _, _, _, _, _, _, _, _, _, _, _, _, _, _, _, _, _, _, hN, rfl, rfl⟩⟩⟩
      rw [lp_good (hc.trans h2)]
      exact ⟨_, _, _, _, _, _, _, _, _, _, _, _, _, _, _, _, _, _, _, _, hL, ifN_f rfl ⟨_, _, _, _, _, _, _, _, _, _, _, _, _, _, _, _, _, _, _, hO, rfl, rfl⟩⟩
    · have hL := r_spec_l11Load s ⟨_, _, _, _, _, hR, ifN_f h ⟨_, _, _, hA, ifN_t h2 ⟨rfl, rfl⟩⟩⟩
      rw [lp_bad hc h2]
      exact ⟨_, _, _, _, _, _, _, _, _, _, _, _, _, _, _, _, _, _, _, _, hL, ifN_t h2 ⟨rfl, rfl⟩⟩
  · have hL := r_spec_l11Load s ⟨_, _, _, _, _, hR, ifN_t h ⟨rfl, rfl⟩⟩
    rw [lp_bad (show lpC s = imgE s from if_pos h) h]
    exact ⟨_, _, _, _, _, _, _, _, _, _, _, _, _, _, _, _, _, _, _, _, hL, ifN_t h ⟨rfl, rfl⟩⟩
theorem lp_sm (s : ByteArray) : LpSm (lpT s) := by
  unfold lpT
  split
  · rename_i h
    by_cases h1 : imgE s = 0
    · obtain ⟨k1, k2, k3, k4⟩ := fit_small (img_fit h1)
      refine ⟨⟨?_, ⟨k2.1, k2.2⟩, ?_, ?_⟩, ?_, ?_, ?_, ?_, ?_, ?_, ?_, fun y hy => ?_⟩
      · show (imgK s).length ≤ 1048576; omega
      · show (imgT s).length ≤ 1048576; omega
      · show (imgF s).length ≤ 1048576; omega
      · simp
      · show (newF (imgK s)).length ≤ 1048576; simp [newF]; omega
      · simp
      · simp
      · simp
      · show (imgF s).length ≤ 1048576; omega
      · simp; omega
      · rw [(List.mem_replicate.1 hy).2]; rfl
    · unfold lpC at h
      rw [if_pos h1] at h
      exact absurd h h1
  · refine ⟨⟨?_, ⟨?_, fun x hx => by cases hx⟩, ?_, ?_⟩, ?_, ?_, ?_, ?_, ?_, ?_, ?_, fun y hy => by cases hy⟩
    all_goals exact Nat.zero_le _
theorem c_eq_Plc' (x : LpT) (h : LpSm x) : TT n_laws_eqPlc [.agg [.sl (.int .i64) x.ks, .sl tRou x.rs, .sl tTsk x.ts, .sl .bool x.sf, .sl (.int .i64) x.g, .sl tFb x.f, .sl .bool x.a, .sl .bool x.b, .sl .bool x.c, .sl .bool x.d, cI 0, cI x.md, cI 0, cI 0, cI 0, .bool false, .sl tSrcQ x.q, .nils, .nils],
    .agg [.sl (.int .i64) x.ks, .sl tRou x.rs, .sl tTsk x.ts, .sl .bool x.sf, .sl (.int .i64) x.g, .sl tFb x.f, .sl .bool x.a, .sl .bool x.b, .sl .bool x.c, .sl .bool x.d, cI 0, cI x.md, cI 0, cI 0, cI 0, .bool false, .sl tSrcQ x.q, .sl tJobQ [], .sl tDonQ []]] [] (eB true) [] := by
  have hj : TT n_laws_eqJobS [.one .nils, .one (.sl tJobQ [])] [] (eB true) [] := r_laws_eqJobS [] (ifN_f rfl ⟨fun _ => True, ⟨0, rfl, trivial⟩, fun m _ => ifP_f (by omega) ⟨rfl, rfl⟩⟩)
  have hd : TT n_laws_eqDoneS [.one .nils, .one (.sl tDonQ [])] [] (eB true) [] := r_laws_eqDoneS [] (ifN_f rfl ⟨fun _ => True, ⟨0, rfl, trivial⟩, fun m _ => ifP_f (by omega) ⟨rfl, rfl⟩⟩)
  have hp := c_eq_Program (x.ks, (x.rs, (x.ts, (x.sf, ())))) h.p
  have hdt := c_eq_Data (x.g, (x.f, (x.a, (x.b, (x.c, (x.d, ((0 : Int), ()))))))) ⟨h.g, h.f, h.a, h.b, h.c, h.d⟩
  have hq := c_eq_SourceS x.q ⟨h.q, fun y hy => by have := h.qq y hy; unfold sm_Source; unfold qOf at this; rw [this]; exact Nat.zero_le _⟩
  exact r_laws_eqPlc _ _ _ _ _ _ _ _ _ _ _ _ _ _ _ _ _ _ _ _ _ _ _ _ _ _ _ _ _ _ _ _ _ _ _ _ ⟨_, hp, ifB_f rfl ⟨_, hdt, ifB_f rfl (ifN_f rfl (ifN_f rfl (ifN_f rfl (ifN_f rfl (ifB_f (by simp) ⟨_, hq, ifB_f rfl ⟨_, hj, ifB_f rfl ⟨_, hd, ifB_f rfl ⟨rfl, rfl⟩⟩⟩⟩)))))⟩⟩
theorem c_laws_FnExactLoadPlc (s : ByteArray) (hw : Ty.wf .str s) : TT n_laws_FnExactLoadPlc [eS s] [] (eB true) [] := by
  have hs := c_spec_LoadPlc s
  have hi := c_impl_LoadPlc s
  have hm := lp_sm s
  revert hs hi hm
  generalize lpT s = x
  intro hs hi hm
  have he := c_eq_Plc' x hm
  have hk := c_mark_Plc x hm
  have hh := c_held_Plc x hm
  have hr := (dk_range hm).2.2.2.2.2.2.2
  exact r_laws_FnExactLoadPlc s (ifP (fun _ => ⟨rfl, rfl⟩) (fun _ => ⟨_, _, _, _, _, _, _, _, _, _, _, _, _, _, _, _, _, _, _, _, hs, _, _, _, _, _, _, _, _, _, _, _, _, _, _, _, _, _, _, hi, _, he, ifB_f rfl (ifN_f rfl ⟨_, _, _, _, _, _, _, _, _, _, _, _, hk, _, hh, ifP_f (by omega) (ifN_f rfl
    ⟨_, _, _, _, _, _, _, _, _, _, _, _, _, _, _, _, _, _, hi, _, he, ifB_f rfl (ifN_f rfl ⟨_, hh, ifP_f (by omega) (ifN_f rfl ⟨rfl, rfl⟩)⟩)⟩)⟩)⟩))
end Go.Ry
