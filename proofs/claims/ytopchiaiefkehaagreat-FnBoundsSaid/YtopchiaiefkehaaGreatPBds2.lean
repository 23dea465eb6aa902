/- A processor just loaded is valid; admitted programs that are drawn; the law on bounds. No condition. -/
import Derived.Test.YtopchiaiefkehaaGreatPBds1
import Derived.Test.YtopchiaiefkehaaGreatPFim1
import Derived.Test.YtopchiaiefkehaaGreatPLpc0
import Derived.Test.YtopchiaiefkehaaGreatPLdo1
import Derived.Test.YtopchiaiefkehaaGreatPSrc1
import Derived.Test.YtopchiaiefkehaaGreatPEql1
set_option linter.unusedVariables false
set_option linter.unusedSimpArgs false
set_option synthInstance.maxSize 4000
namespace Go.Ry
open Go.Proofs

/-! ### a processor just loaded -/
@[reducible] def plN (ks : List Int) (rs : List Rou) (ts : List Tsk) (sf : List Bool) : Ent :=
  .agg [.sl (.int .i64) ks, .sl tRou rs, .sl tTsk ts, .sl .bool sf, .sl (.int .i64) (List.replicate 16 0), .sl tFb (newF ks), .sl .bool rep8, .sl .bool rep8, .sl .bool rep8, .sl .bool sf, cI 0, cI 1, cI 0, cI 0, cI 0, .bool false, .sl tSrcQ (List.replicate ts.length src0), .nils, .nils]
theorem src0_ok {t : Tsk} (h : tskOK t = true) : sourceOK (-1) 0 0 0 0 0 [] t.1 t.2.1 t.2.2.1 t.2.2.2.1 t.2.2.2.2.1 t.2.2.2.2.2.1 = true := by
  have hq := taskOK_q h
  have h : taskOK t.1 t.2.1 t.2.2.1 t.2.2.2.1 t.2.2.2.2.1 t.2.2.2.2.2.1 = true := h
  unfold sourceOK
  rw [h, decide_eq_true (show (([] : List Int).length : Int) ≤ t.2.2.2.2.1 by simp; omega)]
  decide
theorem c_sources0 (ks : List Int) (rs : List Rou) (ts : List Tsk) (sf : List Bool) (hf : PrgFit ks rs ts sf) : TT n_impl_sourcesOK [plN ks rs ts sf] [] (eB true) [] := by
  have h5 := hf.ts5
  have h8 := hf.hs
  have hl : (List.replicate ts.length src0).length = ts.length := List.length_replicate
  have he := c_Equal_bool2 sf sf (by omega)
  rw [decide_eq_true rfl] at he
  refine r_impl_sourcesOK ks rs ts sf (List.replicate 16 0) (newF ks) rep8 rep8 rep8 sf 0 1 0 0 0 false (List.replicate ts.length src0) (ifN_f (by omega) ⟨True, ⟨fun m i => 0 ≤ i ∧ i ≤ ts.length ∧ m = (ts.length - i).toNat, ⟨_, rfl, rfl, by omega, by omega, rfl⟩, ?_⟩, fun _ => ifE_f (by decide) (ifB_t rfl ⟨_, he, rfl, rfl⟩)⟩)
  rintro m i ⟨h0, h1, rfl⟩
  rw [hl]
  refine ifP (fun hlt => ?_) (fun hge => ⟨rfl, trivial⟩)
  have hg : (List.replicate ts.length src0).getD i.toNat ((0 : Int), ((0 : Int), ((0 : Int), ((0 : Int), ((0 : Int), ((0 : Int), (([] : List Int), ()))))))) = src0 := by
    rw [List.getD_eq_getElem?_getD, List.getElem?_replicate, if_pos (by omega)]; rfl
  have hm : ts.getD i.toNat dTsk ∈ ts := by
    rw [List.getD_eq_getElem?_getD, List.getElem?_eq_getElem (by omega)]; exact List.getElem_mem _
  have ht := (hf.hts _ hm).1
  rw [hg]
  revert ht
  generalize ts.getD i.toNat dTsk = t
  intro ht
  have hS := c_impl_SourceOK (-1) 0 0 0 0 0 [] t.1 t.2.1 t.2.2.1 t.2.2.2.1 t.2.2.2.2.1 t.2.2.2.2.2.1
  rw [src0_ok ht] at hS
  rw [w64 (x := i + 1) (by omega)]
  exact ⟨⟨h0, hlt⟩, ⟨h0, by omega⟩, _, hS, ifB_f rfl (ifP_f (by decide) (ifE_t rfl (ifP_f (by decide) ⟨_, by omega, rfl, rfl, by omega, by omega, rfl⟩)))⟩
theorem c_log0 (ks : List Int) (rs : List Rou) (ts : List Tsk) (sf : List Bool) : TT n_impl_logOK [plN ks rs ts sf] [] (eB true) [] :=
  r_impl_logOK ks rs ts sf (List.replicate 16 0) (newF ks) rep8 rep8 rep8 sf 0 1 0 0 0 false (List.replicate ts.length src0) ⟨fun _ => True, ⟨0, rfl, rfl, trivial⟩, fun m _ => ifP_f (by decide) ⟨rfl, rfl⟩⟩
theorem newF_ok {ks : List Int} (h : kindsOK ks = true) : (newF ks).all fbOK = true := by
  simp only [kindsOK, Bool.and_eq_true, decide_eq_true_eq, List.all_eq_true] at h
  rw [List.all_eq_true]
  intro x hx
  obtain ⟨k, hk, rfl⟩ := List.mem_map.1 hx
  have hk := within_iff.1 (h.2 k hk)
  have : k = 1 ∨ k = 2 ∨ k = 3 ∨ k = 4 := by omega
  rcases this with rfl | rfl | rfl | rfl <;> decide
theorem newD_ok {ks : List Int} {sf : List Bool} (h : kindsOK ks = true) (hs : sf.length = 8) : dataOK ⟨List.replicate 16 0, newF ks, rep8, rep8, rep8, sf, 0⟩ = true := by
  have hl : ks.length ≤ 8 := by
    simp only [kindsOK, Bool.and_eq_true, decide_eq_true_eq] at h; omega
  have e1 : decide (((newF ks).length : Int) ≤ 8) = true := decide_eq_true (by simp [newF]; omega)
  have e2 : decide ((sf.length : Int) = 8) = true := decide_eq_true (by omega)
  simp only [dataOK, newF_ok h, e1, e2]
  rfl
theorem kindsD_new (ks : List Int) : kindsD (newF ks) = ks := by
  unfold kindsD newF
  rw [List.map_map]
  conv => rhs; rw [← List.map_id ks]
  rfl
theorem c_PlcOK0 (ks : List Int) (rs : List Rou) (ts : List Tsk) (sf : List Bool) (hd : Drawn ks rs ts sf) (ha : (admM (costsM rs) ts).2.2 = 0) : TT n_impl_PlcOK [plN ks rs ts sf] [] (eB true) [] := by
  have hf := prgOK_fit hd.ok
  have hk8 := (kindsOK_in hf.hk).1
  have hp := c_impl_isProgram ks rs ts sf hd.sm
  rw [hd.ok] at hp
  have hA := c_impl_admit ks rs ts sf hf
  have hD := c_impl_DataOK ⟨List.replicate 16 0, newF ks, rep8, rep8, rep8, sf, 0⟩ (by show (List.replicate 16 (0 : Int)).length ≤ 1048576; decide)
  rw [newD_ok hf.hk hf.hs] at hD
  have hK := c_impl_kindsOf ⟨List.replicate 16 0, newF ks, rep8, rep8, rep8, sf, 0⟩ (by show (newF ks).length ≤ 1048576; simp [newF]; omega)
  have hK : TT n_impl_kindsOf _ _ _ [.row t_int tyInt (kindsD (newF ks))] := hK
  rw [kindsD_new] at hK
  have hE := c_Equal_int2 ks ks (by omega)
  rw [decide_eq_true rfl] at hE
  have t0 := c_impl_isTime 0
  rw [show isTm 0 = true by decide] at t0
  have w1 := c_impl_within 1 1 2
  rw [show within 1 1 2 = true by decide] at w1
  have w2 := c_impl_within 0 0 0
  rw [show within 0 0 0 = true by decide] at w2
  refine r_impl_PlcOK ks rs ts sf (List.replicate 16 0) (newF ks) rep8 rep8 rep8 sf 0 1 0 0 0 false (List.replicate ts.length src0) ⟨_, hp, ifB_f rfl ⟨_, _, _, hA, ifN_f ha ⟨_, hD, ifB_f rfl ⟨_, hK, _, hE, ifB_f rfl ⟨_, w1, ifB_f rfl ⟨True,
    ⟨_, t0, ifB_f rfl ⟨_, t0, ifB_f rfl ⟨_, w2, ifB_f rfl ⟨_, c_sources0 ks rs ts sf hf, ifB_f rfl (ifB_f rfl ⟨rfl, trivial⟩)⟩⟩⟩⟩,
    fun _ => ⟨fun _ => True, ⟨0, rfl, rfl, trivial⟩, fun m _ => ifP_f (by decide) ⟨_, c_log0 ks rs ts sf, rfl, rfl⟩⟩⟩⟩⟩⟩⟩⟩

/-! ### what is drawn, and the law -/
theorem c_sameBounds (l : List Bd) (hl : l.length ≤ 1048576) : TT n_laws_sameBounds [.one (.sl tBd l), .one (.sl tBd l)] [] (eB true) [] := by
  refine r_laws_sameBounds l l (ifN_f rfl ⟨fun m i => 0 ≤ i ∧ i ≤ l.length ∧ m = (l.length - i).toNat, ⟨_, rfl, by omega, by omega, rfl⟩, ?_⟩)
  rintro m i ⟨h0, h1, rfl⟩
  refine ifP (fun hlt => ?_) (fun hge => ⟨rfl, rfl⟩)
  rw [w64 (x := i + 1) (by omega)]
  refine ⟨⟨h0, hlt⟩, ⟨h0, hlt⟩, ifB_f (by simp) ⟨_, by omega, rfl, by omega, by omega, rfl⟩⟩
theorem c_AdmittedDrawn (l : List Int) (hl : l.length ≤ 1048576) (hb : ∀ n ∈ l, 0 ≤ n ∧ n ≤ 255) :
    ∃ (ks : List Int) (rs : List Rou) (ts : List Tsk) (sf : List Bool), Drawn ks rs ts sf ∧ TT n_spec_AdmittedDrawn [.one (.sl u8s l)] [] (.agg [.row 0, .row 1, .row 2, .row 3]) [rwK ks, rwR rs, .row t_impl_Task tTsk ts, .row t_bool .bool sf] := by
  obtain ⟨q0, s1, s2⟩ := c_source l hl hb
  obtain ⟨ks, rs, ts, sf, p1, q1, a1, a2, a3, a4⟩ := c_admitted l 0 q0 s1 (by omega)
  exact ⟨ks, rs, ts, sf, a1, r_spec_AdmittedDrawn l ⟨_, _, _, s2, _, _, _, _, _, _, _, a4, _, _, _, _, c_spec_l08Own ks rs ts sf a1.sm.ks a1.sm.rs a1.sm.ts a1.sm.sf, rfl, rfl⟩⟩
theorem lpT_img {ks : List Int} {rs : List Rou} {ts : List Tsk} {sf : List Bool} (hd : Drawn ks rs ts sf) : lpC (imgB ks rs ts sf) = (admM (costsM rs) ts).2.2 := by
  obtain ⟨e1, e2, e3, e4⟩ := img_enc hd.ok
  have e := imgE_enc hd.ok
  unfold lpC
  rw [if_neg (by rw [e]; simp), e2, e3]
theorem c_laws_FnBounds (l1 : List Int) (hw1 : Ty.wf (.slice (.int .u8)) l1) (l2 : List Int) (hw2 : Ty.wf (.slice (.int .u8)) l2) : TT n_laws_FnBounds [.one (.sl u8s l1), .one (.sl u8s l2)] [] (eB true) [] := by
  refine r_laws_FnBounds l1 l2 (ifP (fun _ => ⟨rfl, rfl⟩) (fun g1 => ifP (fun _ => ⟨rfl, rfl⟩) (fun g2 => ?_)))
  obtain ⟨ks0, rs0, ts0, sf0, hd0, hD0⟩ := c_ProgramDrawn l1 (by omega) (u8_of hw1)
  obtain ⟨ks1, rs1, ts1, sf1, hd1, hD1⟩ := c_AdmittedDrawn l1 (by omega) (u8_of hw1)
  obtain ⟨n, n1, hA⟩ := c_at' l2 0 2 (by omega) (u8_of hw2) (by omega) (by omega)
  refine ⟨_, _, _, _, hD0, fun ks rs ts sf => Drawn ks rs ts sf, ⟨n, hA, ifE (fun _ => ⟨_, _, _, _, hD1, hd1⟩) (fun _ => hd0)⟩, ?_⟩
  clear hD0 hD1 hA hd0 hd1
  intro ks rs ts sf hd
  have hf := prgOK_fit hd.ok
  have h5 := hf.ts5
  have hbl := boundsM_len (ks := ks) (rs := rs) (ts := ts) (sf := sf)
  have hal := admitM_len (ks := ks) (rs := rs) (ts := ts) (sf := sf)
  have hlo : (loadM ks rs ts sf).2 = 0 := by unfold loadM; rw [if_pos hd.ok]
  have hC := lpT_img hd
  have hM : (admitM ks rs ts sf).2.2 = (admM (costsM rs) ts).2.2 := by unfold admitM; rw [if_pos hd.ok]
  have hL := c_impl_LoadPlc (imgB ks rs ts sf)
  obtain ⟨e1, e2, e3, e4⟩ := img_enc hd.ok
  refine ⟨_, _, c_impl_BoundsOf ks rs ts sf hd.sm, _, _, c_spec_BoundsOf ks rs ts sf hd.sm, _, _, _, c_impl_AdmitProgram ks rs ts sf hd.sm, _, _, _, c_spec_AdmitProgram ks rs ts sf hd.sm, _, _, c_impl_LoadOf ks rs ts sf hd.sm, _, _, c_spec_LoadOf ks rs ts sf hd.sm,
    ifN_f rfl ⟨_, c_sameBounds _ (by omega), ifB_f rfl (ifN_f rfl (ifN_f rfl ⟨_, c_sameBounds _ (by omega), ifB_f rfl (ifN_f hlo (ifN_f rfl ⟨_, _, c_impl_ImageText ks rs ts sf hd.sm hd.ok, ?_⟩))⟩))⟩⟩
  by_cases hc : (admM (costsM rs) ts).2.2 = 0
  · rw [lp_good (hC.trans hc), e1, e2, e3, e4] at hL
    obtain ⟨b1, b2, b3⟩ := adm_fine hf hc
    have hB : (boundsM ks rs ts sf).1 = (bndM (costsM rs) ts).1 := by unfold boundsM; rw [if_pos hd.ok]
    refine ⟨_, _, _, _, _, _, _, _, _, _, _, _, _, _, _, _, _, _, hL, ifN_f rfl (ifN_f (hM.trans hc).symm (ifN_f (hM.trans hc) ?_))⟩
    rw [hB]
    refine ⟨fun w md a1 a2 a3 bz k r t s g f a b c d q => w = 0 ∧ md = 1 ∧ a1 = 0 ∧ a2 = 0 ∧ a3 = 0 ∧ bz = false ∧ k = ks ∧ r = rs ∧ t = ts ∧ s = sf ∧ g = List.replicate 16 0 ∧ f = newF ks ∧ a = rep8 ∧ b = rep8 ∧ c = rep8 ∧ d = sf ∧ q = List.replicate ts.length src0,
      ⟨fun m i k0 L w md a1 a2 a3 bz r0 t0 s0 k r t s g f a b c d q => (0 ≤ i ∧ i ≤ ts.length ∧ m = (ts.length - i).toNat ∧ L = (bndM (costsM rs) ts).1 ∧ t0 = ts) ∧ w = 0 ∧ md = 1 ∧ a1 = 0 ∧ a2 = 0 ∧ a3 = 0 ∧ bz = false ∧ k = ks ∧ r = rs ∧ t = ts ∧ s = sf ∧ g = List.replicate 16 0 ∧ f = newF ks ∧ a = rep8 ∧ b = rep8 ∧ c = rep8 ∧ d = sf ∧ q = List.replicate ts.length src0,
        ⟨_, ⟨by omega, by omega, rfl, rfl, rfl⟩, rfl, rfl, rfl, rfl, rfl, rfl, rfl, rfl, rfl, rfl, rfl, rfl, rfl, rfl, rfl, rfl, rfl⟩, ?_⟩, ?_⟩
    · rintro m i k0 L w md a1 a2 a3 bz r0 t0 s0 k r t s g f a b c d q ⟨⟨h0, h1, rfl, rfl, rfl⟩, he⟩
      rw [b2]
      refine ifP (fun hlt => ?_) (fun hge => he)
      obtain ⟨c1, c2, c3⟩ := b3 i.toNat (by omega)
      unfold dBd at c1 c2 c3
      unfold dTsk at c1
      rw [w64 (x := i + 1) (by omega)]
      exact ⟨⟨h0, by omega⟩, ⟨h0, by omega⟩, ifP_f (by omega) ⟨⟨h0, by omega⟩, ⟨h0, by omega⟩, ifP_f (by omega) ⟨⟨h0, by omega⟩, ⟨h0, by omega⟩, ifP_f (by omega) ⟨_, by omega, ⟨by omega, by omega, rfl, rfl, rfl⟩, he⟩⟩⟩⟩
    · rintro w md a1 a2 a3 bz k r t s g f a b c d q ⟨rfl, rfl, rfl, rfl, rfl, rfl, rfl, rfl, rfl, rfl, rfl, rfl, rfl, rfl, rfl, rfl, rfl⟩
      exact ⟨_, c_PlcOK0 _ _ _ _ hd hc, ifB_t rfl ⟨rfl, rfl⟩⟩
  · rw [lp_bad hC hc] at hL
    exact ⟨_, _, _, _, _, _, _, _, _, _, _, _, _, _, _, _, _, _, hL, ifN_f rfl (ifN_f hM.symm (ifN_t (by rw [hM]; exact hc) ⟨rfl, rfl⟩))⟩
end Go.Ry
