/- The load of a program: the same by the program and by the reference. No condition. -/
import Derived.Test.YtgmafoodhnbcdaaPCost4
import Derived.Test.YtgmafoodhnbcdaaPStd
set_option linter.unusedVariables false
set_option linter.unusedSimpArgs false
namespace Go.Ry
open Go.Proofs

def ceilM (a b : Int) : Int := (a + b - 1) / b
theorem ceil_range {a b : Int} (ha : 0 ≤ a) (hb : 1 ≤ b) : 0 ≤ ceilM a b ∧ ceilM a b ≤ a + b - 1 :=
  ⟨Int.ediv_nonneg (by omega) (by omega), Int.ediv_le_self _ (by omega)⟩
theorem ceil_eq {a b : Int} (ha : 0 ≤ a ∧ a ≤ 3000000000000) (hb : 1 ≤ b ∧ b ≤ 5000) : wI (Int.tdiv (wI ((wI (a + b)) - 1)) b) = ceilM a b := by
  have := ceil_range ha.1 hb.1
  rw [w64 (x := a + b) (by omega), w64 (x := a + b - 1) (by omega), Int.tdiv_eq_ediv_of_nonneg (by omega)]
  exact w64 (by unfold ceilM at this; omega)
theorem c_impl_ceil (a b : Int) (ha : 0 ≤ a ∧ a ≤ 3000000000000) (hb : 1 ≤ b ∧ b ≤ 5000) : TT n_impl_ceil [eI a, eI b] [] (eI (ceilM a b)) [] :=
  r_impl_ceil a b ⟨by omega, by rw [ceil_eq ha hb], rfl⟩
@[reducible] def suAt (cs : List Su) (k : Int) : Su := cs.getD k.toNat ((0 : Int), ((0 : Int), ((0 : Int), ((0 : Int), ((0 : Int), ())))))
@[reducible] def tskAt (ts : List Tsk) (k : Nat) : Tsk := ts.getD k ((0 : Int), ((0 : Int), ((0 : Int), ((0 : Int), ((0 : Int), ((0 : Int), ()))))))
def loadL (cs : List Su) : List Tsk → Int → Int
  | [], n => n
  | t :: l, n => loadL cs l (n + ceilM (1000 * (jobM (suAt cs t.2.2.2.2.2.1)).1) t.2.1)
theorem loadL_cons {cs : List Su} {t : Tsk} {l : List Tsk} {n : Int} : loadL cs (t :: l) n = loadL cs l (n + ceilM (1000 * (jobM (suAt cs t.2.2.2.2.2.1)).1) t.2.1) := rfl
theorem tskOK_range {t : Tsk} (h : tskOK t = true) : (1 ≤ t.2.1 ∧ t.2.1 ≤ 5000) ∧ (1 ≤ t.2.2.1 ∧ t.2.2.1 ≤ 5000) ∧ (1 ≤ t.2.2.2.2.1 ∧ t.2.2.2.2.1 ≤ 4) ∧ (0 ≤ t.2.2.2.2.2.1 ∧ t.2.2.2.2.2.1 ≤ 5) := by
  simp only [tskOK, taskOK, Bool.and_eq_true] at h
  exact ⟨within_iff.1 h.1, within_iff.1 h.2.1, within_iff.1 h.2.2.1, within_iff.1 h.2.2.2.1⟩
theorem PrgFit.task {ks : List Int} {rs : List Rou} {ts : List Tsk} {sf : List Bool} (h : PrgFit ks rs ts sf) {k : Nat} (hk : k < ts.length) :
    ((1 ≤ (tskAt ts k).2.1 ∧ (tskAt ts k).2.1 ≤ 5000) ∧ (1 ≤ (tskAt ts k).2.2.1 ∧ (tskAt ts k).2.2.1 ≤ 5000) ∧ (1 ≤ (tskAt ts k).2.2.2.2.1 ∧ (tskAt ts k).2.2.2.2.1 ≤ 4)) ∧ 0 ≤ (tskAt ts k).2.2.2.2.2.1 ∧ (tskAt ts k).2.2.2.2.2.1 < rs.length := by
  have hm : tskAt ts k ∈ ts := by
    unfold tskAt
    rw [List.getD_eq_getElem?_getD, List.getElem?_eq_getElem hk]
    exact List.getElem_mem hk
  have h1 := h.hts _ hm
  have h2 := tskOK_range h1.1
  exact ⟨⟨h2.1, h2.2.1, h2.2.2.1⟩, h2.2.2.2.1, h1.2⟩
def loadM (ks : List Int) (rs : List Rou) (ts : List Tsk) (sf : List Bool) : Int × Int := if prgOK ks rs ts sf = true then (loadL (costsM rs) ts 0, 0) else (0, 1)
theorem c_impl_LoadOf (ks : List Int) (rs : List Rou) (ts : List Tsk) (sf : List Bool) (h : prgSmall ks rs ts sf) : TT n_impl_LoadOf [prgE ks rs ts sf] [] (tupII (loadM ks rs ts sf).1 (loadM ks rs ts sf).2) [] := by
  refine r_impl_LoadOf ks rs ts sf ⟨_, c_impl_isProgram ks rs ts sf h, ifB_cases (fun h1 => ?_) (fun h1 => ?_)⟩
  · have e : loadM ks rs ts sf = (0, 1) := by unfold loadM; rw [if_neg (by simpa using h1)]
    rw [e]; exact ⟨rfl, rfl⟩
  have h1 : prgOK ks rs ts sf = true := by simpa using h1
  have hf := prgOK_fit h1
  obtain ⟨c1, c2⟩ := costs_all hf.rous
  have h5 := hf.ts5
  refine ⟨_, c_impl_costsOf rs hf.rous, fun m n i cs => 0 ≤ i ∧ i ≤ ts.length ∧ m = (ts.length - i).toNat ∧ cs = costsM rs ∧ 0 ≤ n ∧ n ≤ 3000000000000 * i ∧ loadM ks rs ts sf = (loadL (costsM rs) (ts.drop i.toNat) n, 0),
    ⟨_, rfl, by omega, by omega, rfl, rfl, by omega, by omega, by unfold loadM; rw [if_pos h1]; rfl⟩, ?_⟩
  rintro m n i cs ⟨h0, hi, rfl, rfl, hn, hn2, hv⟩
  refine ifP (fun hlt => ?_) (fun hge => ?_)
  · have ht := hf.task (k := i.toNat) (by omega)
    rw [drop_getD (by omega) ((0 : Int), ((0 : Int), ((0 : Int), ((0 : Int), ((0 : Int), ((0 : Int), ())))))), loadL_cons] at hv
    simp only [tskAt] at ht
    revert hv ht
    generalize ts.getD i.toNat ((0 : Int), ((0 : Int), ((0 : Int), ((0 : Int), ((0 : Int), ((0 : Int), ())))))) = t
    intro hv ht
    have hs := c1.at (i := t.2.2.2.2.2.1.toNat) (by omega)
    simp only [suAt] at hv
    revert hv hs
    generalize (costsM rs).getD t.2.2.2.2.2.1.toNat ((0 : Int), ((0 : Int), ((0 : Int), ((0 : Int), ((0 : Int), ()))))) = u
    intro hv hs
    have hjt := (jobM_ok hs).t
    have hc := ceil_range (a := 1000 * (jobM u).1) (b := t.2.1) (by omega) (by omega)
    refine ⟨⟨h0, hlt⟩, ⟨ht.2.1, by omega⟩, _, _, _, _, _, c_impl_jobCost u hs, ?_⟩
    rw [w64 (x := 1000 * _) (by omega)]
    refine ⟨_, c_impl_ceil _ _ (by omega) ht.1.1, ?_⟩
    rw [w64 (x := n + _) (by omega), w64 (by omega)]
    exact ⟨_, by omega, rfl, by omega, by omega, rfl, rfl, by omega, by omega, by rw [toNat_succ h0]; exact hv⟩
  · rw [List.drop_eq_nil_of_le (by omega)] at hv
    rw [hv]; exact ⟨rfl, rfl⟩
theorem c_spec_LoadOf (ks : List Int) (rs : List Rou) (ts : List Tsk) (sf : List Bool) (h : prgSmall ks rs ts sf) : TT n_spec_LoadOf [prgE ks rs ts sf] [] (tupII (loadM ks rs ts sf).1 (loadM ks rs ts sf).2) [] := by
  refine r_spec_LoadOf ks rs ts sf ⟨_, c_spec_l08OK ks rs ts sf h, ifB_cases (fun h1 => ?_) (fun h1 => ?_)⟩
  · have e : loadM ks rs ts sf = (0, 1) := by unfold loadM; rw [if_neg (by simpa using h1)]
    rw [e]; exact ⟨rfl, rfl⟩
  have h1 : prgOK ks rs ts sf = true := by simpa using h1
  have hf := prgOK_fit h1
  obtain ⟨c1, c2⟩ := costs_all hf.rous
  have h5 := hf.ts5
  refine ⟨_, c_spec_l05Costs rs hf.rous, fun m n i cs => 0 ≤ i ∧ i ≤ ts.length ∧ m = (ts.length - i).toNat ∧ cs = costsM rs ∧ 0 ≤ n ∧ n ≤ 3000000000000 * i ∧ loadM ks rs ts sf = (loadL (costsM rs) (ts.drop i.toNat) n, 0),
    ⟨_, rfl, by omega, by omega, rfl, rfl, by omega, by omega, by unfold loadM; rw [if_pos h1]; rfl⟩, ?_⟩
  rintro m n i cs ⟨h0, hi, rfl, rfl, hn, hn2, hv⟩
  refine ifP (fun hlt => ?_) (fun hge => ?_)
  · have ht := hf.task (k := i.toNat) (by omega)
    rw [drop_getD (by omega) ((0 : Int), ((0 : Int), ((0 : Int), ((0 : Int), ((0 : Int), ((0 : Int), ())))))), loadL_cons] at hv
    simp only [tskAt] at ht
    revert hv ht
    generalize ts.getD i.toNat ((0 : Int), ((0 : Int), ((0 : Int), ((0 : Int), ((0 : Int), ((0 : Int), ())))))) = t
    intro hv ht
    have hs := c1.at (i := t.2.2.2.2.2.1.toNat) (by omega)
    simp only [suAt] at hv
    revert hv hs
    generalize (costsM rs).getD t.2.2.2.2.2.1.toNat ((0 : Int), ((0 : Int), ((0 : Int), ((0 : Int), ((0 : Int), ()))))) = u
    intro hv hs
    have hjt := (jobM_ok hs).t
    have hc := ceil_range (a := 1000 * (jobM u).1) (b := t.2.1) (by omega) (by omega)
    refine ⟨⟨h0, hlt⟩, ⟨ht.2.1, by omega⟩, _, _, _, _, _, c_spec_l09Job u hs, ?_⟩
    refine ⟨by omega, ?_⟩
    rw [w64 (x := 1000 * _) (by omega), ceil_eq (by omega) ht.1.1, w64 (x := n + _) (by omega), w64 (by omega)]
    exact ⟨_, by omega, rfl, by omega, by omega, rfl, rfl, by omega, by omega, by rw [toNat_succ h0]; exact hv⟩
  · rw [List.drop_eq_nil_of_le (by omega)] at hv
    rw [hv]; exact ⟨rfl, rfl⟩
theorem sm_prg {ks : List Int} {rs : List Rou} {ts : List Tsk} {sf : List Bool} (h : sm_Program (ks, (rs, (ts, (sf, ()))))) : prgSmall ks rs ts sf := ⟨h.1, h.2.1, h.2.2.1, h.2.2.2⟩
theorem c_laws_FnExactLoadOf (p : List Int × List Rou × List Tsk × List Bool × Unit) (hw : Ty.wf (.pair (.slice (.int .i64)) (.pair (.slice tRou) (.pair (.slice tTsk) (.pair (.slice .bool) .unit)))) p) :
    TT n_laws_FnExactLoadOf [prgE p.1 p.2.1 p.2.2.1 p.2.2.2.1] [] (eB true) [] := by
  obtain ⟨ks, rs, ts, sf, ⟨⟩⟩ := p
  refine r_laws_FnExactLoadOf ks rs ts sf ⟨_, c_sz_Program (ks, (rs, (ts, (sf, ())))) 1048576 hw (by omega), ifP (fun _ => ⟨rfl, rfl⟩) (fun h0 => ?_)⟩
  have hs := (sz_Program_ok (l := (ks, (rs, (ts, (sf, ()))))) (n := 1048576) (by omega)).2 (by omega)
  have t := c_to_Program (ks, (rs, (ts, (sf, ())))) hs
  exact ⟨_, _, _, _, t, _, _, c_spec_LoadOf ks rs ts sf (sm_prg hs), _, _, _, _, t, _, _, c_impl_LoadOf ks rs ts sf (sm_prg hs), ifN_f rfl (ifN_f rfl ⟨_, _, _, _, t, _, c_eq_Program (ks, (rs, (ts, (sf, ())))) hs, ifB_f rfl ⟨rfl, rfl⟩⟩)⟩
end Go.Ry
