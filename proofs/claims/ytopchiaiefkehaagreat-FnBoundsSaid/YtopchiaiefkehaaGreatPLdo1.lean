/- The load of a program: the program's and the reference's. No condition. -/
import Derived.Test.YtopchiaiefkehaaGreatPLoad1
import Derived.Test.YtopchiaiefkehaaGreatPVer6
set_option linter.unusedVariables false
set_option linter.unusedSimpArgs false
namespace Go.Ry
open Go.Proofs

def loadL (cs : List Su) : List Tsk → Int → Int
  | [], n => n
  | t :: l, n => loadL cs l (n + ceilM (1000 * (jobM (suAt cs t.2.2.2.2.2.1)).1) t.2.1)
theorem loadL_cons {cs : List Su} {t : Tsk} {l : List Tsk} {n : Int} : loadL cs (t :: l) n = loadL cs l (n + ceilM (1000 * (jobM (suAt cs t.2.2.2.2.2.1)).1) t.2.1) := rfl
def loadM (ks : List Int) (rs : List Rou) (ts : List Tsk) (sf : List Bool) : Int × Int := if prgOK ks rs ts sf = true then (loadL (costsM rs) ts 0, 0) else (0, 1)
theorem c_impl_LoadOf (ks : List Int) (rs : List Rou) (ts : List Tsk) (sf : List Bool) (h : prgSmall ks rs ts sf) : TT n_impl_LoadOf [prgE ks rs ts sf] [] (tupII (loadM ks rs ts sf).1 (loadM ks rs ts sf).2) [] := by
  refine r_impl_LoadOf ks rs ts sf ⟨_, c_impl_isProgram ks rs ts sf h, ifB_cases (fun h1 => ?_) (fun h1 => ?_)⟩
  · have e : loadM ks rs ts sf = (0, 1) := by unfold loadM; rw [if_neg (by simpa using h1)]
    rw [e]; exact ⟨rfl, rfl⟩
  have h1 : prgOK ks rs ts sf = true := by simpa using h1
  have hf := prgOK_fit h1
  obtain ⟨c1, c2⟩ := costs_all hf.rous
  have h5 := hf.ts5
  refine ⟨_, c_impl_costsOf rs hf.rous, fun m n i cs => 0 ≤ i ∧ i ≤ ts.length ∧ m = (ts.length - i).toNat ∧ cs = costsM rs ∧ 0 ≤ n ∧ n ≤ 3000000000000 * i ∧ loadM ks rs ts sf = (loadL (costsM rs) (ts.drop i.toNat) n, 0),
    ⟨_, rfl, by omega, by omega, rfl, rfl, by omega, by omega, by unfold loadM; rw [if_pos h1]; rfl⟩, ?_⟩
  rintro m n i cs ⟨h0, hi, rfl, rfl, hn, hn2, hv⟩
  refine ifP (fun hlt => ?_) (fun hge => ?_)
  · have ht := hf.task (k := i.toNat) (by omega)
    rw [drop_getD (by omega) ((0 : Int), ((0 : Int), ((0 : Int), ((0 : Int), ((0 : Int), ((0 : Int), ())))))), loadL_cons] at hv
    simp only [tskAt] at ht
    revert hv ht
    generalize ts.getD i.toNat ((0 : Int), ((0 : Int), ((0 : Int), ((0 : Int), ((0 : Int), ((0 : Int), ())))))) = t
    intro hv ht
    have hs := c1.at (i := t.2.2.2.2.2.1.toNat) (by omega)
    simp only [suAt] at hv
    revert hv hs
    generalize (costsM rs).getD t.2.2.2.2.2.1.toNat ((0 : Int), ((0 : Int), ((0 : Int), ((0 : Int), ((0 : Int), ()))))) = u
    intro hv hs
    have hjt := (jobM_ok hs).t
    have hc := ceil_range (a := 1000 * (jobM u).1) (b := t.2.1) (by omega) (by omega)
    refine ⟨⟨h0, hlt⟩, ⟨ht.2.1, by omega⟩, _, _, _, _, _, c_impl_jobCost u hs, ?_⟩
    rw [w64 (x := 1000 * _) (by omega)]
    refine ⟨_, c_impl_ceil _ _ (by omega) ht.1.1, ?_⟩
    rw [w64 (x := n + _) (by omega), w64 (by omega)]
    exact ⟨_, by omega, rfl, by omega, by omega, rfl, rfl, by omega, by omega, by rw [toNat_succ h0]; exact hv⟩
  · rw [List.drop_eq_nil_of_le (by omega)] at hv
    rw [hv]; exact ⟨rfl, rfl⟩
theorem c_spec_LoadOf (ks : List Int) (rs : List Rou) (ts : List Tsk) (sf : List Bool) (h : prgSmall ks rs ts sf) : TT n_spec_LoadOf [prgE ks rs ts sf] [] (tupII (loadM ks rs ts sf).1 (loadM ks rs ts sf).2) [] := by
  refine r_spec_LoadOf ks rs ts sf ⟨_, c_spec_l08OK ks rs ts sf h, ifB_cases (fun h1 => ?_) (fun h1 => ?_)⟩
  · have e : loadM ks rs ts sf = (0, 1) := by unfold loadM; rw [if_neg (by simpa using h1)]
    rw [e]; exact ⟨rfl, rfl⟩
  have h1 : prgOK ks rs ts sf = true := by simpa using h1
  have hf := prgOK_fit h1
  obtain ⟨c1, c2⟩ := costs_all hf.rous
  have h5 := hf.ts5
  refine ⟨_, c_spec_l05Costs rs hf.rous, fun m n i cs => 0 ≤ i ∧ i ≤ ts.length ∧ m = (ts.length - i).toNat ∧ cs = costsM rs ∧ 0 ≤ n ∧ n ≤ 3000000000000 * i ∧ loadM ks rs ts sf = (loadL (costsM rs) (ts.drop i.toNat) n, 0),
    ⟨_, rfl, by omega, by omega, rfl, rfl, by omega, by omega, by unfold loadM; rw [if_pos h1]; rfl⟩, ?_⟩
  rintro m n i cs ⟨h0, hi, rfl, rfl, hn, hn2, hv⟩
  refine ifP (fun hlt => ?_) (fun hge => ?_)
  · have ht := hf.task (k := i.toNat) (by omega)
    rw [drop_getD (by omega) ((0 : Int), ((0 : Int), ((0 : Int), ((0 : Int), ((0 : Int), ((0 : Int), ())))))), loadL_cons] at hv
    simp only [tskAt] at ht
    revert hv ht
    generalize ts.getD i.toNat ((0 : Int), ((0 : Int), ((0 : Int), ((0 : Int), ((0 : Int), ((0 : Int), ())))))) = t
    intro hv ht
    have hs := c1.at (i := t.2.2.2.2.2.1.toNat) (by omega)
    simp only [suAt] at hv
    revert hv hs
    generalize (costsM rs).getD t.2.2.2.2.2.1.toNat ((0 : Int), ((0 : Int), ((0 : Int), ((0 : Int), ((0 : Int), ()))))) = u
    intro hv hs
    have hjt := (jobM_ok hs).t
    have hc := ceil_range (a := 1000 * (jobM u).1) (b := t.2.1) (by omega) (by omega)
    refine ⟨⟨h0, hlt⟩, ⟨ht.2.1, by omega⟩, _, _, _, _, _, c_spec_l09Job u hs, ?_⟩
    refine ⟨by omega, ?_⟩
    rw [w64 (x := 1000 * _) (by omega), ceil_eq (by omega) ht.1.1, w64 (x := n + _) (by omega), w64 (by omega)]
    exact ⟨_, by omega, rfl, by omega, by omega, rfl, rfl, by omega, by omega, by rw [toNat_succ h0]; exact hv⟩
  · rw [List.drop_eq_nil_of_le (by omega)] at hv
    rw [hv]; exact ⟨rfl, rfl⟩
end Go.Ry
