/- The bounds of a program, and whether it is admitted. No condition. -/
import Derived.Test.YtopchiaiefkehaaGreatPBnd4
set_option linter.unusedVariables false
set_option linter.unusedSimpArgs false
namespace Go.Ry
open Go.Proofs

theorem busyF_range {cs ps : List Int} {b : Int} : ∀ {f : Nat} {n : Int}, 1 ≤ n → (busyF cs ps b f n).2 = true → 1 ≤ (busyF cs ps b f n).1 ∧ (busyF cs ps b f n).1 ≤ 5000
  | 0, n, _, h => by simp [busyF] at h
  | f + 1, n, hn, h => by
    rw [busyF_succ] at h ⊢
    split
    · rename_i h5
      rw [if_pos h5] at h
      split
      · exact ⟨hn, h5⟩
      · rename_i hd
        rw [if_neg hd] at h
        exact busyF_range (by omega) h
    · rename_i h5
      rw [if_neg h5] at h
      simp at h
theorem busyM_range {cs ps : List Int} {b : Int} (h : (busyM cs ps b).2 = true) : 1 ≤ (busyM cs ps b).1 ∧ (busyM cs ps b).1 ≤ 5000 := busyF_range (by omega) h
def okB (y : Bd) : Prop := 1 ≤ y.2.2.2.1 ∧ y.2.2.2.1 ≤ 5000
theorem bndG_ok : ∀ {l : List Bd} {ts : List Tsk} {cs ps : List Int} {acc : List Bd} {i : Int}, l.length = ts.length → (∀ y ∈ acc, okB y) → (bndG l ts cs ps acc i).2.2 = true →
    (bndG l ts cs ps acc i).1.length = acc.length + l.length ∧ ∀ y ∈ (bndG l ts cs ps acc i).1, okB y
  | [], ts, cs, ps, acc, i, _, ha, _ => ⟨rfl, ha⟩
  | y :: l, [], _, _, _, _, h, _, _ => by simp at h
  | y :: l, t :: ts, cs, ps, acc, i, h, ha, hb => by
    rw [bndG_cons] at hb ⊢
    split
    · rename_i h1
      rw [if_pos h1] at hb
      have := bndG_ok (l := l) (ts := ts) (acc := acc ++ [setN y (busyM (cs ++ [y.1]) (ps ++ [t.2.1]) y.2.2.1).1]) (by simpa using h) (fun z hz => by
        rcases List.mem_append.1 hz with hz | hz
        · exact ha z hz
        · simp at hz
          subst hz
          exact busyM_range h1) hb
      refine ⟨by rw [this.1]; simp; omega, this.2⟩
    · rename_i h1
      rw [if_neg h1] at hb
      simp at hb
theorem bndG_fail : ∀ {l : List Bd} {ts : List Tsk} {cs ps : List Int} {acc : List Bd} {i : Int}, (bndG l ts cs ps acc i).2.2 = false → (bndG l ts cs ps acc i).1 = []
  | [], ts, cs, ps, acc, i, h => by simp [bndG] at h
  | y :: l, [], cs, ps, acc, i, h => by simp [bndG] at h
  | y :: l, t :: ts, cs, ps, acc, i, h => by
    rw [bndG_cons] at h ⊢
    split
    · rename_i h1
      rw [if_pos h1] at h
      exact bndG_fail h
    · rfl
theorem bndM_fail {cs : List Su} {ts : List Tsk} (h : (bndM cs ts).2.2 = false) : (bndM cs ts).1 = [] := by
  unfold bndM at h ⊢
  split
  · rfl
  · rename_i h1
    rw [if_neg h1] at h
    exact bndG_fail h
theorem bndM_ok {cs : List Su} {ts : List Tsk} (h : (bndM cs ts).2.2 = true) : (bndM cs ts).1.length = ts.length ∧ ∀ y ∈ (bndM cs ts).1, okB y := by
  unfold bndM at h ⊢
  split
  · rename_i h1
    rw [if_pos h1] at h
    simp at h
  · rename_i h1
    rw [if_neg h1] at h
    have := bndG_ok (by rw [blkL_len, rawL_len]) (fun y hy => by simp at hy) h
    rw [blkL_len, rawL_len] at this
    exact ⟨by rw [this.1]; simp, this.2⟩
theorem bndM_len {cs : List Su} {ts : List Tsk} : (bndM cs ts).1.length ≤ ts.length := by
  cases h : (bndM cs ts).2.2
  · rw [bndM_fail h]; simp
  · rw [(bndM_ok h).1]; omega

@[reducible] def bndR (n : Int) : Ent := .tup [(false, [.row 0]), (false, [cI n])]
def boundsM (ks : List Int) (rs : List Rou) (ts : List Tsk) (sf : List Bool) : List Bd × Int := if prgOK ks rs ts sf = true then ((bndM (costsM rs) ts).1, codeB (bndM (costsM rs) ts).2.2) else ([], 1)
theorem boundsM_len {ks : List Int} {rs : List Rou} {ts : List Tsk} {sf : List Bool} : (boundsM ks rs ts sf).1.length ≤ 5 := by
  unfold boundsM
  split
  · rename_i h
    have h1 := (prgOK_fit h).ts5
    have h2 := bndM_len (cs := costsM rs) (ts := ts)
    show (bndM (costsM rs) ts).1.length ≤ 5
    omega
  · simp
theorem c_impl_BoundsOf (ks : List Int) (rs : List Rou) (ts : List Tsk) (sf : List Bool) (h : prgSmall ks rs ts sf) : TT n_impl_BoundsOf [prgE ks rs ts sf] [] (bndR (boundsM ks rs ts sf).2) (bndO (boundsM ks rs ts sf).1) := by
  refine r_impl_BoundsOf ks rs ts sf ⟨_, c_impl_isProgram ks rs ts sf h, ifB_cases (fun h1 => ?_) (fun h1 => ?_)⟩
  · have e : boundsM ks rs ts sf = ([], 1) := by unfold boundsM; rw [if_neg (by simpa using h1)]
    rw [e]; exact ⟨rfl, rfl⟩
  have h1 : prgOK ks rs ts sf = true := by simpa using h1
  have e : boundsM ks rs ts sf = ((bndM (costsM rs) ts).1, codeB (bndM (costsM rs) ts).2.2) := by unfold boundsM; rw [if_pos h1]
  rw [e]
  exact ⟨_, _, _, c_impl_bounds ks rs ts sf (prgOK_fit h1), rfl, rfl⟩
theorem c_spec_BoundsOf (ks : List Int) (rs : List Rou) (ts : List Tsk) (sf : List Bool) (h : prgSmall ks rs ts sf) : TT n_spec_BoundsOf [prgE ks rs ts sf] [] (bndR (boundsM ks rs ts sf).2) (bndO (boundsM ks rs ts sf).1) := by
  refine r_spec_BoundsOf ks rs ts sf ⟨_, c_spec_l08OK ks rs ts sf h, ifB_cases (fun h1 => ?_) (fun h1 => ?_)⟩
  · have e : boundsM ks rs ts sf = ([], 1) := by unfold boundsM; rw [if_neg (by simpa using h1)]
    rw [e]; exact ⟨rfl, rfl⟩
  have h1 : prgOK ks rs ts sf = true := by simpa using h1
  have e : boundsM ks rs ts sf = ((bndM (costsM rs) ts).1, codeB (bndM (costsM rs) ts).2.2) := by unfold boundsM; rw [if_pos h1]
  rw [e]
  refine ⟨_, _, _, c_spec_l09Bounds ks rs ts sf (prgOK_fit h1), ifB_cases (fun hb => ?_) (fun hb => ?_)⟩
  · simp only [Bool.not_eq_true'] at hb
    rw [hb, bndM_fail hb]; exact ⟨rfl, rfl⟩
  · simp only [Bool.not_eq_false'] at hb
    rw [hb]; exact ⟨rfl, rfl⟩

/-- The first task that is late, or whose queue is too short. -/
def admC : List Bd → List Tsk → Int → Int × Int
  | y :: l, t :: ts, i => if y.2.2.2.1 > t.2.2.1 then (i, 22) else if ceilM y.2.2.2.1 t.2.1 > t.2.2.2.2.1 then (i, 7) else admC l ts (i + 1)
  | _, _, _ => (0, 0)
theorem admC_cons {y : Bd} {l : List Bd} {t : Tsk} {ts : List Tsk} {i : Int} : admC (y :: l) (t :: ts) i = if y.2.2.2.1 > t.2.2.1 then (i, 22) else if ceilM y.2.2.2.1 t.2.1 > t.2.2.2.2.1 then (i, 7) else admC l ts (i + 1) := rfl
def admM (cs : List Su) (ts : List Tsk) : List Bd × Int × Int :=
  if (bndM cs ts).2.2 = false then ([], (bndM cs ts).2.1, 18) else if (admC (bndM cs ts).1 ts 0).2 = 0 then ((bndM cs ts).1, 0, 0) else ([], (admC (bndM cs ts).1 ts 0).1, (admC (bndM cs ts).1 ts 0).2)
theorem okB_at {l : List Bd} (h : ∀ y ∈ l, okB y) {i : Nat} (hi : i < l.length) : okB (l.getD i dBd) := by
  rw [List.getD_eq_getElem?_getD, List.getElem?_eq_getElem hi]
  exact h _ (List.getElem_mem hi)
theorem c_spec_l09Admit (ks : List Int) (rs : List Rou) (ts : List Tsk) (sf : List Bool) (hf : PrgFit ks rs ts sf) : TT n_spec_l09Admit [prgE ks rs ts sf] [] (bndI (admM (costsM rs) ts).2.1 (admM (costsM rs) ts).2.2) (bndO (admM (costsM rs) ts).1) := by
  have h5 := hf.ts5
  generalize hA : admM (costsM rs) ts = A
  refine r_spec_l09Admit ks rs ts sf ⟨_, _, _, c_spec_l09Bounds ks rs ts sf hf, ifB_cases (fun hb => ?_) (fun hb => ?_)⟩
  · simp only [Bool.not_eq_true'] at hb
    rw [← hA]; unfold admM; rw [if_pos hb]; exact ⟨rfl, rfl⟩
  simp only [Bool.not_eq_false'] at hb
  obtain ⟨o1, o2⟩ := bndM_ok hb
  unfold admM at hA
  rw [if_neg (by rw [hb]; simp)] at hA
  generalize (bndM (costsM rs) ts).1 = R at *
  refine ⟨fun m i r => 0 ≤ i ∧ i ≤ ts.length ∧ m = (ts.length - i).toNat ∧ r = R ∧ admC (R.drop i.toNat) (ts.drop i.toNat) i = admC R ts 0, ⟨_, rfl, by omega, by omega, rfl, rfl, rfl⟩, ?_⟩
  rintro m i r ⟨h0, h1, rfl, rfl, hv⟩
  refine ifP (fun hlt => ?_) (fun hge => ?_)
  · have hi : i.toNat < ts.length := by omega
    have ht := (hf.task (k := i.toNat) hi).1
    have hy := okB_at o2 (i := i.toNat) (by omega)
    rw [drop_getD (l := r) (by omega) dBd, drop_getD (l := ts) hi ((0 : Int), ((0 : Int), ((0 : Int), ((0 : Int), ((0 : Int), ((0 : Int), ())))))), admC_cons] at hv
    simp only [tskAt] at ht
    unfold okB at hy
    revert hv ht hy
    generalize ts.getD i.toNat ((0 : Int), ((0 : Int), ((0 : Int), ((0 : Int), ((0 : Int), ((0 : Int), ())))))) = t
    generalize r.getD i.toNat dBd = y
    intro hv ht hy
    refine ⟨⟨h0, by omega⟩, ⟨h0, by omega⟩, ifP (fun hd => ?_) (fun hd => ?_)⟩
    · rw [if_pos hd] at hv
      rw [← hv] at hA
      rw [← hA]; exact ⟨rfl, rfl⟩
    rw [if_neg hd] at hv
    refine ⟨⟨h0, by omega⟩, by omega, ?_⟩
    rw [ceil_eq (by omega) ht.1]
    refine ifP (fun hq => ?_) (fun hq => ?_)
    · rw [if_pos hq] at hv
      rw [← hv] at hA
      rw [← hA]; exact ⟨rfl, rfl⟩
    · rw [if_neg hq] at hv
      rw [w64 (x := i + 1) (by omega)]
      exact ⟨_, by omega, rfl, by omega, by omega, rfl, rfl, by rw [toNat_succ h0]; exact hv⟩
  · have e : i.toNat = r.length := by omega
    rw [e, List.drop_length] at hv
    simp only [admC] at hv
    rw [← hv] at hA
    rw [← hA]; exact ⟨rfl, rfl⟩
theorem c_impl_admit (ks : List Int) (rs : List Rou) (ts : List Tsk) (sf : List Bool) (hf : PrgFit ks rs ts sf) : TT n_impl_admit [prgE ks rs ts sf] [] (bndI (admM (costsM rs) ts).2.1 (admM (costsM rs) ts).2.2) (bndO (admM (costsM rs) ts).1) := by
  have h5 := hf.ts5
  generalize hA : admM (costsM rs) ts = A
  refine r_impl_admit ks rs ts sf ⟨_, _, _, c_impl_bounds ks rs ts sf hf, ifN (fun hb => ?_) (fun hb => ?_)⟩
  · have hb' : (bndM (costsM rs) ts).2.2 = false := by
      cases h : (bndM (costsM rs) ts).2.2
      · rfl
      · rw [h] at hb; exact absurd rfl hb
    rw [hb', ← hA]; unfold admM; rw [if_pos hb']; exact ⟨rfl, rfl⟩
  have hb : (bndM (costsM rs) ts).2.2 = true := by
    cases h : (bndM (costsM rs) ts).2.2
    · rw [h] at hb; exact absurd hb (by decide)
    · rfl
  obtain ⟨o1, o2⟩ := bndM_ok hb
  unfold admM at hA
  rw [if_neg (by rw [hb]; simp)] at hA
  generalize (bndM (costsM rs) ts).1 = R at *
  refine ⟨fun m i r => 0 ≤ i ∧ i ≤ ts.length ∧ m = (ts.length - i).toNat ∧ r = R ∧ admC (R.drop i.toNat) (ts.drop i.toNat) i = admC R ts 0, ⟨_, rfl, by omega, by omega, rfl, rfl, rfl⟩, ?_⟩
  rintro m i r ⟨h0, h1, rfl, rfl, hv⟩
  refine ifP (fun hlt => ?_) (fun hge => ?_)
  · have hi : i.toNat < ts.length := by omega
    have ht := (hf.task (k := i.toNat) hi).1
    have hy := okB_at o2 (i := i.toNat) (by omega)
    rw [drop_getD (l := r) (by omega) dBd, drop_getD (l := ts) hi ((0 : Int), ((0 : Int), ((0 : Int), ((0 : Int), ((0 : Int), ((0 : Int), ())))))), admC_cons] at hv
    simp only [tskAt] at ht
    unfold okB at hy
    revert hv ht hy
    generalize ts.getD i.toNat ((0 : Int), ((0 : Int), ((0 : Int), ((0 : Int), ((0 : Int), ((0 : Int), ())))))) = t
    generalize r.getD i.toNat dBd = y
    intro hv ht hy
    refine ⟨⟨h0, by omega⟩, ⟨h0, by omega⟩, _, c_impl_when _ _, _, c_impl_ceil _ _ (by omega) ht.1, _, c_impl_when _ _, _, c_impl_first _ (by simp), ?_⟩
    by_cases hd : y.2.2.2.1 > t.2.2.1
    · rw [if_pos hd] at hv
      refine ifN (fun _ => ?_) (fun he => ?_)
      · rw [← hv] at hA
        rw [← hA]; simp [firstOf_, hd]
      · simp [firstOf_, hd] at he
    rw [if_neg hd] at hv
    by_cases hq : ceilM y.2.2.2.1 t.2.1 > t.2.2.2.2.1
    · rw [if_pos hq] at hv
      refine ifN (fun _ => ?_) (fun he => ?_)
      · rw [← hv] at hA
        rw [← hA]; simp [firstOf_, hd, hq]
      · simp [firstOf_, hd, hq] at he
    · rw [if_neg hq] at hv
      refine ifN (fun he => ?_) (fun he => ?_)
      · simp [firstOf_, hd, hq] at he
      · rw [w64 (x := i + 1) (by omega)]
        exact ⟨_, by omega, rfl, by omega, by omega, rfl, rfl, by rw [toNat_succ h0]; exact hv⟩
  · have e : i.toNat = r.length := by omega
    rw [e, List.drop_length] at hv
    simp only [admC] at hv
    rw [← hv] at hA
    rw [← hA]; exact ⟨rfl, rfl⟩
def admitM (ks : List Int) (rs : List Rou) (ts : List Tsk) (sf : List Bool) : List Bd × Int × Int := if prgOK ks rs ts sf = true then admM (costsM rs) ts else ([], 0, 1)
theorem admitM_len {ks : List Int} {rs : List Rou} {ts : List Tsk} {sf : List Bool} : (admitM ks rs ts sf).1.length ≤ 5 := by
  unfold admitM
  split
  · rename_i h
    have h1 := (prgOK_fit h).ts5
    have h2 := bndM_len (cs := costsM rs) (ts := ts)
    unfold admM
    split
    · simp
    · split
      · show (bndM (costsM rs) ts).1.length ≤ 5
        omega
      · simp
  · simp
theorem c_impl_AdmitProgram (ks : List Int) (rs : List Rou) (ts : List Tsk) (sf : List Bool) (h : prgSmall ks rs ts sf) : TT n_impl_AdmitProgram [prgE ks rs ts sf] [] (bndI (admitM ks rs ts sf).2.1 (admitM ks rs ts sf).2.2) (bndO (admitM ks rs ts sf).1) := by
  refine r_impl_AdmitProgram ks rs ts sf ⟨_, c_impl_isProgram ks rs ts sf h, ifB_cases (fun h1 => ?_) (fun h1 => ?_)⟩
  · have e : admitM ks rs ts sf = ([], 0, 1) := by unfold admitM; rw [if_neg (by simpa using h1)]
    rw [e]; exact ⟨rfl, rfl⟩
  have h1 : prgOK ks rs ts sf = true := by simpa using h1
  have e : admitM ks rs ts sf = admM (costsM rs) ts := by unfold admitM; rw [if_pos h1]
  rw [e]
  exact ⟨_, _, _, c_impl_admit ks rs ts sf (prgOK_fit h1), rfl, rfl⟩
theorem c_spec_AdmitProgram (ks : List Int) (rs : List Rou) (ts : List Tsk) (sf : List Bool) (h : prgSmall ks rs ts sf) : TT n_spec_AdmitProgram [prgE ks rs ts sf] [] (bndI (admitM ks rs ts sf).2.1 (admitM ks rs ts sf).2.2) (bndO (admitM ks rs ts sf).1) := by
  refine r_spec_AdmitProgram ks rs ts sf ⟨_, c_spec_l08OK ks rs ts sf h, ifB_cases (fun h1 => ?_) (fun h1 => ?_)⟩
  · have e : admitM ks rs ts sf = ([], 0, 1) := by unfold admitM; rw [if_neg (by simpa using h1)]
    rw [e]; exact ⟨rfl, rfl⟩
  have h1 : prgOK ks rs ts sf = true := by simpa using h1
  have e : admitM ks rs ts sf = admM (costsM rs) ts := by unfold admitM; rw [if_pos h1]
  rw [e]
  exact ⟨_, _, _, c_spec_l09Admit ks rs ts sf (prgOK_fit h1), rfl, rfl⟩
end Go.Ry
