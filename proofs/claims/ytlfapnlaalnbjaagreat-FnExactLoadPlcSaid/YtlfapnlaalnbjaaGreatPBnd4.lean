/- The bounds of tasks: the program's walk. No condition. -/
import Derived.Test.YtlfapnlaalnbjaaGreatPBnd3
set_option linter.unusedVariables false
set_option linter.unusedSimpArgs false
namespace Go.Ry
open Go.Proofs

@[reducible] def bndI (i n : Int) : Ent := .tup [(false, [.row 0]), (false, [cI i]), (false, [cI n])]
def codeB (b : Bool) : Int := if b = true then 0 else 18
theorem c_impl_bounds (ks : List Int) (rs : List Rou) (ts : List Tsk) (sf : List Bool) (hf : PrgFit ks rs ts sf) :
    TT n_impl_bounds [prgE ks rs ts sf] [] (bndI (bndM (costsM rs) ts).2.1 (codeB (bndM (costsM rs) ts).2.2)) (bndO (bndM (costsM rs) ts).1) := by
  obtain ⟨c1, c2⟩ := costs_all hf.rous
  have h5 := hf.ts5
  have hr := raw_ok hf c1 c2
  have hrl := rawL_len (cs := costsM rs) (ts := ts)
  generalize hB : bndM (costsM rs) ts = B
  refine r_impl_bounds ks rs ts sf ⟨_, c_impl_costsOf rs hf.rous, fun a => a = rawL (costsM rs) ts, ?_, ?_⟩
  · refine ⟨fun m i a cs => 0 ≤ i ∧ i ≤ ts.length ∧ m = (ts.length - i).toNat ∧ cs = costsM rs ∧ a = (rawL (costsM rs) ts).take i.toNat, ⟨_, rfl, rfl, by omega, by omega, rfl, rfl, rfl⟩, ?_⟩
    rintro m i a cs ⟨h0, h1, rfl, rfl, rfl⟩
    refine ifP (fun hlt => ?_) (fun hge => ?_)
    · have hi : i.toNat < ts.length := by omega
      have ht := hf.task (k := i.toNat) hi
      have hat := rawL_at (cs := costsM rs) hi
      have t1 := take_succ_getD (l := rawL (costsM rs) ts) (i := i.toNat) (by omega) dBd
      rw [hat] at t1
      have hs := c1.at (i := (tskAt ts i.toNat).2.2.2.2.2.1.toNat) (by omega)
      have q1 : ((rawL (costsM rs) ts).take i.toNat).length = i.toNat := by rw [List.length_take]; omega
      refine ⟨⟨h0, hlt⟩, ⟨ht.2.1, by rw [c2]; exact ht.2.2⟩, _, _, _, _, _, c_impl_jobCost _ hs, _, c_impl_longest _, by simp [q1]; omega, ?_⟩
      rw [w64 (x := i + 1) (by omega)]
      exact ⟨_, by omega, rfl, rfl, by omega, by omega, rfl, rfl, by rw [toNat_succ h0, t1]; rfl⟩
    · have e : i.toNat = ts.length := by omega
      rw [e]
      exact ⟨rfl, by rw [← hrl, List.take_length]⟩
  rintro a rfl
  have hp : ∀ k : Nat, k < ts.length → 1 ≤ (tskAt ts k).2.1 ∧ (tskAt ts k).2.1 ≤ 5000 := fun k hk => (hf.task hk).1.1
  have hBM : bndM (costsM rs) ts = if 0 ≤ badC (rawL (costsM rs) ts) 0 then ([], badC (rawL (costsM rs) ts) 0, false) else bndG (blkL (rawL (costsM rs) ts)) ts [] [] [] 0 := rfl
  rw [hB] at hBM
  generalize rawL (costsM rs) ts = R at *
  refine ⟨fun a => a = blkL R, ?_, ?_⟩
  · refine ⟨fun m n i a => n = ts.length ∧ 0 ≤ i ∧ i ≤ ts.length ∧ m = (ts.length - i).toNat ∧ ∃ acc : List Bd, acc.length = i.toNat ∧ a = acc ++ R.drop i.toNat ∧ acc ++ blkL (R.drop i.toNat) = blkL R,
      ⟨_, rfl, by rw [hrl], by omega, by omega, rfl, [], rfl, rfl, rfl⟩, ?_⟩
    rintro m n i a ⟨rfl, h0, h1, rfl, acc, hal, rfl, hv⟩
    have hlen : (acc ++ R.drop i.toNat).length = ts.length := by rw [List.length_append, List.length_drop]; omega
    refine ifP (fun hlt => ?_) (fun hge => ?_)
    · have hi : i.toNat < R.length := by omega
      have hd := drop_getD (l := R) hi dBd
      generalize hy : R.getD i.toNat dBd = y at *
      rw [hd] at hv ⊢
      simp only [blkL] at hv
      have hln : ∀ q : Bd, (acc ++ q :: R.drop (i.toNat + 1)).length = ts.length := fun q => by simp; omega
      rw [w64 (x := i + 1) (by omega), hln]
      refine ⟨⟨by omega, by omega, by omega⟩, fun m i1 n1 i2 lo hi' n2 j a => i1 = i ∧ n1 = ts.length ∧ i2 = i ∧ lo = (i + 1).toNat ∧ hi' = ts.length ∧ n2 = ts.length - (i + 1) ∧ 0 ≤ j ∧ j ≤ ts.length - (i + 1) ∧ m = (ts.length - (i + 1) - j).toNat ∧
        ∃ z : Int, a = acc ++ setB y z :: R.drop (i.toNat + 1) ∧ accB (R.drop (i.toNat + 1 + j.toNat)) z = accB (R.drop (i.toNat + 1)) y.2.2.1, ⟨_, rfl, rfl, rfl, rfl, rfl, by omega, ?_, by omega, by omega, rfl, y.2.2.1, rfl, rfl⟩, ?_⟩
      · simp; omega
      rintro m i1 n1 i2 lo hi' n2 j a ⟨rfl, rfl, rfl, rfl, rfl, rfl, j0, j1, rfl, z, rfl, hz⟩
      refine ifP (fun hj => ?_) (fun hj => ?_)
      · have hkd := drop_getD (l := R) (i := i2.toNat + 1 + j.toNat) (by omega) dBd
        rw [hkd, accB_cons] at hz
        have ha : (acc ++ setB y z :: R.drop (i2.toNat + 1)).getD ((i2 + 1).toNat + j.toNat) dBd = R.getD (i2.toNat + 1 + j.toNat) dBd := by
          rw [show (i2 + 1).toNat + j.toNat = i2.toNat + 1 + j.toNat by omega, mid_after hal, List.getD_eq_getElem?_getD, List.getElem?_drop, List.getD_eq_getElem?_getD]
        refine ⟨⟨j0, by simp; omega⟩, ⟨h0, by rw [hln]; omega⟩, ⟨h0, by rw [hln]; omega⟩, ?_⟩
        rw [mid_at hal, ha, mid_set hal, w64 (x := j + 1) (by omega)]
        exact ⟨(ts.length - (i2 + 1) - (j + 1)).toNat, by omega, rfl, rfl, rfl, rfl, rfl, rfl, rfl, by omega, by omega, rfl, _, rfl, by rw [toNat_succ j0]; exact hz⟩
      · have : i2.toNat + 1 + j.toNat = R.length := by omega
        rw [this, List.drop_length] at hz
        simp only [accB] at hz
        rw [w64 (x := i2 + 1) (by omega)]
        refine ⟨(ts.length - (i2 + 1)).toNat, by omega, rfl, rfl, by omega, by omega, rfl, acc ++ [setB y z], ?_, ?_, ?_⟩
        · simp; omega
        · rw [toNat_succ h0, List.append_assoc]; rfl
        · rw [toNat_succ h0, ← hv, hz, List.append_assoc]; rfl
    · have e : i.toNat = R.length := by omega
      rw [e, List.drop_length] at hv
      rw [e, List.drop_length]
      simp only [blkL, List.append_nil] at hv ⊢
      exact ⟨by first | exact rfl | trivial, hv⟩
  rintro a rfl
  have hbl := blkL_len R
  refine ⟨fun a => a = blkL R ∧ badC R 0 = -1, ?_, ?_⟩
  · refine ⟨fun m n i a => n = ts.length ∧ 0 ≤ i ∧ i ≤ ts.length ∧ m = (ts.length - i).toNat ∧ a = blkL R ∧ badC ((blkL R).drop i.toNat) i = badC R 0, ⟨_, rfl, by rw [hbl, hrl], by omega, by omega, rfl, rfl, badC_blk R 0⟩, ?_⟩
    rintro m n i a ⟨rfl, h0, h1, rfl, rfl, hv⟩
    refine ifP (fun hlt => ?_) (fun hge => ?_)
    · rw [drop_getD (by omega) dBd, badC_cons] at hv
      refine ⟨⟨h0, by omega⟩, ifP (fun hbad => ?_) (fun hok => ?_)⟩
      · rw [if_pos hbad] at hv
        rw [← hv, if_pos h0] at hBM
        rw [hBM]; exact ⟨rfl, rfl⟩
      · rw [if_neg hok] at hv
        rw [w64 (x := i + 1) (by omega)]
        exact ⟨_, by omega, rfl, rfl, by omega, by omega, rfl, rfl, by rw [toNat_succ h0]; exact hv⟩
    · have e : i.toNat = (blkL R).length := by omega
      rw [e, List.drop_length] at hv
      exact ⟨rfl, rfl, hv.symm⟩
  rintro a ⟨rfl, hbad⟩
  rw [if_neg (by omega)] at hBM
  refine ⟨fun m i a cs ps => 0 ≤ i ∧ i ≤ ts.length ∧ m = (ts.length - i).toNat ∧ cs = (R.take i.toNat).map (·.1) ∧ ps = (ts.take i.toNat).map per ∧ ∃ acc : List Bd, acc.length = i.toNat ∧ a = acc ++ (blkL R).drop i.toNat ∧
    bndG ((blkL R).drop i.toNat) (ts.drop i.toNat) ((R.take i.toNat).map (·.1)) ((ts.take i.toNat).map per) acc i = B, ⟨_, rfl, by omega, by omega, rfl, rfl, rfl, [], rfl, rfl, hBM.symm⟩, ?_⟩
  rintro m i a cs ps ⟨h0, h1, rfl, rfl, rfl, acc, hal, rfl, hv⟩
  have hlen : (acc ++ (blkL R).drop i.toNat).length = ts.length := by rw [List.length_append, List.length_drop]; omega
  refine ifP (fun hlt => ?_) (fun hge => ?_)
  · have hi : i.toNat < R.length := by omega
    have hb0 := hr.hb _ hi
    have hrng := accB_range (l := R.drop (i.toNat + 1)) (fun k hk => by
      rw [List.getD_eq_getElem?_getD, List.getElem?_drop, ← List.getD_eq_getElem?_getD]
      exact (hr.hl _ (by rw [List.length_drop] at hk; omega)).2) (b := 0) (by omega) (by omega)
    have hbd := drop_getD (l := blkL R) (i := i.toNat) (by omega) dBd
    rw [blkL_at hi, hb0] at hbd
    have htd := drop_getD (l := ts) (i := i.toNat) (by omega) ((0 : Int), ((0 : Int), ((0 : Int), ((0 : Int), ((0 : Int), ((0 : Int), ()))))))
    have t2 := take_map_snoc (f := (·.1)) hi dBd
    have t3 := take_map_snoc (f := per) (l := ts) (i := i.toNat) (by omega) ((0 : Int), ((0 : Int), ((0 : Int), ((0 : Int), ((0 : Int), ((0 : Int), ()))))))
    have hcp := cp_take (i := i.toNat + 1) hr hrl h5 hbad hp (by omega)
    have q1 : ((R.take i.toNat).map (·.1)).length = i.toNat := by rw [List.length_map, List.length_take]; omega
    have q2 : ((ts.take i.toNat).map per).length = i.toNat := by rw [List.length_map, List.length_take]; omega
    have hln : ∀ q : Bd, (acc ++ q :: (blkL R).drop (i.toNat + 1)).length = ts.length := fun q => by simp; omega
    generalize hy : R.getD i.toNat dBd = y at *
    have t2s : (R.take (i.toNat + 1)).map (·.1) = (R.take i.toNat).map (·.1) ++ [(setB y (accB (R.drop (i.toNat + 1)) 0)).1] := t2
    have t3s : (ts.take (i.toNat + 1)).map per = (ts.take i.toNat).map per ++ [(ts.getD i.toNat ((0 : Int), ((0 : Int), ((0 : Int), ((0 : Int), ((0 : Int), ((0 : Int), ()))))))).2.1] := t3
    rw [hbd, htd, bndG_cons, ← t2s, ← t3s] at hv
    rw [hbd]
    refine ⟨⟨h0, hlt⟩, fun i1 i2 a cs ps => i1 = i ∧ i2 = i ∧ a = acc ++ setB y (accB (R.drop (i.toNat + 1)) 0) :: (blkL R).drop (i.toNat + 1) ∧ cs = (R.take (i.toNat + 1)).map (·.1) ∧ ps = (ts.take (i.toNat + 1)).map per, ⟨⟨h0, by rw [hln]; exact hlt⟩, ?_⟩, ?_⟩
    · rw [mid_at hal]
      have one : ((((R.take i.toNat).map (·.1)).length : Int) + (([(setB y (accB (R.drop (i.toNat + 1)) 0)).1] : List Int).length : Int)) * 8 ≤ 140737488355328 ∧ ((((ts.take i.toNat).map per).length : Int) + (([(ts.getD i.toNat ((0 : Int), ((0 : Int), ((0 : Int), ((0 : Int), ((0 : Int), ((0 : Int), ()))))))).2.1] : List Int).length : Int)) * 8 ≤ 140737488355328 := by
        rw [q1, q2]; simp; omega
      have oneN : (((R.take i.toNat).map (·.1)).length + ([(setB y (accB (R.drop (i.toNat + 1)) 0)).1] : List Int).length) * 8 ≤ 140737488355328 ∧ (((ts.take i.toNat).map per).length + ([(ts.getD i.toNat ((0 : Int), ((0 : Int), ((0 : Int), ((0 : Int), ((0 : Int), ((0 : Int), ()))))))).2.1] : List Int).length) * 8 ≤ 140737488355328 := by
        rw [q1, q2]; simp; omega
      exact ⟨⟨⟨oneN.1, oneN.2, rfl, rfl, rfl, rfl, t2s.symm, t3s.symm⟩, oneN.1, oneN.2, rfl, rfl, rfl, rfl, t2s.symm, t3s.symm⟩, oneN.1, oneN.2, rfl, rfl, rfl, rfl, t2s.symm, t3s.symm⟩
    · rintro i1 i2 a cs ps ⟨rfl, rfl, rfl, rfl, rfl⟩
      refine ⟨⟨h0, by rw [hln]; exact hlt⟩, ?_⟩
      rw [mid_at hal]
      have hbu := c_impl_busy _ _ (accB (R.drop (i2.toNat + 1)) 0) hcp hrng
      refine ⟨_, _, hbu, ?_⟩
      simp only [mid_set hal]
      simp only [setB] at hv ⊢
      refine ifB_cases (fun hb => ?_) (fun hb => ?_)
      · simp only [Bool.not_eq_true'] at hb
        simp only [hb, Bool.false_eq_true, ↓reduceIte] at hv
        rw [← hv]; exact ⟨rfl, rfl⟩
      · simp only [Bool.not_eq_false'] at hb
        simp only [hb, ↓reduceIte] at hv
        rw [w64 (x := i2 + 1) (by omega)]
        refine ⟨⟨h0, by rw [hln]; exact hlt⟩, (ts.length - (i2 + 1)).toNat, by omega, by first | exact rfl | trivial, by omega, by omega, rfl, by rw [toNat_succ h0], by rw [toNat_succ h0], _, ?_, ?_, by rw [toNat_succ h0]; exact hv⟩
        · simp; omega
        · rw [toNat_succ h0, List.append_assoc]; rfl
  · have e : i.toNat = ts.length := by omega
    rw [e] at hv hal ⊢
    rw [← hrl, ← hbl, List.drop_length] at hv
    rw [← hrl, ← hbl, List.drop_length, List.append_nil]
    simp only [bndG] at hv
    rw [← hv]; exact ⟨rfl, rfl⟩
end Go.Ry
