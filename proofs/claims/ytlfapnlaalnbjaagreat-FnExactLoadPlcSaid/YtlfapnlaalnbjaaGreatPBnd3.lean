/- The bounds of tasks: the reference's walk and the program's. No condition. -/
import Derived.Test.YtlfapnlaalnbjaaGreatPBnd2
set_option linter.unusedVariables false
set_option linter.unusedSimpArgs false
namespace Go.Ry
open Go.Proofs

@[reducible] def bndE (i : Int) (b : Bool) : Ent := .tup [(false, [.row 0]), (false, [cI i]), (false, [.bool b])]
@[reducible] def bndO (l : List Bd) : List Ob := [.row t_impl_Bound tBd l]
theorem take_map_snoc {α β : Type} {f : α → β} {l : List α} {i : Nat} (hi : i < l.length) (d : α) : (l.take (i + 1)).map f = (l.take i).map f ++ [f (l.getD i d)] := by
  rw [take_succ_getD hi d, List.map_append]; rfl
@[reducible] def per (t : Tsk) : Int := t.2.1
theorem map_getD {α β : Type} {f : α → β} {l : List α} {i : Nat} (hi : i < l.length) (d : α) (e : β) : (l.map f).getD i e = f (l.getD i d) := by
  simp [List.getD_eq_getElem?_getD, List.getElem?_eq_getElem hi]
/-- The costs and periods of the tasks so far. -/
theorem cp_take {raw : List Bd} {ts : List Tsk} {i : Nat} (hr : RawOK raw) (hlen : raw.length = ts.length) (h5 : ts.length ≤ 5) (hb : badC raw 0 = -1) (hp : ∀ k : Nat, k < ts.length → 1 ≤ (tskAt ts k).2.1 ∧ (tskAt ts k).2.1 ≤ 5000) (hi : i ≤ raw.length) :
    CP ((raw.take i).map (·.1)) ((ts.take i).map per) := by
  have g1 : ∀ k : Nat, k < i → ((raw.take i).map (·.1)).getD k 0 = (raw.getD k dBd).1 := fun k hk => by
    rw [map_getD (by rw [List.length_take]; omega) dBd, List.getD_eq_getElem?_getD, List.getElem?_take_of_lt hk, List.getD_eq_getElem?_getD]
  have g2 : ∀ k : Nat, k < i → ((ts.take i).map per).getD k 0 = (tskAt ts k).2.1 := fun k hk => by
    rw [map_getD (by rw [List.length_take]; omega) ((0 : Int), ((0 : Int), ((0 : Int), ((0 : Int), ((0 : Int), ((0 : Int), ())))))), List.getD_eq_getElem?_getD, List.getElem?_take_of_lt hk, tskAt, List.getD_eq_getElem?_getD]
  refine ⟨by simp; omega, by simp; omega, fun k hk => ?_, fun k hk => ?_⟩
  · have hk' : k < i := by simp at hk; omega
    rw [g1 k hk']
    exact ⟨(hr.hc k (by omega)).1, badC_none (by omega) hb k (by omega)⟩
  · have hk' : k < i := by simp at hk; omega
    rw [g2 k hk']
    exact hp k (by omega)
theorem setB_setB (y : Bd) (a b : Int) : setB (setB y a) b = setB y b := rfl

theorem c_spec_l09Bounds (ks : List Int) (rs : List Rou) (ts : List Tsk) (sf : List Bool) (hf : PrgFit ks rs ts sf) :
    TT n_spec_l09Bounds [prgE ks rs ts sf] [] (bndE (bndM (costsM rs) ts).2.1 (bndM (costsM rs) ts).2.2) (bndO (bndM (costsM rs) ts).1) := by
  obtain ⟨c1, c2⟩ := costs_all hf.rous
  have h5 := hf.ts5
  have hr := raw_ok hf c1 c2
  have hrl := rawL_len (cs := costsM rs) (ts := ts)
  generalize hB : bndM (costsM rs) ts = B
  refine r_spec_l09Bounds ks rs ts sf ⟨_, c_spec_l05Costs rs hf.rous, fun a b c => a = rawL (costsM rs) ts ∧ b = (rawL (costsM rs) ts).map (·.1) ∧ c = ts.map per ∧ badC (rawL (costsM rs) ts) 0 = -1, ?_, ?_⟩
  · refine ⟨fun m i cs a b c => 0 ≤ i ∧ i ≤ ts.length ∧ m = (ts.length - i).toNat ∧ cs = costsM rs ∧ a = (rawL (costsM rs) ts).take i.toNat ∧ b = ((rawL (costsM rs) ts).take i.toNat).map (·.1) ∧ c = (ts.take i.toNat).map per ∧
      badC ((rawL (costsM rs) ts).drop i.toNat) i = badC (rawL (costsM rs) ts) 0, ⟨_, rfl, by omega, by omega, rfl, rfl, rfl, rfl, rfl, rfl⟩, ?_⟩
    rintro m i cs a b c ⟨h0, h1, rfl, rfl, rfl, rfl, rfl, hv⟩
    refine ifP (fun hlt => ?_) (fun hge => ?_)
    · have hi : i.toNat < ts.length := by omega
      have ht := hf.task (k := i.toNat) hi
      have hat := rawL_at (cs := costsM rs) hi
      rw [drop_getD (by omega) dBd, badC_cons, hat] at hv
      have t1 := take_succ_getD (l := rawL (costsM rs) ts) (i := i.toNat) (by omega) dBd
      have t2 := take_map_snoc (f := (·.1)) (l := rawL (costsM rs) ts) (i := i.toNat) (by omega) dBd
      have t3 := take_map_snoc (f := per) (l := ts) (i := i.toNat) hi ((0 : Int), ((0 : Int), ((0 : Int), ((0 : Int), ((0 : Int), ((0 : Int), ()))))))
      rw [hat] at t1 t2
      have hs := c1.at (i := (tskAt ts i.toNat).2.2.2.2.2.1.toNat) (by omega)
      have q1 : ((rawL (costsM rs) ts).take i.toNat).length = i.toNat := by rw [List.length_take]; omega
      have q2 : (ts.take i.toNat).length = i.toNat := by rw [List.length_take]; omega
      refine ⟨⟨h0, hlt⟩, ⟨ht.2.1, by rw [c2]; exact ht.2.2⟩, _, _, _, _, _, c_spec_l09Job _ hs, ?_⟩
      refine ifP (fun hbad => ?_) (fun hok => ?_)
      · have e : bndM (costsM rs) ts = ([], i, false) := by
          rw [if_pos (show (rawB (costsM rs) (tskAt ts i.toNat)).1 > 5000 from hbad)] at hv
          unfold bndM
          rw [← hv, if_pos h0]
        rw [← hB, e]; exact ⟨rfl, rfl⟩
      · rw [if_neg (show ¬ (rawB (costsM rs) (tskAt ts i.toNat)).1 > 5000 from hok)] at hv
        rw [w64 (x := i + 1) (by omega)]
        refine ⟨by simp [q1]; omega, ⟨h0, hlt⟩, by simp [q2]; omega, _, c_spec_l05Longest _, by simp [q1]; omega, _, ?_, rfl, by omega, by omega, rfl, rfl, ?_, ?_, ?_, ?_⟩
        · omega
        · rw [toNat_succ h0, t1]; rfl
        · rw [toNat_succ h0, t2]; rfl
        · rw [toNat_succ h0, t3]
        · rw [toNat_succ h0]; exact hv
    · have e : i.toNat = ts.length := by omega
      rw [e, ← hrl, List.drop_length] at hv
      rw [e]
      exact ⟨by rw [← hrl, List.take_length], by rw [← hrl, List.take_length], by rw [List.take_length], hv.symm⟩
  · rintro a b c ⟨rfl, rfl, rfl, hbad⟩
    have hBG : bndG (blkL (rawL (costsM rs) ts)) ts [] [] [] 0 = B := by
      rw [← hB]; unfold bndM; rw [if_neg (by omega)]
    have hp : ∀ k : Nat, k < ts.length → 1 ≤ (tskAt ts k).2.1 ∧ (tskAt ts k).2.1 ≤ 5000 := fun k hk => (hf.task hk).1.1
    generalize rawL (costsM rs) ts = R at *
    refine ⟨fun m i a b c => 0 ≤ i ∧ i ≤ ts.length ∧ m = (ts.length - i).toNat ∧ b = R.map (·.1) ∧ c = ts.map per ∧ ∃ acc : List Bd, acc.length = i.toNat ∧ a = acc ++ R.drop i.toNat ∧
      bndG ((blkL R).drop i.toNat) (ts.drop i.toNat) ((R.take i.toNat).map (·.1)) ((ts.take i.toNat).map per) acc i = B, ⟨_, by omega, by omega, rfl, rfl, rfl, [], rfl, rfl, hBG⟩, ?_⟩
    rintro m i a b c ⟨h0, h1, rfl, rfl, rfl, acc, hal, rfl, hv⟩
    have hlen : (acc ++ R.drop i.toNat).length = ts.length := by rw [List.length_append, List.length_drop]; omega
    refine ifP (fun hlt => ?_) (fun hge => ?_)
    · rw [hlen] at hlt
      have hi : i.toNat < R.length := by omega
      have hd := drop_getD (l := R) hi dBd
      have hb0 := hr.hb _ hi
      have hrng := accB_range (l := R.drop (i.toNat + 1)) (fun k hk => by
        rw [List.getD_eq_getElem?_getD, List.getElem?_drop, ← List.getD_eq_getElem?_getD]
        exact (hr.hl _ (by rw [List.length_drop] at hk; omega)).2) (b := 0) (by omega) (by omega)
      have hbl := drop_getD (l := blkL R) (i := i.toNat) (by rw [blkL_len]; exact hi) dBd
      rw [blkL_at hi, hb0] at hbl
      have htd := drop_getD (l := ts) (i := i.toNat) (by omega) ((0 : Int), ((0 : Int), ((0 : Int), ((0 : Int), ((0 : Int), ((0 : Int), ()))))))
      have t2 := take_map_snoc (f := (·.1)) hi dBd
      have t3 := take_map_snoc (f := per) (l := ts) (i := i.toNat) (by omega) ((0 : Int), ((0 : Int), ((0 : Int), ((0 : Int), ((0 : Int), ((0 : Int), ()))))))
      have hcp := cp_take (i := i.toNat + 1) hr hrl h5 hbad hp (by omega)
      generalize hy : R.getD i.toNat dBd = y at *
      rw [hd]
      refine ⟨fun i' a b c => i' = i ∧ b = R.map (·.1) ∧ c = ts.map per ∧ a = acc ++ setB y (accB (R.drop (i.toNat + 1)) 0) :: R.drop (i.toNat + 1), ?_, ?_⟩
      · refine ⟨fun m i' k a b c => i' = i ∧ i + 1 ≤ k ∧ k ≤ ts.length ∧ m = (ts.length - k).toNat ∧ b = R.map (·.1) ∧ c = ts.map per ∧ ∃ z : Int, a = acc ++ setB y z :: R.drop (i.toNat + 1) ∧ accB (R.drop k.toNat) z = accB (R.drop (i.toNat + 1)) 0,
          ⟨_, rfl, by rw [w64 (by omega)]; omega, by rw [w64 (by omega)]; omega, rfl, rfl, rfl, y.2.2.1, rfl, by rw [w64 (by omega), toNat_succ h0, hb0]⟩, ?_⟩
        rintro m i' k a b c ⟨rfl, k0, k1, rfl, rfl, rfl, z, rfl, hz⟩
        have hln : (acc ++ setB y z :: R.drop (i'.toNat + 1)).length = ts.length := by simp; omega
        refine ifP (fun hk => ?_) (fun hk => ?_)
        · rw [hln] at hk
          have hkd := drop_getD (l := R) (i := k.toNat) (by omega) dBd
          rw [hkd, accB_cons] at hz
          have ha : (acc ++ setB y z :: R.drop (i'.toNat + 1)).getD k.toNat dBd = R.getD k.toNat dBd := by
            rw [show k.toNat = i'.toNat + 1 + (k.toNat - (i'.toNat + 1)) by omega, mid_after hal, List.getD_eq_getElem?_getD, List.getElem?_drop, List.getD_eq_getElem?_getD]
          refine ⟨⟨h0, by rw [hln]; omega⟩, ⟨by omega, by rw [hln]; omega⟩, ⟨h0, by rw [hln]; omega⟩, ?_⟩
          rw [mid_at hal, ha, mid_set hal, w64 (x := k + 1) (by omega)]
          exact ⟨(ts.length - (k + 1)).toNat, by omega, rfl, by omega, by omega, rfl, rfl, rfl, _, rfl, by rw [toNat_succ (by omega)]; exact hz⟩
        · have : k.toNat = R.length := by omega
          rw [this, List.drop_length] at hz
          simp only [accB] at hz
          rw [← hz]
          exact ⟨rfl, rfl, rfl, rfl⟩
      · rintro i' a b c ⟨rfl, rfl, rfl, rfl⟩
        have hln : ∀ q : Bd, (acc ++ q :: R.drop (i'.toNat + 1)).length = ts.length := fun q => by simp; omega
        rw [w64 (x := i' + 1) (by omega)]
        refine ⟨⟨by omega, by omega, by simp; omega⟩, ⟨by omega, by omega, by simp; omega⟩, ⟨h0, by rw [hln]; exact hlt⟩, ?_⟩
        rw [mid_at hal, toNat_succ h0]
        have e1 : (((R.map (·.1)).take (i'.toNat + 1)).drop (Int.toNat 0)) = (R.take (i'.toNat + 1)).map (·.1) := by rw [← List.map_take]; rfl
        have e2 : (((ts.map per).take (i'.toNat + 1)).drop (Int.toNat 0)) = (ts.take (i'.toNat + 1)).map per := by rw [← List.map_take]; rfl
        rw [e1, e2]
        have hbu := c_spec_l09Busy _ _ (accB (R.drop (i'.toNat + 1)) 0) hcp hrng
        have t2s : (R.take (i'.toNat + 1)).map (·.1) = (R.take i'.toNat).map (·.1) ++ [(setB y (accB (R.drop (i'.toNat + 1)) 0)).1] := t2
        have t3s : (ts.take (i'.toNat + 1)).map per = (ts.take i'.toNat).map per ++ [(ts.getD i'.toNat ((0 : Int), ((0 : Int), ((0 : Int), ((0 : Int), ((0 : Int), ((0 : Int), ()))))))).2.1] := t3
        rw [hbl, htd, bndG_cons, ← t2s, ← t3s] at hv
        refine ⟨_, _, hbu, ?_⟩
        simp only [mid_set hal]
        simp only [setB] at hv ⊢
        refine ifB_cases (fun hb => ?_) (fun hb => ?_)
        · simp only [Bool.not_eq_true'] at hb
          simp only [hb, Bool.false_eq_true, ↓reduceIte] at hv
          rw [← hv]; exact ⟨rfl, rfl⟩
        · simp only [Bool.not_eq_false'] at hb
          simp only [hb, ↓reduceIte] at hv
          refine ⟨⟨h0, by rw [hln]; exact hlt⟩, (ts.length - (i' + 1)).toNat, by omega, by omega, by omega, by first | exact rfl | trivial, by first | exact rfl | trivial, by first | exact rfl | trivial, _, ?_, ?_, by rw [toNat_succ h0]; exact hv⟩
          · simp; omega
          · rw [toNat_succ h0, List.append_assoc]; rfl
    · rw [hlen] at hge
      have e : i.toNat = ts.length := by omega
      rw [e] at hv hal ⊢
      rw [← hrl, ← blkL_len, List.drop_length] at hv
      rw [← hrl, List.drop_length, List.append_nil]
      simp only [bndG] at hv
      rw [← hv]; exact ⟨rfl, rfl⟩
end Go.Ry
