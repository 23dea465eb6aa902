/- Reading an image: what comes of it. No condition. -/
import Derived.Test.YtopchiaiefkehaaGreatPImg2
set_option linter.unusedVariables false
set_option linter.unusedSimpArgs false
namespace Go.Ry
open Go.Proofs

/-- The code of what is read, and the program. -/
def imgC (t : ByteArray) : Int :=
  if (iSf t).2.2 ≠ 0 then (iSf t).2.2 else if (iSf t).2.1 ≠ [] then 8 else (checkM (iK t).1 (iR t).1 (iT t).1 (bitL (iSf t).1 8)).2
def imgE (s : ByteArray) : Int := if 65536 < s.size then 2 else if frameE (bytesL s) ≠ 0 then frameE (bytesL s) else imgC (frameS s)
@[reducible] def ret4 (c : Int) : Ent := .tup [(true, [.row 0, .row 1, .row 2, .row 3]), (false, [cI c])]
def imgK (s : ByteArray) : List Int := if imgE s = 0 then (iK (frameS s)).1 else []
def imgR (s : ByteArray) : List Rou := if imgE s = 0 then (iR (frameS s)).1 else []
def imgT (s : ByteArray) : List Tsk := if imgE s = 0 then (iT (frameS s)).1 else []
def imgF (s : ByteArray) : List Bool := if imgE s = 0 then bitL (iSf (frameS s)).1 8 else []
@[reducible] def imgO (s : ByteArray) : List Ob := [rwK (imgK s), rwR (imgR s), rwT (imgT s), rwS (imgF s)]
theorem frameS_size {s : ByteArray} (h : s.size ≤ 65536) : (frameS s).size ≤ 65536 := by
  unfold frameS
  split
  · rw [ByteArray.size_extract]; omega
  · show (0 : Nat) ≤ 65536; decide
theorem prg_small (t : ByteArray) : prgSmall (iK t).1 (iR t).1 (iT t).1 (bitL (iSf t).1 8) := by
  have a := manyM_range (most := 8) (st := st0 t) (by decide)
  have b := manyM_range (most := 6) (st := (iK t).2) (by decide)
  have c := manyM_range (most := 5) (st := (iR t).2) (by decide)
  refine ⟨?_, ⟨?_, ?_⟩, ?_, ?_⟩
  · unfold iK phK; rw [repO_len]; omega
  · unfold iR phR; rw [repO_len]; omega
  · intro r hr
    have := repO_all (f := routM) (p := fun x => x.1.length ≤ 40) routM_len _ _ r hr
    have h2 : r.1.length ≤ 40 := this
    omega
  · unfold iT phT; rw [repO_len]; omega
  · rw [bitL_len]; decide
theorem img_bad {s : ByteArray} (h : imgE s ≠ 0) : imgO s = [rwK [], rwR [], rwT [], rwS []] := by
  unfold imgO imgK imgR imgT imgF
  rw [if_neg h, if_neg h, if_neg h, if_neg h]
theorem img_good {s : ByteArray} (h : imgE s = 0) : imgO s = [rwK (iK (frameS s)).1, rwR (iR (frameS s)).1, rwT (iT (frameS s)).1, rwS (bitL (iSf (frameS s)).1 8)] := by
  unfold imgO imgK imgR imgT imgF
  rw [if_pos h, if_pos h, if_pos h, if_pos h]
theorem bad_eq {s : ByteArray} {c : Int} (e : imgE s = c) (h : c ≠ 0) : ret4 c = ret4 (imgE s) ∧ [rwK [], rwR [], rwT [], rwS []] = imgO s := by
  rw [img_bad (by rw [e]; exact h), e]; exact ⟨rfl, rfl⟩
theorem good_eq {s : ByteArray} (e : imgE s = 0) : ret4 0 = ret4 (imgE s) ∧ [rwK (iK (frameS s)).1, rwR (iR (frameS s)).1, rwT (iT (frameS s)).1, rwS (bitL (iSf (frameS s)).1 8)] = imgO s := by
  rw [img_good e, e]; exact ⟨rfl, rfl⟩
theorem c_spec_l08Read (s : ByteArray) (h : s.size ≤ 65536) : TT n_spec_l08Read [eS s] [] (ret4 (imgE s)) (imgO s) := by
  have ht := frameS_size h
  have hp := c_spec_program ht
  have e0 : sO (frameS s) (st0 (frameS s)) = .box [.str (frameS s), cI 0, cI 0] := by
    show Ob.box [.str (frameS s), cI (((frameS s).size : Int) - ((bytesL (frameS s)).length : Int)), cI 0] = _
    rw [bytesL_size, Int.sub_self]
  rw [e0] at hp
  have hl := (iKR ht).2.2.2.len
  have ei : imgE s = if frameE (bytesL s) ≠ 0 then frameE (bytesL s) else imgC (frameS s) := by unfold imgE; rw [if_neg (by omega)]
  refine r_spec_l08Read s ⟨_, _, c_spec_l01ReadFrame s h, ifN (fun hc => ?_) (fun hc => ?_)⟩
  · rw [if_pos hc] at ei
    exact bad_eq ei hc
  rw [if_neg (not_not_intro hc)] at ei
  unfold imgC at ei
  refine ⟨_, _, _, _, _, _, _, hp, ifN (fun h1 => ?_) (fun h1 => ifN (fun h2 => ?_) (fun h2 => ⟨_, _, c_spec_l08Check _ _ _ _ (prg_small _), ifN (fun h3 => ?_) (fun h3 => ?_)⟩))⟩
  · rw [if_pos h1] at ei
    exact bad_eq ei h1
  · rw [if_neg (not_not_intro h1), if_pos (fun e => h2 (by rw [e]; simp))] at ei
    exact bad_eq ei (by decide)
  all_goals
    rw [if_neg (not_not_intro h1), if_neg (not_not_intro (List.eq_nil_of_length_eq_zero (by omega)))] at ei
  · exact bad_eq ei h3
  · rw [h3] at ei
    exact good_eq ei
theorem c_spec_ReadImage (s : ByteArray) : TT n_spec_ReadImage [eS s] [] (ret4 (imgE s)) (imgO s) := by
  refine r_spec_ReadImage s (ifP (fun hg => ?_) (fun hg => ?_))
  · have : imgE s = 2 := by unfold imgE; rw [if_pos (by omega)]
    exact bad_eq this (by decide)
  · exact ⟨_, _, _, _, _, c_spec_l08Read s (by omega), rfl, rfl⟩
theorem c_impl_ReadImage (s : ByteArray) : TT n_impl_ReadImage [eS s] [] (ret4 (imgE s)) (imgO s) := by
  by_cases hg : 65536 < s.size
  · have : imgE s = 2 := by unfold imgE; rw [if_pos (by omega)]
    exact r_impl_ReadImage s ⟨_, _, c_impl_ReadFrame_long s hg, ifN_t (by decide) (bad_eq this (by decide))⟩
  have h : s.size ≤ 65536 := by omega
  have hts := frameS_size h
  have ei : imgE s = if frameE (bytesL s) ≠ 0 then frameE (bytesL s) else imgC (frameS s) := by unfold imgE; rw [if_neg hg]
  refine r_impl_ReadImage s ⟨_, _, c_impl_ReadFrame s h, ifN (fun hc => ?_) (fun hc => ?_)⟩
  · rw [if_pos hc] at ei
    exact bad_eq ei hc
  rw [if_neg (not_not_intro hc)] at ei
  have hgood := good_eq (s := s)
  have hbad := fun {c : Int} => bad_eq (s := s) (c := c)
  revert ei hts hgood
  generalize frameS s = t
  intro h ei hgood
  obtain ⟨hk, hr, ht, hs⟩ := iKR h
  have h0 := Sf.zero h
  have k0 := c_impl_count 8 (by decide) (st0 t) h0
  have e0 : iO (st0 t) = .box [.str t, cI 0] := by
    show Ob.box [.str (strL (bytesL t)), cI 0] = _
    rw [strL_bytesL]
  rw [e0] at k0
  refine ⟨fun s c a => s = strL (iK t).2.1 ∧ c = (iK t).2.2 ∧ a = (iK t).1,
    ⟨_, _, _, k0, fun m n i s c a => ∃ st, Sf t st ∧ 0 ≤ i ∧ i ≤ n ∧ n ≤ 8 ∧ m = (n - i).toNat ∧ s = strL st.1 ∧ c = st.2 ∧ repI (numM 1) (iK t) a (n - i).toNat st ∧ (a.length : Int) = i,
      ⟨_, _, h0.many 8, by decide, (manyM_range (by decide)).1, (manyM_range (by decide)).2, rfl, rfl, rfl, by rw [Int.sub_zero]; exact repI_start _ _ _, rfl⟩, ?_⟩, ?_⟩
  · rintro m n i s c a ⟨st, hst, h1, h2, h3, rfl, rfl, rfl, h4, h5⟩
    refine ifP (fun hlt => ⟨_, _, _, c_impl_number 1 (by simp [isZ]) st hst, by simp; omega, ?_⟩) (fun hge => ?_)
    · rw [show (n - i).toNat = (n - (i + 1)).toNat + 1 by omega] at h4
      rw [w64 (by omega)]
      exact ⟨_, by omega, _, hst.num 1, by omega, by omega, h3, rfl, rfl, rfl, repI_step h4, by simp; omega⟩
    · rw [show (n - i).toNat = 0 by omega] at h4
      have := repI_end h4
      rw [this]
      exact ⟨rfl, rfl, rfl⟩
  rintro s c a ⟨rfl, rfl, rfl⟩
  refine ⟨fun s c a b => s = strL (iR t).2.1 ∧ c = (iR t).2.2 ∧ a = (iK t).1 ∧ b = (iR t).1,
    ⟨_, _, _, c_impl_count 6 (by decide) (iK t).2 hk, fun m n i s c a b => ∃ st, Sf t st ∧ 0 ≤ i ∧ i ≤ n ∧ n ≤ 6 ∧ m = (n - i).toNat ∧ s = strL st.1 ∧ c = st.2 ∧ repI routM (iR t) b (n - i).toNat st ∧ (b.length : Int) = i ∧ a = (iK t).1,
      ⟨_, _, hk.many 6, by decide, (manyM_range (by decide)).1, (manyM_range (by decide)).2, rfl, rfl, rfl, by rw [Int.sub_zero]; exact repI_start _ _ _, rfl, rfl⟩, ?_⟩, ?_⟩
  · rintro m n i s c a b ⟨st, hst, h1, h2, h3, rfl, rfl, rfl, h4, h5, rfl⟩
    refine ifP (fun hlt => ⟨_, _, _, c_impl_routine st hst, by simp; omega, ?_⟩) (fun hge => ?_)
    · rw [show (n - i).toNat = (n - (i + 1)).toNat + 1 by omega] at h4
      rw [w64 (by omega)]
      exact ⟨_, by omega, _, hst.rout, by omega, by omega, h3, rfl, rfl, rfl, repI_step h4, by simp; omega, rfl⟩
    · rw [show (n - i).toNat = 0 by omega] at h4
      have := repI_end h4
      rw [this]
      exact ⟨rfl, rfl, rfl, rfl⟩
  rintro s c a b ⟨rfl, rfl, rfl, rfl⟩
  refine ⟨fun s c a b d => s = strL (iT t).2.1 ∧ c = (iT t).2.2 ∧ a = (iK t).1 ∧ b = (iR t).1 ∧ d = (iT t).1,
    ⟨_, _, _, c_impl_count 5 (by decide) (iR t).2 hr, fun m n i s c a b d => ∃ st, Sf t st ∧ 0 ≤ i ∧ i ≤ n ∧ n ≤ 5 ∧ m = (n - i).toNat ∧ s = strL st.1 ∧ c = st.2 ∧ repI taskM (iT t) d (n - i).toNat st ∧ (d.length : Int) = i ∧ a = (iK t).1 ∧ b = (iR t).1,
      ⟨_, _, hr.many 5, by decide, (manyM_range (by decide)).1, (manyM_range (by decide)).2, rfl, rfl, rfl, by rw [Int.sub_zero]; exact repI_start _ _ _, rfl, rfl, rfl⟩, ?_⟩, ?_⟩
  · rintro m n i s c a b d ⟨st, hst, h1, h2, h3, rfl, rfl, rfl, h4, h5, rfl, rfl⟩
    refine ifP (fun hlt => ⟨_, _, _, _, _, _, _, _, c_impl_task st hst, by simp; omega, ?_⟩) (fun hge => ?_)
    · rw [show (n - i).toNat = (n - (i + 1)).toNat + 1 by omega] at h4
      rw [w64 (by omega)]
      exact ⟨_, by omega, _, hst.task, by omega, by omega, h3, rfl, rfl, rfl, repI_step h4, by simp; omega, rfl, rfl⟩
    · rw [show (n - i).toNat = 0 by omega] at h4
      have := repI_end h4
      rw [this]
      exact ⟨rfl, rfl, rfl, rfl, rfl⟩
  rintro s c a b d ⟨rfl, rfl, rfl, rfl, rfl⟩
  have hn := iS_range h
  refine ⟨_, _, _, c_impl_number 1 (by simp [isZ]) _ ht, fun s c a b d e => s = strL (iSf t).2.1 ∧ c = (iSf t).2.2 ∧ a = (iK t).1 ∧ b = (iR t).1 ∧ d = (iT t).1 ∧ e = bitL (iSf t).1 8,
    ⟨fun m n i s c a b d e => n = (iSf t).1 ∧ 0 ≤ i ∧ i ≤ 8 ∧ m = (8 - i).toNat ∧ s = strL (iSf t).2.1 ∧ c = (iSf t).2.2 ∧ a = (iK t).1 ∧ b = (iR t).1 ∧ d = (iT t).1 ∧ e = bitL (iSf t).1 i.toNat,
      ⟨_, rfl, by decide, by decide, rfl, rfl, rfl, rfl, rfl, rfl, rfl⟩, ?_⟩, ?_⟩
  · rintro m n i s c a b d e ⟨rfl, h1, h2, rfl, rfl, rfl, rfl, rfl, rfl, rfl⟩
    refine ifP (fun hlt => ⟨h1, ?_, ?_⟩) (fun hge => ?_)
    · simp [bitL_len]; omega
    · rw [w64 (x := i + 1) (by omega)]
      exact ⟨_, by omega, rfl, by omega, by omega, rfl, rfl, rfl, rfl, rfl, rfl, by rw [toNat_succ h1, bitL_succ, Int.toNat_of_nonneg h1]; rfl⟩
    · rw [show i.toNat = 8 by omega]; exact ⟨rfl, rfl, rfl, rfl, rfl, rfl⟩
  rintro s c a b d e ⟨rfl, rfl, rfl, rfl, rfl, rfl⟩
  have eb : (!(ByteArray.toList (strL (iSf t).2.1) == ByteArray.toList (⟨#[]⟩ : ByteArray))) = decide ((iSf t).2.1 ≠ []) := by
    rw [toList_beq, ← decide_not, decide_eq_decide, bytesL_iff, toBytes hs.isB]; rfl
  rw [eb]
  have ef : firstOf_ [(iSf t).2.2, if decide ((iSf t).2.1 ≠ []) = true then 8 else 0] = if (iSf t).2.2 ≠ 0 then (iSf t).2.2 else if (iSf t).2.1 ≠ [] then 8 else 0 := by
    by_cases h1 : (iSf t).2.2 = 0 <;> by_cases h2 : (iSf t).2.1 = [] <;> simp [firstOf_, h1, h2]
  have kf := c_impl_first [(iSf t).2.2, if decide ((iSf t).2.1 ≠ []) = true then 8 else 0] (by simp)
  rw [ef] at kf
  refine ⟨_, c_impl_when _ _, _, kf, fun c a b d e => c = imgC t ∧ a = (iK t).1 ∧ b = (iR t).1 ∧ d = (iT t).1 ∧ e = bitL (iSf t).1 8, ?_, ?_⟩
  · unfold imgC
    by_cases h1 : (iSf t).2.2 ≠ 0
    · rw [if_pos h1, if_pos h1]
      exact ifE_f h1 ⟨rfl, rfl, rfl, rfl, rfl⟩
    · rw [if_neg h1, if_neg h1]
      by_cases h2 : (iSf t).2.1 ≠ []
      · rw [if_pos h2, if_pos h2]
        exact ifE_f (by decide) ⟨rfl, rfl, rfl, rfl, rfl⟩
      · rw [if_neg h2, if_neg h2]
        exact ifE_t rfl ⟨_, _, c_impl_CheckProgram _ _ _ _ (prg_small t), rfl, rfl, rfl, rfl, rfl⟩
  · rintro c a b d e ⟨rfl, rfl, rfl, rfl, rfl⟩
    refine ifN (fun hne => hbad ei hne) (fun heq => ?_)
    rw [heq] at ei
    exact hgood ei
end Go.Ry
