/- One operation, checked. No condition. -/
import Derived.Test.YtonmkhdbgofbpaaPOps7
set_option linter.unusedVariables false
set_option linter.unusedSimpArgs false
namespace Go.Ry
open Go.Proofs

def okI (S : ByteArray) (A : List Int) (i : Nat) : Bool := if (bytesL S).getD i 0 = 98 then within (ar A i) 0 1 && isVal (ar A i) else isVal (ar A i)
/-- Is what an instruction takes on the stack? -/
def onM (S : ByteArray) (st : List Int) : Bool := decide (S.size ≤ st.length ∧ ∀ i, i < S.size → okI S (st.drop (st.length - S.size)) i = true)
theorem onM_iff {S : ByteArray} {st : List Int} : onM S st = true ↔ S.size ≤ st.length ∧ ∀ i, i < S.size → okI S (st.drop (st.length - S.size)) i = true := by simp [onM]
theorem onM_short {S : ByteArray} {st : List Int} (h : ¬ S.size ≤ st.length) : onM S st = false := by
  rw [← Bool.not_eq_true, onM_iff]; exact fun k => h k.1
theorem onM_bad {S : ByteArray} {st : List Int} {i : Nat} (hi : i < S.size) (h : okI S (st.drop (st.length - S.size)) i = false) : onM S st = false := by
  rw [← Bool.not_eq_true, onM_iff]; exact fun k => by rw [k.2 i hi] at h; simp at h
theorem c_impl_areOn (st : List Int) (S : ByteArray) (hl : st.length ≤ 1048576) (hS : S.size ≤ 8) : TT n_impl_areOn [.one (.sl tyInt st), eS S] [] (eB (onM S st)) [] := by
  refine r_impl_areOn st S ?_
  unfold v_impl_areOn
  have e1 : wI ((st.length : Int) - (S.size : Int)) = (st.length : Int) - (S.size : Int) := w64 (by omega)
  rw [e1]
  refine ifP (fun h => ⟨by rw [onM_short (by omega)], rfl⟩) fun h => ⟨by omega, ?_⟩
  have e2 : ((st.take (Int.toNat (st.length : Int))).drop (Int.toNat ((st.length : Int) - (S.size : Int)))) = st.drop (st.length - S.size) := by
    rw [show Int.toNat ((st.length : Int) - (S.size : Int)) = st.length - S.size by omega]; simp
  rw [e2]
  have hlen : (st.drop (st.length - S.size)).length = S.size := by simp; omega
  refine ⟨fun m i => 0 ≤ i ∧ i ≤ S.size ∧ m = (S.size - i).toNat ∧ ∀ j, j < i.toNat → okI S (st.drop (st.length - S.size)) j = true, ⟨_, rfl, by omega, by omega, rfl, fun j hj => by simp at hj⟩, ?_⟩
  rintro m i ⟨k0, k1, rfl, k2⟩
  refine ifP (fun hlt => ?_) (fun hge => ?_)
  · rw [hlen] at hlt
    have hi : i.toNat < S.size := by omega
    have next : okI S (st.drop (st.length - S.size)) i.toNat = true → ∀ j, j < (i + 1).toNat → okI S (st.drop (st.length - S.size)) j = true := fun ho j hj => by
      by_cases hji : j = i.toNat
      · rw [hji]; exact ho
      · exact k2 j (by omega)
    rw [w64 (by omega)]
    refine ⟨⟨k0, by rw [hlen]; exact hlt⟩, ⟨k0, hlt⟩, ifE (fun h98 => ?_) fun h98 => ?_⟩
    · refine ⟨_, c_impl_within _ _ _, ifB_cases (fun hb => ?_) fun hb => ⟨_, c_impl_isValue _, ifB_cases (fun hv => ?_) fun hv => ?_⟩⟩
      · simp only [Bool.not_eq_true'] at hb
        exact ⟨by rw [onM_bad hi (by unfold okI ar; rw [if_pos h98, hb]; rfl)], rfl⟩
      · simp only [Bool.not_eq_true'] at hv
        exact ⟨by rw [onM_bad hi (by unfold okI ar; rw [if_pos h98, hv, Bool.and_false])], rfl⟩
      · simp only [Bool.not_eq_false'] at hb hv
        exact ⟨_, by omega, rfl, by omega, by omega, rfl, next (by unfold okI ar; rw [if_pos h98, hb, hv]; rfl)⟩
    · refine ⟨_, c_impl_isValue _, ifB_cases (fun hv => ?_) fun hv => ?_⟩
      · simp only [Bool.not_eq_true'] at hv
        exact ⟨by rw [onM_bad hi (by unfold okI ar; rw [if_neg h98, hv])], rfl⟩
      · simp only [Bool.not_eq_false'] at hv
        exact ⟨_, by omega, rfl, by omega, by omega, rfl, next (by unfold okI ar; rw [if_neg h98, hv])⟩
  · rw [hlen] at hge
    exact ⟨by rw [onM_iff.2 ⟨by omega, fun j hj => k2 j (by omega)⟩], rfl⟩
/-- Does an instruction fit to a stack? -/
def fitsM (op a : Int) (ks st : List Int) : Bool :=
  onM (effect op a ks).1 st && decide ((st.length : Int) - ((effect op a ks).1.size : Int) + ((effect op a ks).2.size : Int) ≤ 8)
theorem effect_size (op a : Int) (ks : List Int) : (effect op a ks).1.size ≤ 8 ∧ (effect op a ks).2.size ≤ 8 := by
  have ht : ∀ k, (takes k).size ≤ 8 := fun k => by
    unfold takes
    by_cases h : (k - 1).toNat < 4
    · have : (k - 1).toNat = 0 ∨ (k - 1).toNat = 1 ∨ (k - 1).toNat = 2 ∨ (k - 1).toNat = 3 := by omega
      rcases this with e | e | e | e <;> rw [e] <;> decide
    · rw [List.getD_eq_getElem?_getD, List.getElem?_eq_none (by simp [takesL]; omega)]; decide
  unfold effect
  repeat' split
  all_goals first
    | exact ⟨ht (ks.getD a.toNat 0), show bB.size ≤ 8 by decide⟩
    | decide
    | fail
theorem c_spec_l06Fits (op a : Int) (ks st : List Int) (h : blockIn op a ks) (hl : st.length ≤ 1048576) : TT n_spec_l06Fits [.agg [cI op, cI a], .one (.sl tyInt ks), .one (.sl tyInt st)] [] (eB (fitsM op a ks st)) [] := by
  refine r_spec_l06Fits op a ks st ?_
  unfold v_spec_l06Fits
  obtain ⟨hs1, hs2⟩ := effect_size op a ks
  refine ⟨_, _, c_spec_l04Sign op a ks h, ?_⟩
  unfold fitsM
  generalize (effect op a ks).1 = S at *
  generalize (effect op a ks).2 = U at *
  have e1 : wI ((st.length : Int) - (S.size : Int)) = (st.length : Int) - (S.size : Int) := w64 (by omega)
  refine ifP (fun h => ⟨by rw [onM_short (by omega)]; rfl, rfl⟩) fun h => ?_
  rw [e1, w64 (by omega)]
  refine ifP (fun h => ⟨by simp [show ¬ ((st.length : Int) - (S.size : Int) + (U.size : Int) ≤ 8) by omega], rfl⟩) fun h8 => ?_
  have h8' : (st.length : Int) - (S.size : Int) + (U.size : Int) ≤ 8 := by omega
  simp only [h8', decide_true, Bool.and_true]
  refine ⟨fun m s i => s = S ∧ 0 ≤ i ∧ i ≤ S.size ∧ m = (S.size - i).toNat ∧ ∀ j, j < i.toNat → okI S (st.drop (st.length - S.size)) j = true, ⟨_, trivial, rfl, by omega, by omega, rfl, fun j hj => by simp at hj⟩, ?_⟩
  rintro m s i ⟨rfl, k0, k1, rfl, k2⟩
  rw [e1]
  refine ifP (fun hlt => ?_) (fun hge => ?_)
  · have hi : i.toNat < s.size := by omega
    have next : okI s (st.drop (st.length - s.size)) i.toNat = true → ∀ j, j < (i + 1).toNat → okI s (st.drop (st.length - s.size)) j = true := fun ho j hj => by
      by_cases hji : j = i.toNat
      · rw [hji]; exact ho
      · exact k2 j (by omega)
    have e3 : wI ((st.length : Int) - (s.size : Int) + i) = (st.length : Int) - (s.size : Int) + i := w64 (by omega)
    have e4 : st.getD (Int.toNat ((st.length : Int) - (s.size : Int) + i)) 0 = ar (st.drop (st.length - s.size)) i.toNat := by
      rw [ar_drop, show Int.toNat ((st.length : Int) - (s.size : Int) + i) = st.length - s.size + i.toNat by omega]
    rw [w64 (x := i + 1) (by omega), e3, e4]
    refine ⟨by omega, ⟨k0, hlt⟩, ifE (fun h98 => ?_) fun h98 => ?_⟩
    · refine ⟨_, c_spec_l01In _ _ _, ifB_cases (fun hb => ?_) fun hb => ⟨_, c_spec_l01Int _, ifB_cases (fun hv => ?_) fun hv => ?_⟩⟩
      · simp only [Bool.not_eq_true'] at hb
        exact ⟨by rw [onM_bad hi (by unfold okI; rw [if_pos h98, hb]; rfl)], trivial⟩
      · simp only [Bool.not_eq_true'] at hv
        exact ⟨by rw [onM_bad hi (by unfold okI; rw [if_pos h98, hv, Bool.and_false])], trivial⟩
      · simp only [Bool.not_eq_false'] at hb hv
        exact ⟨_, by omega, trivial, rfl, by omega, by omega, rfl, next (by unfold okI; rw [if_pos h98, hb, hv]; rfl)⟩
    · refine ⟨_, c_spec_l01Int _, ifB_cases (fun hv => ?_) fun hv => ?_⟩
      · simp only [Bool.not_eq_true'] at hv
        exact ⟨by rw [onM_bad hi (by unfold okI; rw [if_neg h98, hv])], trivial⟩
      · simp only [Bool.not_eq_false'] at hv
        exact ⟨_, by omega, trivial, rfl, by omega, by omega, rfl, next (by unfold okI; rw [if_neg h98, hv])⟩
  · exact ⟨by rw [onM_iff.2 ⟨by omega, fun j hj => k2 j (by omega)⟩], trivial⟩
end Go.Ry
