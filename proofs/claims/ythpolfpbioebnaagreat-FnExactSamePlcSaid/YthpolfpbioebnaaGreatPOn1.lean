/- Values on a stack: are they what the letters say? No condition. -/
import Derived.Test.YthpolfpbioebnaaGreatPDat1
set_option linter.unusedVariables false
set_option linter.unusedSimpArgs false
namespace Go.Ry
open Go.Proofs
def ar (A : List Int) (i : Nat) : Int := A.getD i 0
def okI (S : ByteArray) (A : List Int) (i : Nat) : Bool := if (bytesL S).getD i 0 = 98 then within (ar A i) 0 1 && isVal (ar A i) else isVal (ar A i)
/-- Is what an instruction takes on the stack? -/
def onM (S : ByteArray) (st : List Int) : Bool := decide (S.size ≤ st.length ∧ ∀ i, i < S.size → okI S (st.drop (st.length - S.size)) i = true)
theorem onM_iff {S : ByteArray} {st : List Int} : onM S st = true ↔ S.size ≤ st.length ∧ ∀ i, i < S.size → okI S (st.drop (st.length - S.size)) i = true := by simp [onM]
theorem onM_short {S : ByteArray} {st : List Int} (h : ¬ S.size ≤ st.length) : onM S st = false := by
  rw [← Bool.not_eq_true, onM_iff]; exact fun k => h k.1
theorem onM_bad {S : ByteArray} {st : List Int} {i : Nat} (hi : i < S.size) (h : okI S (st.drop (st.length - S.size)) i = false) : onM S st = false := by
  rw [← Bool.not_eq_true, onM_iff]; exact fun k => by rw [k.2 i hi] at h; simp at h
theorem c_impl_areOn (st : List Int) (S : ByteArray) (hl : st.length ≤ 1048576) (hS : S.size ≤ 1048576) : TT n_impl_areOn [.one (.sl tyInt st), eS S] [] (eB (onM S st)) [] := by
  refine r_impl_areOn st S ?_
  unfold v_impl_areOn
  have e1 : wI ((st.length : Int) - (S.size : Int)) = (st.length : Int) - (S.size : Int) := w64 (by omega)
  rw [e1]
  refine ifP (fun h => ⟨by rw [onM_short (by omega)], rfl⟩) fun h => ⟨by omega, ?_⟩
  have e2 : ((st.take (Int.toNat (st.length : Int))).drop (Int.toNat ((st.length : Int) - (S.size : Int)))) = st.drop (st.length - S.size) := by
    rw [show Int.toNat ((st.length : Int) - (S.size : Int)) = st.length - S.size by omega]; simp
  rw [e2]
  have hlen : (st.drop (st.length - S.size)).length = S.size := by simp; omega
  refine ⟨fun m i => 0 ≤ i ∧ i ≤ S.size ∧ m = (S.size - i).toNat ∧ ∀ j, j < i.toNat → okI S (st.drop (st.length - S.size)) j = true, ⟨_, rfl, by omega, by omega, rfl, fun j hj => by simp at hj⟩, ?_⟩
  rintro m i ⟨k0, k1, rfl, k2⟩
  refine ifP (fun hlt => ?_) (fun hge => ?_)
  · rw [hlen] at hlt
    have hi : i.toNat < S.size := by omega
    have next : okI S (st.drop (st.length - S.size)) i.toNat = true → ∀ j, j < (i + 1).toNat → okI S (st.drop (st.length - S.size)) j = true := fun ho j hj => by
      by_cases hji : j = i.toNat
      · rw [hji]; exact ho
      · exact k2 j (by omega)
    rw [w64 (by omega)]
    refine ⟨⟨k0, by rw [hlen]; exact hlt⟩, ⟨k0, hlt⟩, ifE (fun h98 => ?_) fun h98 => ?_⟩
    · refine ⟨_, c_impl_within _ _ _, ifB_cases (fun hb => ?_) fun hb => ⟨_, c_impl_isValue _, ifB_cases (fun hv => ?_) fun hv => ?_⟩⟩
      · simp only [Bool.not_eq_true'] at hb
        exact ⟨by rw [onM_bad hi (by unfold okI ar; rw [if_pos h98, hb]; rfl)], rfl⟩
      · simp only [Bool.not_eq_true'] at hv
        exact ⟨by rw [onM_bad hi (by unfold okI ar; rw [if_pos h98, hv, Bool.and_false])], rfl⟩
      · simp only [Bool.not_eq_false'] at hb hv
        exact ⟨_, by omega, rfl, by omega, by omega, rfl, next (by unfold okI ar; rw [if_pos h98, hb, hv]; rfl)⟩
    · refine ⟨_, c_impl_isValue _, ifB_cases (fun hv => ?_) fun hv => ?_⟩
      · simp only [Bool.not_eq_true'] at hv
        exact ⟨by rw [onM_bad hi (by unfold okI ar; rw [if_neg h98, hv])], rfl⟩
      · simp only [Bool.not_eq_false'] at hv
        exact ⟨_, by omega, rfl, by omega, by omega, rfl, next (by unfold okI ar; rw [if_neg h98, hv])⟩
  · rw [hlen] at hge
    exact ⟨by rw [onM_iff.2 ⟨by omega, fun j hj => k2 j (by omega)⟩], rfl⟩
end Go.Ry
