/- New data. No condition. -/
import Derived.Test.YtopchiaiefkehaaGreatPDat1
set_option linter.unusedVariables false
set_option linter.unusedSimpArgs false
namespace Go.Ry
open Go.Proofs

def newF (ks : List Int) : List FbT := ks.map fun k => (k, false, 0, 0, ())
@[reducible] def rep8 : List Bool := List.replicate 8 false
theorem c_impl_newData (ks : List Int) (hk : ks.length ≤ 1024) : TT n_impl_newData [.one (.sl tyInt ks)] [] (.agg [.row 0, .row 1, .row 2, .row 3, .row 4, .row 5, cI 0])
    [.row t_int tyInt (List.replicate 16 0), .row t_impl_Fb tFb (newF ks), .row t_bool .bool rep8, .row t_bool .bool rep8, .row t_bool .bool rep8, .row t_bool .bool rep8] := by
  have w1 : wI (0 + 1) = 1 := by decide
  have w2 : wI (1 + 1) = 2 := by decide
  have w3 : wI (2 + 1) = 3 := by decide
  have w4 : wI (3 + 1) = 4 := by decide
  refine r_impl_newData ks ⟨rfl, ⟨by omega, by omega⟩, fun g a b c d => g = List.replicate 16 0 ∧ a = rep8 ∧ b = rep8 ∧ c = rep8 ∧ d = rep8,
    ⟨fun m i g a b c d => g = List.replicate 16 0 ∧ m = (4 - i).toNat ∧ ((i = 0 ∧ a = [] ∧ b = [] ∧ c = [] ∧ d = []) ∨ (i = 1 ∧ a = rep8 ∧ b = [] ∧ c = [] ∧ d = []) ∨ (i = 2 ∧ a = rep8 ∧ b = rep8 ∧ c = [] ∧ d = []) ∨ (i = 3 ∧ a = rep8 ∧ b = rep8 ∧ c = rep8 ∧ d = []) ∨ (i = 4 ∧ a = rep8 ∧ b = rep8 ∧ c = rep8 ∧ d = rep8)), ⟨_, rfl, rfl, rfl, rfl, .inl ⟨rfl, rfl, rfl, rfl, rfl⟩⟩, ?_⟩, ?_⟩
  · rintro m i g a b c d ⟨rfl, rfl, h⟩
    rcases h with ⟨rfl, rfl, rfl, rfl, rfl⟩ | ⟨rfl, rfl, rfl, rfl, rfl⟩ | ⟨rfl, rfl, rfl, rfl, rfl⟩ | ⟨rfl, rfl, rfl, rfl, rfl⟩ | ⟨rfl, rfl, rfl, rfl, rfl⟩
    · rw [w1]; exact ifP_t (by omega) ⟨by omega, ifE_t rfl ⟨rfl, ⟨by omega, by omega⟩, _, by decide, rfl, rfl, rfl, rfl, .inr (.inl ⟨rfl, rfl, rfl, rfl, rfl⟩)⟩⟩
    · rw [w2]; exact ifP_t (by omega) ⟨by omega, ifE_f (by omega) (ifE_t rfl ⟨rfl, ⟨by omega, by omega⟩, _, by decide, rfl, rfl, rfl, rfl, .inr (.inr (.inl ⟨rfl, rfl, rfl, rfl, rfl⟩))⟩)⟩
    · rw [w3]; exact ifP_t (by omega) ⟨by omega, ifE_f (by omega) (ifE_f (by omega) (ifE_t rfl ⟨rfl, ⟨by omega, by omega⟩, _, by decide, rfl, rfl, rfl, rfl, .inr (.inr (.inr (.inl ⟨rfl, rfl, rfl, rfl, rfl⟩)))⟩))⟩
    · rw [w4]; exact ifP_t (by omega) ⟨by omega, ifE_f (by omega) (ifE_f (by omega) (ifE_f (by omega) ⟨rfl, ⟨by omega, by omega⟩, _, by decide, rfl, rfl, rfl, rfl, .inr (.inr (.inr (.inr ⟨rfl, rfl, rfl, rfl, rfl⟩)))⟩))⟩
    · exact ifP_f (by omega) ⟨rfl, rfl, rfl, rfl, rfl, rfl, rfl⟩
  · rintro g a b c d ⟨rfl, rfl, rfl, rfl, rfl⟩
    refine ⟨fun m i g f a b c d => 0 ≤ i ∧ i ≤ ks.length ∧ m = (ks.length - i).toNat ∧ f = newF (ks.take i.toNat) ∧ g = List.replicate 16 0 ∧ a = rep8 ∧ b = rep8 ∧ c = rep8 ∧ d = rep8, ⟨_, rfl, rfl, by omega, by omega, rfl, rfl, rfl, rfl, rfl, rfl, rfl⟩, ?_⟩
    rintro m i g f a b c d ⟨h0, h1, rfl, rfl, rfl, rfl, rfl, rfl, rfl⟩
    refine ifP (fun hlt => ?_) (fun hge => ?_)
    · rw [w64 (by omega)]
      refine ⟨⟨h0, hlt⟩, by simp [newF]; omega, _, ?_, rfl, rfl, by omega, by omega, rfl, ?_, rfl, rfl, rfl, rfl, rfl⟩
      · omega
      · rw [toNat_succ h0, take_succ_getD (by omega) 0]; simp [newF]
    · rw [List.take_of_length_le (by omega)]
      exact ⟨rfl, rfl⟩
end Go.Ry
