/- Loops whose results are told only by what they meet. No condition. -/
import Derived.Test.YtopchiaiefkehaaGreatPKit
set_option linter.unusedVariables false
set_option linter.unusedSimpArgs false
namespace Go.Ry
/-- A loop that runs from a state to its last one. -/
inductive Runs {σ : Type} (Inv : Nat → σ → Prop) (Step : σ → σ → Prop) (Done : σ → Prop) : Nat → σ → σ → Prop
  | done {m st} : Inv m st → Done st → Runs Inv Step Done m st st
  | step {m st m' st' fin} : Inv m st → m' < m → Step st st' → Runs Inv Step Done m' st' fin → Runs Inv Step Done m st fin
variable {σ : Type} {Inv : Nat → σ → Prop} {Step : σ → σ → Prop} {Done : σ → Prop}
theorem Runs.go (h : ∀ m st, Inv m st → Done st ∨ ∃ m' st', m' < m ∧ Inv m' st' ∧ Step st st') (m : Nat) : ∀ st, Inv m st → ∃ fin, Runs Inv Step Done m st fin := by
  induction m using Nat.strongRecOn with
  | ind m ih =>
    intro st hst
    rcases h m st hst with hd | ⟨m', st', h1, h2, h3⟩
    · exact ⟨st, .done hst hd⟩
    · obtain ⟨fin, hf⟩ := ih m' h1 st' h2
      exact ⟨fin, .step hst h1 h3 hf⟩
theorem Runs.fin {m : Nat} {st fin : σ} (h : Runs Inv Step Done m st fin) : Done fin ∧ ∃ m', Inv m' fin := by
  induction h with
  | done h1 h2 => exact ⟨h2, _, h1⟩
  | step _ _ _ _ ih => exact ih
theorem Runs.inv {m : Nat} {st fin : σ} (h : Runs Inv Step Done m st fin) : Inv m st := by
  cases h <;> assumption
end Go.Ry
