/- The evaluator is right: getting ready for a cut. No condition. -/
import Derived.Test.YtlphiljackccnaaRy25
set_option linter.unusedVariables false
set_option linter.unusedSimpArgs false
namespace Go.Ry

section
variable {S : Start} {st : St} {a : Act} {w w' : World} {Z Z' : Nat → Prop} {L L' : List Loc}

theorem CsSim.setNth {w : World} {Z : Nat → Prop} {L : List Loc} : ∀ {cs : List Cell} {vs : List Value} {j : Nat} {c : Cell}, CsSim w Z L cs vs → (∀ v, vs[j]? = some v → CSim w Z L c v) → CsSim w Z L (Ry.setNth cs j c) vs
  | [], [], _, _, _, _ => trivial
  | [], _ :: _, _, _, h, _ => h.elim
  | _ :: _, [], _, _, h, _ => h.elim
  | _ :: _, v :: _, 0, _, ⟨h1, h2⟩, hc => ⟨hc v rfl, h2⟩
  | _ :: _, _ :: _, j + 1, c, ⟨h1, h2⟩, hc => ⟨h1, CsSim.setNth (j := j) h2 fun v hv => hc v (by simpa using hv)⟩

theorem CsSim.get {w : World} {Z : Nat → Prop} {L : List Loc} : ∀ {cs : List Cell} {vs : List Value} {j : Nat} {c : Cell}, CsSim w Z L cs vs → cs[j]? = some c → ∃ v, vs[j]? = some v ∧ CSim w Z L c v
  | [], _, _, _, _, h => by simp at h
  | _ :: _, [], _, _, h, _ => h.elim
  | d :: _, v :: _, 0, c, ⟨h1, _⟩, h => ⟨v, rfl, by simp at h; subst h; exact h1⟩
  | _ :: _, _ :: _, j + 1, c, ⟨_, h2⟩, h => by simpa using CsSim.get (j := j) h2 (by simpa using h)
end
end Go.Ry
