/- The law of rising edges. No condition. -/
import Derived.Test.YtnnhfeopdhnlhaaPGen
set_option linter.unusedVariables false
set_option linter.unusedSimpArgs false
namespace Go.Ry
variable {C : Calls_}

def K_sameInts (C : Calls_) : Prop := ∀ l : List Int, l.length ≤ 1048576 → C n_laws_sameInts [.one (.sl (.int .i64) l), .one (.sl (.int .i64) l)] [] (.one (.bool true)) []
theorem p_laws_sameInts (l : List Int) (h : l.length ≤ 1048576) : v_laws_sameInts C (fun r os => r = .one (.bool true) ∧ os = []) l l := by
  refine ifN_f rfl ⟨fun m a b i => l = a ∧ l = b ∧ 0 ≤ i ∧ i ≤ l.length ∧ m = (l.length - i).toNat, ⟨_, rfl, rfl, by omega, by omega, rfl⟩, ?_⟩
  rintro m _ _ i ⟨rfl, rfl, h0, h1, rfl⟩
  refine ifP (fun hlt => ⟨⟨h0, hlt⟩, ⟨h0, hlt⟩, ifN_f rfl ⟨_, ?_, rfl, rfl, ?_, ?_, rfl⟩⟩) (fun hge => ⟨rfl, rfl⟩)
  all_goals rw [w64 (by omega)]
  all_goals omega
end Go.Ry
