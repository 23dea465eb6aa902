/- The law of rising edges: the program's functions do what they come to. No condition. -/
import Derived.Test.YtnnhfeopdhnlhaaPNumC
import Derived.Test.YtnnhfeopdhnlhaaPRis2
set_option linter.unusedVariables false
namespace Go.Ry
open Go.Proofs
theorem c_sameInts : K_sameInts (Triple Try.prog) := fun l h => r_laws_sameInts l l (p_laws_sameInts l h)
end Go.Ry
