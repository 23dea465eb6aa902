/- RisesOf: the program's functions do what they come to. No condition. -/
import Derived.Test.YtnnhfeopdhnlhaaPRis
import Derived.Test.YtnnhfeopdhnlhaaEAll
set_option linter.unusedVariables false
namespace Go.Ry
open Go.Proofs
theorem c_eqIntS : K_eqIntS (Triple Try.prog) := fun l h => r_laws_eqIntS l l (p_laws_eqIntS l h)
theorem c_markIntS : K_markIntS (Triple Try.prog) := fun n r hn h => r_laws_markIntS n r (p_laws_markIntS n r hn h)
theorem c_heldIntS : K_heldIntS (Triple Try.prog) := fun n r hn h => r_laws_heldIntS (markI n r) n (p_laws_heldIntS n r.length hn h _ rfl)
theorem c_when : K_when (Triple Try.prog) := fun b n => r_impl_when b n (p_impl_when b n)
theorem c_first : K_first (Triple Try.prog) := fun l h => r_impl_first l (p_impl_first l h)
end Go.Ry
