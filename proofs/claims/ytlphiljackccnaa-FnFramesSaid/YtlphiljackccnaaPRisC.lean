/- RisesOf: the program's functions do what they come to. No condition. -/
import Derived.Test.YtlphiljackccnaaPRis
import Derived.Test.YtlphiljackccnaaEAll
set_option linter.unusedVariables false
namespace Go.Ry
open Go.Proofs
theorem c_toBoolS : K_toBoolS (Triple Try.prog) := fun l h => r_laws_toBoolS l (p_laws_toBoolS l h)
theorem c_eqIntS : K_eqIntS (Triple Try.prog) := fun l h => r_laws_eqIntS l l (p_laws_eqIntS l h)
theorem c_eqBoolS : K_eqBoolS (Triple Try.prog) := fun l h => r_laws_eqBoolS l l (p_laws_eqBoolS l h)
theorem c_markBoolS : K_markBoolS (Triple Try.prog) := fun n r hn h => r_laws_markBoolS n r (p_laws_markBoolS n r hn h)
theorem c_markIntS : K_markIntS (Triple Try.prog) := fun n r hn h => r_laws_markIntS n r (p_laws_markIntS n r hn h)
theorem c_heldIntS : K_heldIntS (Triple Try.prog) := fun n r hn h => r_laws_heldIntS (markI n r) n (p_laws_heldIntS n r.length hn h _ rfl)
theorem c_specRisesOf : K_specRisesOf (Triple Try.prog) := fun a b => r_spec_RisesOf a b (p_spec_RisesOf a b)
theorem c_when : K_when (Triple Try.prog) := fun b n => r_impl_when b n (p_impl_when b n)
theorem c_many_bool : K_many_bool (Triple Try.prog) := fun l => r_impl_many_bool l (p_impl_many_bool c_when l)
theorem c_first : K_first (Triple Try.prog) := fun l h => r_impl_first l (p_impl_first l h)
theorem c_risesOf : K_risesOf (Triple Try.prog) := fun a b ha hb => r_impl_risesOf a b (p_impl_risesOf a b ha hb)
theorem c_implRisesOf : K_implRisesOf (Triple Try.prog) := fun a b => r_impl_RisesOf a b (p_impl_RisesOf c_when c_many_bool c_first c_risesOf a b)
theorem c_laws_FnExactRisesOf : K_FnExactRisesOf (Triple Try.prog) := fun a b => r_laws_FnExactRisesOf a b (p_laws_FnExactRisesOf c_toBoolS c_eqIntS c_eqBoolS c_markBoolS c_markIntS c_heldIntS c_specRisesOf c_implRisesOf a b)
end Go.Ry
