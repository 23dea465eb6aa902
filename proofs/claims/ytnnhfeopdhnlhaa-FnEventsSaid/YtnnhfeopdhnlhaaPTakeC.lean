/- TakeEvent: the program's functions do what they come to. No condition. -/
import Derived.Test.YtnnhfeopdhnlhaaPSrcC
import Derived.Test.YtnnhfeopdhnlhaaPTake
set_option linter.unusedVariables false
namespace Go.Ry
open Go.Proofs
theorem c_markIntS_1 : K_markIntS_1 (Triple Try.prog) := fun n a b c hn h => r_laws_markIntS_1 _ _ n _ (p_laws_markIntS_1 n a b c hn h)
theorem c_markSource : K_markSource (Triple Try.prog) := fun la ar dn th lo dr n q hn h => r_laws_markSource la ar dn th lo dr n q (p_laws_markSource c_markIntS la ar dn th lo dr n q hn h)
theorem c_markSource_1 : K_markSource_1 (Triple Try.prog) := fun la ar dn th lo dr n a b c hn h => r_laws_markSource_1 la ar dn th lo dr _ _ n _ (p_laws_markSource_1 c_markIntS_1 la ar dn th lo dr n a b c hn h)
theorem c_heldSource : K_heldSource (Triple Try.prog) := fun la ar dn th lo dr n q hn h => r_laws_heldSource la ar dn th lo dr _ n (p_laws_heldSource c_heldIntS la ar dn th lo dr n q hn h)
theorem c_Clone : K_Clone (Triple Try.prog) := fun q h => r_slices_Clone_int_int q (p_Clone q h)
theorem c_copySource : K_own n_impl_copySource (Triple Try.prog) := fun la ar dn th lo dr q h => r_impl_copySource la ar dn th lo dr q (p_impl_copySource c_Clone la ar dn th lo dr q h)
theorem c_l10Own : K_own n_spec_l10Own (Triple Try.prog) := fun la ar dn th lo dr q h => r_spec_l10Own la ar dn th lo dr q (p_spec_l10Own la ar dn th lo dr q h)
theorem c_l10Take : K_l10Take (Triple Try.prog) := fun la ar dn th lo dr x q h => r_spec_l10Take la ar dn th lo dr _ (p_spec_l10Take la ar dn th lo dr x q h)
theorem c_take : K_take (Triple Try.prog) := fun la ar dn th lo dr x q h => r_impl_Source_take la ar dn th lo dr _ (p_impl_Source_take la ar dn th lo dr x q h)
theorem c_specTake : K_specTake (Triple Try.prog) := fun la ar dn th lo dr q k p d pin qu r h => r_spec_TakeEvent la ar dn th lo dr q k p d pin qu r (p_spec_TakeEvent c_specSourceOK c_l10Own c_l10Take la ar dn th lo dr q k p d pin qu r h)
theorem c_implTake : K_implTake (Triple Try.prog) := fun la ar dn th lo dr q k p d pin qu r h => r_impl_TakeEvent la ar dn th lo dr q k p d pin qu r (p_impl_TakeEvent c_implSourceOK c_copySource c_take la ar dn th lo dr q k p d pin qu r h)
theorem c_laws_FnExactTakeEvent : K_FnExactTakeEvent (Triple Try.prog) := fun la ar dn th lo dr q k p d pin qu r h => r_laws_FnExactTakeEvent la ar dn th lo dr q k p d pin qu r (p_laws_FnExactTakeEvent c_szSource c_toSource c_toTask c_eqSource c_specTake c_implTake c_markSource c_markSource_1 c_heldSource la ar dn th lo dr q k p d pin qu r h)
end Go.Ry
