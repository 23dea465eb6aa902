/- DropEvents: the program's functions do what they come to. No condition. -/
import Derived.Test.YtnnhfeopdhnlhaaPTakeC
import Derived.Test.YtnnhfeopdhnlhaaPDrop
set_option linter.unusedVariables false
namespace Go.Ry
open Go.Proofs
theorem c_l06Bit : K_bit n_spec_l06Bit (Triple Try.prog) := fun b => r_spec_l06Bit b (p_spec_l06Bit b)
theorem c_bit : K_bit n_impl_bit (Triple Try.prog) := fun b => r_impl_bit b (p_impl_bit b)
theorem c_l10Drop : K_l10Drop (Triple Try.prog) := fun la ar dn th lo dr q b => r_spec_l10Drop la ar dn th lo dr q b (p_spec_l10Drop c_l06Bit la ar dn th lo dr q b)
theorem c_count : K_count (Triple Try.prog) := fun n la ar dn th lo dr q => r_impl_count n la ar dn th lo dr q (p_impl_count n la ar dn th lo dr q)
theorem c_drop : K_drop (Triple Try.prog) := fun b la ar dn th lo dr q => r_impl_Source_drop b la ar dn th lo dr q (p_impl_Source_drop c_bit c_count b la ar dn th lo dr q)
theorem c_specDrop : K_specDrop (Triple Try.prog) := fun la ar dn th lo dr q k p d pin qu r w h => r_spec_DropEvents la ar dn th lo dr q k p d pin qu r w (p_spec_DropEvents c_specSourceOK c_l10Own c_l10Drop la ar dn th lo dr q k p d pin qu r w h)
theorem c_implDrop : K_implDrop (Triple Try.prog) := fun la ar dn th lo dr q k p d pin qu r w h => r_impl_DropEvents la ar dn th lo dr q k p d pin qu r w (p_impl_DropEvents c_implSourceOK c_copySource c_drop la ar dn th lo dr q k p d pin qu r w h)
theorem c_eqIntS_1 : K_eqIntS_1 (Triple Try.prog) := r_laws_eqIntS_1 [] p_laws_eqIntS_1
theorem c_eqSource_1 : K_eqSource_1 (Triple Try.prog) := fun la ar dn th lo dr => r_laws_eqSource_1 la ar dn th lo dr la ar dn th lo dr [] (p_laws_eqSource_1 c_eqIntS_1 la ar dn th lo dr)
theorem c_nilMark : K_nilIntS n_laws_markIntS (Triple Try.prog) := fun n => r_laws_markIntS_2 n (p_laws_markIntS_2 n)
theorem c_nilHeld : K_nilIntS n_laws_heldIntS (Triple Try.prog) := fun n => r_laws_heldIntS_1 n (p_laws_heldIntS_1 n)
theorem c_nilMarkS : K_nilSource n_laws_markSource (Triple Try.prog) := fun la ar dn th lo dr n hn => r_laws_markSource_2 la ar dn th lo dr n (p_laws_markSource_2 c_nilMark la ar dn th lo dr n hn)
theorem c_nilHeldS : K_nilSource n_laws_heldSource (Triple Try.prog) := fun la ar dn th lo dr n hn => r_laws_heldSource_1 la ar dn th lo dr n (p_laws_heldSource_1 c_nilHeld la ar dn th lo dr n hn)
theorem c_laws_FnExactDropEvents : K_FnExactDropEvents (Triple Try.prog) := fun la ar dn th lo dr q k p d pin qu r w h => r_laws_FnExactDropEvents la ar dn th lo dr q k p d pin qu r w (p_laws_FnExactDropEvents c_szSource c_toSource c_toTask c_eqSource c_eqSource_1 c_specDrop c_implDrop c_markSource c_nilMarkS c_nilHeldS la ar dn th lo dr q k p d pin qu r w h)
end Go.Ry
