/- SourceOK, BalanceOf: the program's functions do what they come to. No condition. -/
import Derived.Test.YtnnhfeopdhnlhaaPRisC
import Derived.Test.YtnnhfeopdhnlhaaPSrc2
set_option linter.unusedVariables false
namespace Go.Ry
open Go.Proofs
theorem c_l01In : K_in n_spec_l01In (Triple Try.prog) := fun a b c => r_spec_l01In a b c (p_spec_l01In a b c)
theorem c_within : K_in n_impl_within (Triple Try.prog) := fun a b c => r_impl_within a b c (p_impl_within a b c)
theorem c_specTaskOK : K_TaskOK n_spec_TaskOK (Triple Try.prog) := fun k p d pin q r => r_spec_TaskOK k p d pin q r (p_spec_TaskOK c_l01In k p d pin q r)
theorem c_implTaskOK : K_TaskOK n_impl_TaskOK (Triple Try.prog) := fun k p d pin q r => r_impl_TaskOK k p d pin q r (p_impl_TaskOK c_within k p d pin q r)
theorem c_isTime : K_isTime (Triple Try.prog) := fun n => r_impl_isTime n (p_impl_isTime c_within n)
theorem c_all1 : K_all1 (Triple Try.prog) := fun n => r_impl_all_int_1 n (p_impl_all1 c_isTime n)
theorem c_IndexFunc : K_IndexFunc (Triple Try.prog) := fun l h => ⟨_, firstBad_pos l l.length 0 (by omega) (fun j hj => by omega), r_slices_IndexFunc_int_int l (p_IndexFunc c_all1 l h)⟩
theorem c_ContainsFunc : K_ContainsFunc (Triple Try.prog) := fun l h => r_slices_ContainsFunc_int_int l (p_ContainsFunc c_IndexFunc l h)
theorem c_all : K_all (Triple Try.prog) := fun l h => r_impl_all_int l (p_all c_ContainsFunc l h)
theorem c_specSourceOK : K_SourceOK n_spec_SourceOK (Triple Try.prog) := fun la ar dn th lo dr q k p d pin qu r => r_spec_SourceOK la ar dn th lo dr q k p d pin qu r (p_spec_SourceOK c_l01In c_specTaskOK la ar dn th lo dr q k p d pin qu r)
theorem c_implSourceOK : K_SourceOK n_impl_SourceOK (Triple Try.prog) := fun la ar dn th lo dr q k p d pin qu r => r_impl_SourceOK la ar dn th lo dr q k p d pin qu r (p_impl_SourceOK c_within c_implTaskOK c_all la ar dn th lo dr q k p d pin qu r)
theorem c_szIntS : K_szIntS (Triple Try.prog) := fun l n hl hn => r_laws_szIntS l n (p_laws_szIntS l n hl hn)
theorem c_szSource : K_szSource (Triple Try.prog) := fun la ar dn th lo dr q n hl hn => r_laws_szSource la ar dn th lo dr q n (p_laws_szSource c_szIntS la ar dn th lo dr q n hl hn)
theorem c_toIntS : K_toIntS (Triple Try.prog) := fun l h => r_laws_toIntS l (p_laws_toIntS l h)
theorem c_toSource : K_toSource (Triple Try.prog) := fun la ar dn th lo dr q h => r_laws_toSource la ar dn th lo dr q (p_laws_toSource c_toIntS la ar dn th lo dr q h)
theorem c_toTask : K_toTask (Triple Try.prog) := fun k p d pin qu r => r_laws_toTask k p d pin qu r (p_laws_toTask k p d pin qu r)
theorem c_eqSource : K_eqSource (Triple Try.prog) := fun la ar dn th lo dr q h => r_laws_eqSource la ar dn th lo dr q la ar dn th lo dr q (p_laws_eqSource c_eqIntS la ar dn th lo dr q h)
theorem c_implBalanceOf : K_BalanceOf n_impl_BalanceOf (Triple Try.prog) := fun la ar dn th lo dr q k p d pin qu r => r_impl_BalanceOf la ar dn th lo dr q k p d pin qu r (p_impl_BalanceOf c_implSourceOK la ar dn th lo dr q k p d pin qu r)
end Go.Ry
