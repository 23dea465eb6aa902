/- OfferEvent: the program's functions do what they come to. No condition. -/
import Derived.Test.YtnnhfeopdhnlhaaPDropC
import Derived.Test.YtnnhfeopdhnlhaaPOffer
set_option linter.unusedVariables false
namespace Go.Ry
open Go.Proofs
theorem c_l10One : K_l10One (Triple Try.prog) := fun n => r_spec_l10One n (p_spec_l10One n)
theorem c_l10Offer : K_l10Offer (Triple Try.prog) := fun s k p d pin qu r now h1 h2 h3 hq => r_spec_l10Offer s.la s.ar s.dn s.th s.lo s.dr s.q k p d pin qu r now (p_spec_l10Offer c_l10One s k p d pin qu r now h1 h2 h3 hq)
theorem c_specOffer : K_Offer n_spec_OfferEvent (Triple Try.prog) := fun s k p d pin qu r now hq => r_spec_OfferEvent s.la s.ar s.dn s.th s.lo s.dr s.q k p d pin qu r now (p_spec_OfferEvent c_specSourceOK c_l01In c_l10Own c_l10Offer s k p d pin qu r now hq)
theorem c_count1 : K_count1 (Triple Try.prog) := fun n la ar dn th lo dr q => r_impl_count_1 n la ar dn th lo dr q (p_impl_count_1 n la ar dn th lo dr q)
theorem c_count2 : K_count2 (Triple Try.prog) := fun n la ar dn th lo dr q => r_impl_count_2 n la ar dn th lo dr q (p_impl_count_2 n la ar dn th lo dr q)
theorem c_count3 : K_count3 (Triple Try.prog) := fun n la ar dn th lo dr q => r_impl_count_3 n la ar dn th lo dr q (p_impl_count_3 n la ar dn th lo dr q)
theorem c_offer : K_offer (Triple Try.prog) := fun s k p d pin qu r now h1 h2 h3 hq => r_impl_Source_offer k p d pin qu r now s.la s.ar s.dn s.th s.lo s.dr s.q (p_impl_Source_offer c_count1 c_count2 c_count3 s k p d pin qu r now h1 h2 h3 hq)
theorem c_implOffer : K_Offer n_impl_OfferEvent (Triple Try.prog) := fun s k p d pin qu r now hq => r_impl_OfferEvent s.la s.ar s.dn s.th s.lo s.dr s.q k p d pin qu r now (p_impl_OfferEvent c_implSourceOK c_when c_first c_isTime c_copySource c_offer s k p d pin qu r now hq)
theorem c_laws_FnExactOfferEvent : K_FnExactOfferEvent (Triple Try.prog) := fun la ar dn th lo dr q k p d pin qu r now h => r_laws_FnExactOfferEvent la ar dn th lo dr q k p d pin qu r now (p_laws_FnExactOfferEvent c_szSource c_toSource c_toTask c_eqSource c_specOffer c_implOffer c_markSource c_heldSource la ar dn th lo dr q k p d pin qu r now h)
end Go.Ry
