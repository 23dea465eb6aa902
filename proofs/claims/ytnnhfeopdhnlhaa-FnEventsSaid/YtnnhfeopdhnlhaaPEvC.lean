/- The law of events: the program's functions do what they come to. No condition. -/
import Derived.Test.YtnnhfeopdhnlhaaPOfferC
import Derived.Test.YtnnhfeopdhnlhaaPRis2C
import Derived.Test.YtnnhfeopdhnlhaaPEv
set_option linter.unusedVariables false
namespace Go.Ry
open Go.Proofs
theorem c_task : K_task (Triple Try.prog) := fun n l p s hl hn h h6 => by
  obtain ⟨k, pe, d, pin, qu, r, p', s', h1, h2, h3, h4⟩ := p_spec_l00Src_task c_next n l p s hl hn h h6
  exact ⟨k, pe, d, pin, qu, r, p', s', h1, h2, h3, r_spec_l00Src_task n l p s h4⟩
theorem c_TaskDrawn : K_TaskDrawn (Triple Try.prog) := fun l hl hn => by
  obtain ⟨k, pe, d, pin, qu, r, h1, h2⟩ := p_spec_TaskDrawn c_Source c_task l hl hn
  exact ⟨k, pe, d, pin, qu, r, h1, r_spec_TaskDrawn l h2⟩
theorem c_NewSource : K_NewSource (Triple Try.prog) := r_impl_NewSource p_impl_NewSource
theorem c_laws_FnEvents : K_FnEvents (Triple Try.prog) := fun l1 l2 h1 h2 => r_laws_FnEvents l1 l2 (p_laws_FnEvents c_TaskDrawn c_NewSource c_at c_implTake c_implOffer c_specOffer c_implBalanceOf c_sameInts c_implSourceOK l1 l2 h1 h2)
end Go.Ry
