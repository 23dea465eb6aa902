/- What is drawn, and the law of numbers: the program's functions do what they come to. No condition. -/
import Derived.Test.YtlphiljackccnaaPCodeC
import Derived.Test.YtlphiljackccnaaPNum
set_option linter.unusedVariables false
namespace Go.Ry
open Go.Proofs
theorem c_at : K_at (Triple Try.prog) := fun l i n hl hi hl' => by
  obtain ⟨r, h1, h2, h3, h4⟩ := p_laws_at l i n hl hi hl'
  exact ⟨r, h1, h2, h3, r_laws_at l i n h4⟩
theorem c_byte : K_byte (Triple Try.prog) := fun l p s hl hn h => r_spec_l00Src_byte l p s (p_spec_l00Src_byte l p s hl hn h)
theorem c_Source : K_Source (Triple Try.prog) := fun l hn => r_spec_l00Source l (p_spec_l00Source l hn)
theorem c_next : K_next (Triple Try.prog) := fun n l p s hl hn h h24 => by
  obtain ⟨v, p', s', h1, h2, h3, h4⟩ := p_spec_l00Src_next c_byte n l p s hl hn h h24
  exact ⟨v, p', s', h1, h2, h3, r_spec_l00Src_next n l p s h4⟩
theorem c_some : K_some (Triple Try.prog) := fun n l p s hl hn h hk => r_spec_l00Src_some n l p s (p_spec_l00Src_some c_byte n l p s hl hn h hk)
theorem c_SomeText : K_SomeText (Triple Try.prog) := fun l n hl hn hk => r_spec_SomeText l n (p_spec_SomeText c_Source c_some l n hl hn hk)
theorem c_value : K_value (Triple Try.prog) := fun l p s hl hn h => by
  obtain ⟨v, p', s', h1, h2, h3, h4⟩ := p_spec_l00Src_value c_byte c_next l p s hl hn h
  exact ⟨v, p', s', h1, h2, h3, r_spec_l00Src_value l p s h4⟩
theorem c_ValueDrawn : K_ValueDrawn (Triple Try.prog) := fun l hl hn => by
  obtain ⟨v, h1, h2⟩ := p_spec_ValueDrawn c_Source c_value l hl hn
  exact ⟨v, h1, r_spec_ValueDrawn l h2⟩
theorem c_implPut : K_put n_impl_put (Triple Try.prog) := fun x z hz => r_impl_put x z (p_impl_put x z hz)
theorem c_specPut : K_put n_spec_l01Put (Triple Try.prog) := fun x z hz => r_spec_l01Put x z (p_spec_l01Put x z hz)
theorem c_isWidth : K_isZ n_impl_isWidth (Triple Try.prog) := fun z hz => r_impl_isWidth z (p_impl_isWidth z hz)
theorem c_l01Size : K_isZ n_spec_l01Size (Triple Try.prog) := fun z hz => r_spec_l01Size z (p_spec_l01Size z hz)
theorem c_implPutNumber : K_PutNumber n_impl_PutNumber (Triple Try.prog) := fun x z hz => r_impl_PutNumber x z (p_impl_PutNumber c_isWidth c_within c_implPut x z hz)
theorem c_Fits : K_Fits (Triple Try.prog) := fun x z hz => r_spec_l01Fits x z (p_spec_l01Fits c_l01In x z hz)
theorem c_specPutNumber : K_PutNumber n_spec_PutNumber (Triple Try.prog) := fun x z hz => r_spec_PutNumber x z (p_spec_PutNumber c_l01Size c_Fits c_specPut x z hz)
theorem c_takeZ : K_takeZ (Triple Try.prog) := fun s h => r_impl_take s (p_impl_takeZ s h)
theorem c_TakeNumberZ : K_TakeNumberZ (Triple Try.prog) := fun s a z hs hz => r_impl_TakeNumber s a z (p_impl_TakeNumberZ c_long c_isWidth c_when c_first c_within c_takeZ s a z hs hz)
theorem c_laws_FnNumbers : K_FnNumbers (Triple Try.prog) := fun l1 l2 h1 h2 => r_laws_FnNumbers l1 l2 (p_laws_FnNumbers c_at c_ValueDrawn c_SomeText c_implPutNumber c_specPutNumber c_TakeNumberZ l1 l2 h1 h2)
end Go.Ry
