/- What is drawn, and the law of numbers: the program's functions do what they come to. No condition. -/
import Derived.Test.YtnnhfeopdhnlhaaPCodeC
import Derived.Test.YtnnhfeopdhnlhaaPNum
set_option linter.unusedVariables false
namespace Go.Ry
open Go.Proofs
theorem c_at : K_at (Triple Try.prog) := fun l i n hl hi hl' => by
  obtain ⟨r, h1, h2, h3, h4⟩ := p_laws_at l i n hl hi hl'
  exact ⟨r, h1, h2, h3, r_laws_at l i n h4⟩
theorem c_byte : K_byte (Triple Try.prog) := fun l p s hl hn h => r_spec_l00Src_byte l p s (p_spec_l00Src_byte l p s hl hn h)
theorem c_Source : K_Source (Triple Try.prog) := fun l hn => r_spec_l00Source l (p_spec_l00Source l hn)
theorem c_next : K_next (Triple Try.prog) := fun n l p s hl hn h h24 => by
  obtain ⟨v, p', s', h1, h2, h3, h4⟩ := p_spec_l00Src_next c_byte n l p s hl hn h h24
  exact ⟨v, p', s', h1, h2, h3, r_spec_l00Src_next n l p s h4⟩
end Go.Ry
