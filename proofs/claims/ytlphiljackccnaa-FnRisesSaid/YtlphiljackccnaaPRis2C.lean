/- The law of rising edges: the program's functions do what they come to. No condition. -/
import Derived.Test.YtlphiljackccnaaPNumC
import Derived.Test.YtlphiljackccnaaPRis2
set_option linter.unusedVariables false
namespace Go.Ry
open Go.Proofs
theorem c_chance : K_chance (Triple Try.prog) := fun n l p s hl hn h h24 => by
  obtain ⟨b, p', s', h1, h2, h3⟩ := p_spec_l00Src_chance c_next n l p s hl hn h h24
  exact ⟨b, p', s', h1, h2, r_spec_l00Src_chance n l p s h3⟩
theorem c_l06Bools : K_l06Bools (Triple Try.prog) := fun n h => r_spec_l06Bools n (p_spec_l06Bools n h)
theorem c_l06Set : K_l06Set (Triple Try.prog) := fun l i b hl hi => r_spec_l06Set l i b (p_spec_l06Set l i b hl hi)
theorem c_inputs : K_inputs (Triple Try.prog) := fun n l s hl hn h hk => by
  obtain ⟨r, p', s', h1, h2, h3, h4⟩ := p_spec_l00Src_inputs c_chance c_l06Bools c_l06Set n l s hl hn h hk
  exact ⟨r, p', s', h1, h2, h3, r_spec_l00Src_inputs n l 0 s h4⟩
theorem c_InputsDrawn : K_InputsDrawn (Triple Try.prog) := fun l n hl hn hk => by
  obtain ⟨r, h1, h2⟩ := p_spec_InputsDrawn c_Source c_inputs l n hl hn hk
  exact ⟨r, h1, r_spec_InputsDrawn l n h2⟩
theorem c_sameInts : K_sameInts (Triple Try.prog) := fun l h => r_laws_sameInts l l (p_laws_sameInts l h)
theorem c_laws_FnRises : K_FnRises (Triple Try.prog) := fun l1 l2 h1 => r_laws_FnRises l1 l2 (p_laws_FnRises c_InputsDrawn c_implRisesOf c_specRisesOf c_sameInts l1 l2 h1)
end Go.Ry
