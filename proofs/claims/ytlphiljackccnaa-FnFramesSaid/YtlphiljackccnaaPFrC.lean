/- The law of frames: the program's functions do what they come to. No condition. -/
import Derived.Test.YtlphiljackccnaaPNumC
import Derived.Test.YtlphiljackccnaaPFr2
set_option linter.unusedVariables false
namespace Go.Ry
open Go.Proofs
theorem c_l01Sum : K_Sum n_spec_l01Sum (Triple Try.prog) := fun s h => r_spec_l01Sum s (p_spec_l01Sum s h)
theorem c_implSumOf : K_Sum n_impl_SumOf (Triple Try.prog) := fun s h => r_impl_SumOf s (p_impl_SumOf s h)
theorem c_specSumOf : K_Sum n_spec_SumOf (Triple Try.prog) := fun s h => r_spec_SumOf s (p_spec_SumOf c_l01Sum s h)
theorem c_Frame : K_Frame (Triple Try.prog) := fun s h => r_spec_l01Frame s (p_spec_l01Frame c_specPut c_l01Sum s h)
theorem c_specFrameText : K_FrameText n_spec_FrameText (Triple Try.prog) := fun s h => r_spec_FrameText s (p_spec_FrameText c_Frame s h)
theorem c_implFrameText : K_FrameText n_impl_FrameText (Triple Try.prog) := fun s h => r_impl_FrameText s (p_impl_FrameText c_long c_when c_first c_implPut c_implSumOf s h)
theorem c_implReadFrame : K_ReadFrame n_impl_ReadFrame (Triple Try.prog) := fun s h => r_impl_ReadFrame s (p_impl_ReadFrame c_long c_when c_first c_takeZ c_implSumOf s h)
theorem c_l01TakeZ : K_l01TakeZ (Triple Try.prog) := fun s n z hz h hs => r_spec_l01Take s n z (p_spec_l01TakeZ s n z hz h hs)
theorem c_l01ReadFrame : K_l01ReadFrame (Triple Try.prog) := fun s h => r_spec_l01ReadFrame s (p_spec_l01ReadFrame c_l01TakeZ c_l01Sum s h)
theorem c_specReadFrame : K_ReadFrame n_spec_ReadFrame (Triple Try.prog) := fun s h => r_spec_ReadFrame s (p_spec_ReadFrame c_l01ReadFrame s h)
theorem c_l01Hex : K_Hex n_spec_l01Hex (Triple Try.prog) := fun s h => r_spec_l01Hex s (p_spec_l01Hex s h)
theorem c_specHexOf : K_Hex n_spec_HexOf (Triple Try.prog) := fun s h => r_spec_HexOf s (p_spec_HexOf c_l01Hex s h)
theorem c_implHexOf : K_Hex n_impl_HexOf (Triple Try.prog) := fun s h => r_impl_HexOf s (p_impl_HexOf s h)
theorem c_hexDigit : K_hexDigit (Triple Try.prog) := fun n h => r_impl_hexDigit _ (p_impl_hexDigit n h)
theorem c_BytesOf : K_BytesOf (Triple Try.prog) := fun s h => r_impl_BytesOf _ (p_impl_BytesOf c_long c_when c_first c_hexDigit s h)
theorem c_laws_FnFrames : K_FnFrames (Triple Try.prog) := fun l1 l2 h1 h2 => r_laws_FnFrames l1 l2 (p_laws_FnFrames c_at c_SomeText c_implFrameText c_specFrameText c_implReadFrame c_specReadFrame c_implHexOf c_specHexOf c_BytesOf c_implSumOf c_specSumOf l1 l2 h1 h2)
end Go.Ry
