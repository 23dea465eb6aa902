/- ReadCode: the program's functions do what they come to. No condition. -/
import Derived.Test.YtlphiljackccnaaPSrcC
import Derived.Test.YtlphiljackccnaaPCode3
set_option linter.unusedVariables false
namespace Go.Ry
open Go.Proofs
theorem c_l01Take4 : K_l01Take4 (Triple Try.prog) := fun s n h hs => r_spec_l01Take s n 4 (p_spec_l01Take s n h hs)
theorem c_take4 : K_take4 (Triple Try.prog) := fun s h => r_impl_take s (p_impl_take s h)
theorem c_l02Has : K_rangeOf n_spec_l02Has (Triple Try.prog) := fun op => r_spec_l02Has op (p_spec_l02Has op)
theorem c_rangeOf : K_rangeOf n_impl_rangeOf (Triple Try.prog) := fun op => r_impl_rangeOf op (p_impl_rangeOf op)
theorem c_l02Op : K_isOp n_spec_l02Op (Triple Try.prog) := fun op => r_spec_l02Op op (p_spec_l02Op c_l01In op)
theorem c_isOp : K_isOp n_impl_isOp (Triple Try.prog) := fun op => r_impl_isOp op (p_impl_isOp c_within op)
theorem c_l02OK : K_instrOK n_spec_l02OK (Triple Try.prog) := fun op a => r_spec_l02OK op a (p_spec_l02OK c_l01In c_l02Op c_l02Has op a)
theorem c_InstrOK : K_instrOK n_impl_InstrOK (Triple Try.prog) := fun op a => r_impl_InstrOK op a (p_impl_InstrOK c_within c_isOp c_rangeOf op a)
theorem c_hasOperand : K_hasOperand (Triple Try.prog) := fun op => r_impl_hasOperand op (p_impl_hasOperand c_rangeOf op)
theorem c_l02ReadBytes : K_read n_spec_l02ReadBytes (Triple Try.prog) := fun s h => r_spec_l02ReadBytes s (p_spec_l02ReadBytes c_l02Op c_l02Has c_l02OK c_l01Take4 s h)
theorem c_readCode : K_read n_impl_readCode (Triple Try.prog) := fun s h => r_impl_readCode s (p_impl_readCode c_isOp c_hasOperand c_InstrOK c_take4 c_when c_first s h)
theorem c_long : K_long (Triple Try.prog) := fun s => r_impl_long s (p_impl_long c_when s)
theorem c_specReadCode : K_ReadCode n_spec_ReadCode (Triple Try.prog) := fun s => r_spec_ReadCode s (p_spec_ReadCode c_l02ReadBytes s)
theorem c_implReadCode : K_ReadCode n_impl_ReadCode (Triple Try.prog) := fun s => r_impl_ReadCode s (p_impl_ReadCode c_long c_readCode s)
theorem c_eqInstr : K_eqInstr (Triple Try.prog) := fun a b => r_laws_eqInstr a b a b (p_laws_eqInstr a b)
theorem c_eqInstrS : K_eqInstrS (Triple Try.prog) := fun l h => r_laws_eqInstrS l l (p_laws_eqInstrS c_eqInstr l h)
theorem c_markInstrS : K_markInstrS (Triple Try.prog) := fun n r hn h => r_laws_markInstrS n r (p_laws_markInstrS n r hn h)
theorem c_heldInstrS : K_heldInstrS (Triple Try.prog) := fun n r hn h => r_laws_heldInstrS (markIns n r) n (p_laws_heldInstrS n r hn h)
theorem c_laws_FnExactReadCode : K_FnExactReadCode (Triple Try.prog) := fun s => r_laws_FnExactReadCode s (p_laws_FnExactReadCode c_eqInstrS c_markInstrS c_heldInstrS c_specReadCode c_implReadCode s)
end Go.Ry
