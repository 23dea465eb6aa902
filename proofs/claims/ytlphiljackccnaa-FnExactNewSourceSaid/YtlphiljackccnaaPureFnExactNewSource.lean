/- The program's NewSource answers what the reference's NewSource answers, in new memory. No condition. -/
import Derived.Test.YtlphiljackccnaaPFnExactNewSourcex
import Derived.Test.YtlphiljackccnaaBase
set_option linter.unusedSimpArgs false
set_option linter.unusedVariables false
namespace Go.Proofs.Ytlphiljackccnaa.Pure
open Go.RowKit Go.Proofs.Ytlphiljackccnaa.PFnExactNewSource Go.Proofs.YtlphiljackccnaaW.PrintWords Go.Proofs.YtlphiljackccnaaW.PrintLast Go.Proofs.YtlphiljackccnaaW.PrintMore Go.Proofs.YtlphiljackccnaaB
theorem FnExactNewSource : laws_FnExactNewSource.Pure := ⟨5, by decide +kernel⟩
end Go.Proofs.Ytlphiljackccnaa.Pure
