/- ReadCode: the program's functions do what they come to. No condition. -/
import Derived.Test.YtnnhfeopdhnlhaaPSrcC
import Derived.Test.YtnnhfeopdhnlhaaPCode3
set_option linter.unusedVariables false
namespace Go.Ry
open Go.Proofs
end Go.Ry
