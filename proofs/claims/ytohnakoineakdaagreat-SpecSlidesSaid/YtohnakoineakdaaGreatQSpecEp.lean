/- The equations of the printed functions, with the callees by name. -/
import Derived.Test.YtohnakoineakdaaGreatQSpecE
namespace Go.Proofs.YtohnakoineakdaaGreat
open Go Go.Ev
set_option maxRecDepth 100000
set_option linter.unusedVariables false
end Go.Proofs.YtohnakoineakdaaGreat
