/- The equations of the printed functions, with the callees by name. -/
import Derived.Test.YtjdlancjbdmkhaaQChkB
namespace Go.Proofs.Ytjdlancjbdmkhaa
open Go Go.Ev
set_option maxRecDepth 100000
set_option linter.unusedVariables false
end Go.Proofs.Ytjdlancjbdmkhaa
