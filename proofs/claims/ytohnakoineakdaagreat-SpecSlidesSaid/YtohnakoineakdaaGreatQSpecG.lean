/- Functions of the program as plain Lean functions, printed by a program of our own. -/
import Derived.Test.YtohnakoineakdaaGreatQAb
import Derived.Test.YtohnakoineakdaaGreatQSpecA
import Derived.Test.YtohnakoineakdaaGreatQSpecB
import Derived.Test.YtohnakoineakdaaGreatQSpecC
import Derived.Test.YtohnakoineakdaaGreatQSoL
import Derived.Test.YtohnakoineakdaaGreatQSpecZ
import Derived.Test.YtohnakoineakdaaGreatQSoC
import Derived.Test.YtohnakoineakdaaGreatQSpecD
import Derived.Test.YtohnakoineakdaaGreatQSpecE
import Derived.Test.YtohnakoineakdaaGreatQSpecF
import Derived.Test.YtohnakoineakdaaGreatQSpecV
import Derived.Test.YtohnakoineakdaaGreatQSpecW
namespace Go.Proofs.YtohnakoineakdaaGreat
open Go Go.Ev
set_option maxRecDepth 100000
set_option linter.unusedVariables false
end Go.Proofs.YtohnakoineakdaaGreat
