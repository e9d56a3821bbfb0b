/- Arguments of any type of ours, read out of a row's reading: the cells of a value stand for a piece of plain data, with what its sizes say. -/
import Derived.Test.YtjdlancjbdmkhaaQEvQ
import Derived.SizedLaws
import Derived.OpenShut
import Derived.DataReads
import Derived.DataElems
namespace Go.Ev
open Go
section
variable {H:Type} {enc:TypeId×Value→H} {P:Program} {w:World} {base:Nat} {spare:Nat→Bool} {held:Bool}
end
end Go.Ev
