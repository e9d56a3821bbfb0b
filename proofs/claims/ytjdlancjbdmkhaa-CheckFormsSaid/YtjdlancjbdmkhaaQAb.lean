/- Short names for what the printed texts say again and again. -/
import Derived.Test.YtjdlancjbdmkhaaQTy
namespace Go.Proofs.Ytjdlancjbdmkhaa
open Go Go.Ev
abbrev tI:=Int×Int×Int×Int
abbrev tQ:=Int×Int×Int×Int×List Int×Int
abbrev tC:=List tQ×Int×Int×Int×Int
abbrev tR:=Int×Int×(Int×Int)×Int×Bool×List Int
abbrev tF:=(Int×Int)×List tI
abbrev tA:=Int×Int×Int×Int×(Int×Int×Int×Int)×(Int×Int×Int×Int)×List Int
abbrev ki:Ty:=.int .i64
abbrev kI:Ty:=.pair ki (.pair ki (.pair ki ki))
abbrev kQ:Ty:=.pair ki (.pair ki (.pair ki (.pair ki (.pair (.seq 3 ki) ki))))
abbrev kA:Ty:=.pair ki (.pair ki (.pair ki (.pair ki (.pair kI (.pair kI (.seq 3 ki))))))
abbrev kR:Ty:=.pair ki (.pair ki (.pair (.pair ki ki) (.pair ki (.pair .bool (.seq 3 ki)))))
abbrev CT (c:Con):=Nat→DPs c.ps→Option (DRO c.rs (outs c.ps))
def cI (n:Int):CV:=.lit (.int .i64 n)
def vI (n:Int):Option AV:=some (.sv false [.lit (.int .i64 n)])
def vB (b:Bool):Option AV:=some (.sv false [.lit (.bool b)])
def vC (c:CV):Option AV:=some (.sv false [c])
def vS (e:Nat) (k:Ty) (xs:List (D k)):Option AV:=some (.sv false [.imm e k xs])
def vP (a b:Nat):Option AV:=some (.sv false [.ptr a b])
def vO (a:Nat):Option AV:=some (.sv false [.own a])
def hC (cs:List CV):Option HV:=some (.cells cs)
end Go.Proofs.Ytjdlancjbdmkhaa
