/- Functions of the program as plain Lean functions, printed by a program of our own. -/
import Derived.Test.YtjdlancjbdmkhaaQAb
import Derived.Test.YtjdlancjbdmkhaaQChkA
import Derived.Test.YtjdlancjbdmkhaaQSoL
namespace Go.Proofs.Ytjdlancjbdmkhaa
noncomputable section
open Go Go.Ev
set_option maxRecDepth 100000
set_option linter.unusedVariables false
def b85za:Go.Code:=Try.f85.body.getD .skip
def H85za:HL:=[(1,[0,1,2,3,8],[]),(4,[0,1,2,3,8,9],[])]
def G85za:List (Nat×Con):=[(71,c71)]
def F85za:Nat→DPs [.slit,(.val false ki),(.val false ki),(.clo 71 [])]→Option (DRO [] (outs [.slit,(.val false ki),(.val false ki),(.clo 71 [])]))
 | n + 3,x=>if x.2.1=0∧x.2.2.1=0 then some () else none
 | _,_=>none
def c85za:Con:=⟨[.slit,(.val false ki),(.val false ki),(.clo 71 [])],[],F85za⟩
theorem c85za_eq (n:Nat) (s:Option Addr×Nat) (cl:PUnit):funE TT [.slit,(.val false ki),(.val false ki),(.clo 71 [])] [] (opE TT OVS NTS DFS MTS G85za (n + 43)) H85za Try.f85.ntmps Try.f85.results.toList b85za (n + 3) (s,0,0,cl,())=some ():=by
 kernel_rfl
theorem c85za_ok:ConOK Try.prog 85 c85za:=funE_ok TT_ok mixed Try.func85 (body:=b85za) rfl rfl (by decide +kernel) (fun n=>opE_ok TT_ok OVS_ok NTS DFS MTS_ok (G:=G85za) (GOK.cons c71_ok (GOK.nil)) (n + 40)) (H:=H85za) fun n x y h=>by
 match n,h with
 | n + 3,h =>
  obtain ⟨s,a,b,cl,_u⟩:=x
  have h:(if a=0∧b=0 then some () else none)=some y:=h
  split at h
  ·rename_i hab
   obtain ⟨rfl,rfl⟩:=hab
   cases h
   exact c85za_eq n s cl
  ·cases h
def b77za:Go.Code:=Try.f77.body.getD .skip
def H77za:HL:=[(2,[0,1,2,3,4,10,11],[]),(1000010,[0,1,2,3,4,10,11,12],[]),(1000015,[0,1,2,3,4,10,11,12,13,14],[]),(1000017,[0,1,2,3,4,10,11,12,13],[])]
def G77za:List (Nat×Con):=[(85,c85za),(71,c71)]
def F77za:Nat→DPs [.slit,(.val false ki),(.val false ki),(.val false ki),(.clo 71 [])]→Option (DRO [] (outs [.slit,(.val false ki),(.val false ki),(.val false ki),(.clo 71 [])]))
 | n + 3,x=>if x.2.1=0∧x.2.2.1=0 then some () else none
 | _,_=>none
def c77za:Con:=⟨[.slit,(.val false ki),(.val false ki),(.val false ki),(.clo 71 [])],[],F77za⟩
theorem c77za_eq (n:Nat) (s:Option Addr×Nat) (l:Int) (cl:PUnit):funE TT [.slit,(.val false ki),(.val false ki),(.val false ki),(.clo 71 [])] [] (opE TT OVS NTS DFS MTS G77za (n + 43)) H77za Try.f77.ntmps Try.f77.results.toList b77za (n + 3) (s,0,0,l,cl,())=some ():=by
 kernel_rfl
theorem c77za_ok:ConOK Try.prog 77 c77za:=funE_ok TT_ok mixed Try.func77 (body:=b77za) rfl rfl (by decide +kernel) (fun n=>opE_ok TT_ok OVS_ok NTS DFS MTS_ok (G:=G77za) (GOK.cons c85za_ok (GOK.cons c71_ok (GOK.nil))) (n + 40)) (H:=H77za) fun n x y h=>by
 match n,h with
 | n + 3,h =>
  obtain ⟨s,a,b,l,cl,_u⟩:=x
  have h:(if a=0∧b=0 then some () else none)=some y:=h
  split at h
  ·rename_i hab
   obtain ⟨rfl,rfl⟩:=hab
   cases h
   exact c77za_eq n s l cl
  ·cases h
def b64za:Go.Code:=Try.f64.body.getD .skip
def H64za:HL:=[]
def G64za:List (Nat×Con):=[(78,c78),(77,c77za),(71,c71)]
def F64za:Nat→DPs [.slit,(.clo 71 [])]→Option (DRO [] (outs [.slit,(.clo 71 [])]))
 | n + 3,x=>some ()
 | _,_=>none
def c64za:Con:=⟨[.slit,(.clo 71 [])],[],F64za⟩
theorem c64za_eq (n:Nat) (s:Option Addr×Nat) (cl:PUnit):funE TT [.slit,(.clo 71 [])] [] (opE TT OVS NTS DFS MTS G64za (n + 43)) H64za Try.f64.ntmps Try.f64.results.toList b64za (n + 3) (s,cl,())=some ():=by
 kernel_rfl
theorem c64za_ok:ConOK Try.prog 64 c64za:=funE_ok TT_ok mixed Try.func64 (body:=b64za) rfl rfl (by decide +kernel) (fun n=>opE_ok TT_ok OVS_ok NTS DFS MTS_ok (G:=G64za) (GOK.cons c78_ok (GOK.cons c77za_ok (GOK.cons c71_ok (GOK.nil)))) (n + 40)) (H:=H64za) fun n x y h=>by
 match n,h with
 | n + 3,h =>
  obtain ⟨s,cl,_u⟩:=x
  cases h
  exact c64za_eq n s cl
def b85zb:Go.Code:=Try.f85.body.getD .skip
def H85zb:HL:=[(1,[0,1,2,3,8],[]),(4,[0,1,2,3,8,9],[])]
def G85zb:List (Nat×Con):=[(65,c65)]
def F85zb:Nat→DPs [.slit,(.val false ki),(.val false ki),(.clo 65 [])]→Option (DRO [] (outs [.slit,(.val false ki),(.val false ki),(.clo 65 [])]))
 | n + 3,x=>if x.2.1=0∧x.2.2.1=0 then some () else none
 | _,_=>none
def c85zb:Con:=⟨[.slit,(.val false ki),(.val false ki),(.clo 65 [])],[],F85zb⟩
theorem c85zb_eq (n:Nat) (s:Option Addr×Nat) (cl:PUnit):funE TT [.slit,(.val false ki),(.val false ki),(.clo 65 [])] [] (opE TT OVS NTS DFS MTS G85zb (n + 43)) H85zb Try.f85.ntmps Try.f85.results.toList b85zb (n + 3) (s,0,0,cl,())=some ():=by
 kernel_rfl
theorem c85zb_ok:ConOK Try.prog 85 c85zb:=funE_ok TT_ok mixed Try.func85 (body:=b85zb) rfl rfl (by decide +kernel) (fun n=>opE_ok TT_ok OVS_ok NTS DFS MTS_ok (G:=G85zb) (GOK.cons c65_ok (GOK.nil)) (n + 40)) (H:=H85zb) fun n x y h=>by
 match n,h with
 | n + 3,h =>
  obtain ⟨s,a,b,cl,_u⟩:=x
  have h:(if a=0∧b=0 then some () else none)=some y:=h
  split at h
  ·rename_i hab
   obtain ⟨rfl,rfl⟩:=hab
   cases h
   exact c85zb_eq n s cl
  ·cases h
def b77zb:Go.Code:=Try.f77.body.getD .skip
def H77zb:HL:=[(2,[0,1,2,3,4,10,11],[]),(1000010,[0,1,2,3,4,10,11,12],[]),(1000015,[0,1,2,3,4,10,11,12,13,14],[]),(1000017,[0,1,2,3,4,10,11,12,13],[])]
def G77zb:List (Nat×Con):=[(85,c85zb),(65,c65)]
def F77zb:Nat→DPs [.slit,(.val false ki),(.val false ki),(.val false ki),(.clo 65 [])]→Option (DRO [] (outs [.slit,(.val false ki),(.val false ki),(.val false ki),(.clo 65 [])]))
 | n + 3,x=>if x.2.1=0∧x.2.2.1=0 then some () else none
 | _,_=>none
def c77zb:Con:=⟨[.slit,(.val false ki),(.val false ki),(.val false ki),(.clo 65 [])],[],F77zb⟩
theorem c77zb_eq (n:Nat) (s:Option Addr×Nat) (l:Int) (cl:PUnit):funE TT [.slit,(.val false ki),(.val false ki),(.val false ki),(.clo 65 [])] [] (opE TT OVS NTS DFS MTS G77zb (n + 43)) H77zb Try.f77.ntmps Try.f77.results.toList b77zb (n + 3) (s,0,0,l,cl,())=some ():=by
 kernel_rfl
theorem c77zb_ok:ConOK Try.prog 77 c77zb:=funE_ok TT_ok mixed Try.func77 (body:=b77zb) rfl rfl (by decide +kernel) (fun n=>opE_ok TT_ok OVS_ok NTS DFS MTS_ok (G:=G77zb) (GOK.cons c85zb_ok (GOK.cons c65_ok (GOK.nil))) (n + 40)) (H:=H77zb) fun n x y h=>by
 match n,h with
 | n + 3,h =>
  obtain ⟨s,a,b,l,cl,_u⟩:=x
  have h:(if a=0∧b=0 then some () else none)=some y:=h
  split at h
  ·rename_i hab
   obtain ⟨rfl,rfl⟩:=hab
   cases h
   exact c77zb_eq n s l cl
  ·cases h
def b64zb:Go.Code:=Try.f64.body.getD .skip
def H64zb:HL:=[]
def G64zb:List (Nat×Con):=[(78,c78),(77,c77zb),(65,c65)]
def F64zb:Nat→DPs [.slit,(.clo 65 [])]→Option (DRO [] (outs [.slit,(.clo 65 [])]))
 | n + 3,x=>some ()
 | _,_=>none
def c64zb:Con:=⟨[.slit,(.clo 65 [])],[],F64zb⟩
theorem c64zb_eq (n:Nat) (s:Option Addr×Nat) (cl:PUnit):funE TT [.slit,(.clo 65 [])] [] (opE TT OVS NTS DFS MTS G64zb (n + 43)) H64zb Try.f64.ntmps Try.f64.results.toList b64zb (n + 3) (s,cl,())=some ():=by
 kernel_rfl
theorem c64zb_ok:ConOK Try.prog 64 c64zb:=funE_ok TT_ok mixed Try.func64 (body:=b64zb) rfl rfl (by decide +kernel) (fun n=>opE_ok TT_ok OVS_ok NTS DFS MTS_ok (G:=G64zb) (GOK.cons c78_ok (GOK.cons c77zb_ok (GOK.cons c65_ok (GOK.nil)))) (n + 40)) (H:=H64zb) fun n x y h=>by
 match n,h with
 | n + 3,h =>
  obtain ⟨s,cl,_u⟩:=x
  cases h
  exact c64zb_eq n s cl
end
end Go.Proofs.Ytjdlancjbdmkhaa
