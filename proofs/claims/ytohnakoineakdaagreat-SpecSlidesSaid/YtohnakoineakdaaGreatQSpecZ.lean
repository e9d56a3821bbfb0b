/- Functions of the program as plain Lean functions, printed by a program of our own. -/
import Derived.Test.YtohnakoineakdaaGreatQAb
import Derived.Test.YtohnakoineakdaaGreatQSpecA
import Derived.Test.YtohnakoineakdaaGreatQSpecC
import Derived.Test.YtohnakoineakdaaGreatQSoL
namespace Go.Proofs.YtohnakoineakdaaGreat
open Go Go.Ev
set_option maxRecDepth 100000
set_option linter.unusedVariables false
noncomputable def b106za:Go.Code:=Tryz.f106.body.getD .skip
def H106za:HL:=[(1,[0,1,2,3,8],[]),(4,[0,1,2,3,8,9],[])]
noncomputable def G106za:List (Nat×Con):=[(59,c59)]
noncomputable def F106za:Nat→DPs [.slit,(.val false ki),(.val false ki),(.clo 59 [])]→Option (DRO [] (outs [.slit,(.val false ki),(.val false ki),(.clo 59 [])]))
 | n + 3,x=>if x.2.1=0∧x.2.2.1=0 then some () else none
 | _,_=>none
noncomputable def c106za:Con:=⟨[.slit,(.val false ki),(.val false ki),(.clo 59 [])],[],F106za⟩
theorem c106za_eq (n:Nat) (s:Option Addr×Nat) (cl:PUnit):funE TT [.slit,(.val false ki),(.val false ki),(.clo 59 [])] [] (opE TT OVS NTS DFS MTS G106za (n + 43)) H106za Tryz.f106.ntmps Tryz.f106.results.toList b106za (n + 3) (s,0,0,cl,())=some ():=by
 kernel_rfl
theorem c106za_ok:ConOK Tryz.prog 106 c106za:=funE_ok TT_ok mixed Tryz.func106 (body:=b106za) rfl rfl (by decide +kernel) (fun n=>opE_ok TT_ok OVS_ok NTS DFS MTS_ok (G:=G106za) (GOK.cons c59_ok (GOK.nil)) (n + 40)) (H:=H106za) fun n x y h=>by
 match n,h with
 | n + 3,h =>
  obtain ⟨s,a,b,cl,_u⟩:=x
  have h:(if a=0∧b=0 then some () else none)=some y:=h
  split at h
  ·rename_i hab
   obtain ⟨rfl,rfl⟩:=hab
   cases h
   exact c106za_eq n s cl
  ·cases h
noncomputable def b80za:Go.Code:=Tryz.f80.body.getD .skip
def H80za:HL:=[(2,[0,1,2,3,4,10,11],[]),(1000010,[0,1,2,3,4,10,11,12],[]),(1000015,[0,1,2,3,4,10,11,12,13,14],[]),(1000017,[0,1,2,3,4,10,11,12,13],[])]
noncomputable def G80za:List (Nat×Con):=[(106,c106za),(59,c59)]
noncomputable def F80za:Nat→DPs [.slit,(.val false ki),(.val false ki),(.val false ki),(.clo 59 [])]→Option (DRO [] (outs [.slit,(.val false ki),(.val false ki),(.val false ki),(.clo 59 [])]))
 | n + 3,x=>if x.2.1=0∧x.2.2.1=0 then some () else none
 | _,_=>none
noncomputable def c80za:Con:=⟨[.slit,(.val false ki),(.val false ki),(.val false ki),(.clo 59 [])],[],F80za⟩
theorem c80za_eq (n:Nat) (s:Option Addr×Nat) (l:Int) (cl:PUnit):funE TT [.slit,(.val false ki),(.val false ki),(.val false ki),(.clo 59 [])] [] (opE TT OVS NTS DFS MTS G80za (n + 43)) H80za Tryz.f80.ntmps Tryz.f80.results.toList b80za (n + 3) (s,0,0,l,cl,())=some ():=by
 kernel_rfl
theorem c80za_ok:ConOK Tryz.prog 80 c80za:=funE_ok TT_ok mixed Tryz.func80 (body:=b80za) rfl rfl (by decide +kernel) (fun n=>opE_ok TT_ok OVS_ok NTS DFS MTS_ok (G:=G80za) (GOK.cons c106za_ok (GOK.cons c59_ok (GOK.nil))) (n + 40)) (H:=H80za) fun n x y h=>by
 match n,h with
 | n + 3,h =>
  obtain ⟨s,a,b,l,cl,_u⟩:=x
  have h:(if a=0∧b=0 then some () else none)=some y:=h
  split at h
  ·rename_i hab
   obtain ⟨rfl,rfl⟩:=hab
   cases h
   exact c80za_eq n s l cl
  ·cases h
noncomputable def b48za:Go.Code:=Tryz.f48.body.getD .skip
def H48za:HL:=[]
noncomputable def G48za:List (Nat×Con):=[(81,c81),(80,c80za),(59,c59)]
noncomputable def F48za:Nat→DPs [.slit,(.clo 59 [])]→Option (DRO [] (outs [.slit,(.clo 59 [])]))
 | n + 3,x=>some ()
 | _,_=>none
noncomputable def c48za:Con:=⟨[.slit,(.clo 59 [])],[],F48za⟩
theorem c48za_eq (n:Nat) (s:Option Addr×Nat) (cl:PUnit):funE TT [.slit,(.clo 59 [])] [] (opE TT OVS NTS DFS MTS G48za (n + 43)) H48za Tryz.f48.ntmps Tryz.f48.results.toList b48za (n + 3) (s,cl,())=some ():=by
 kernel_rfl
theorem c48za_ok:ConOK Tryz.prog 48 c48za:=funE_ok TT_ok mixed Tryz.func48 (body:=b48za) rfl rfl (by decide +kernel) (fun n=>opE_ok TT_ok OVS_ok NTS DFS MTS_ok (G:=G48za) (GOK.cons c81_ok (GOK.cons c80za_ok (GOK.cons c59_ok (GOK.nil)))) (n + 40)) (H:=H48za) fun n x y h=>by
 match n,h with
 | n + 3,h =>
  obtain ⟨s,cl,_u⟩:=x
  cases h
  exact c48za_eq n s cl
noncomputable def b106zb:Go.Code:=Tryz.f106.body.getD .skip
def H106zb:HL:=[(1,[0,1,2,3,8],[]),(4,[0,1,2,3,8,9],[])]
noncomputable def G106zb:List (Nat×Con):=[(49,c49)]
noncomputable def F106zb:Nat→DPs [.slit,(.val false ki),(.val false ki),(.clo 49 [])]→Option (DRO [] (outs [.slit,(.val false ki),(.val false ki),(.clo 49 [])]))
 | n + 3,x=>if x.2.1=0∧x.2.2.1=0 then some () else none
 | _,_=>none
noncomputable def c106zb:Con:=⟨[.slit,(.val false ki),(.val false ki),(.clo 49 [])],[],F106zb⟩
theorem c106zb_eq (n:Nat) (s:Option Addr×Nat) (cl:PUnit):funE TT [.slit,(.val false ki),(.val false ki),(.clo 49 [])] [] (opE TT OVS NTS DFS MTS G106zb (n + 43)) H106zb Tryz.f106.ntmps Tryz.f106.results.toList b106zb (n + 3) (s,0,0,cl,())=some ():=by
 kernel_rfl
theorem c106zb_ok:ConOK Tryz.prog 106 c106zb:=funE_ok TT_ok mixed Tryz.func106 (body:=b106zb) rfl rfl (by decide +kernel) (fun n=>opE_ok TT_ok OVS_ok NTS DFS MTS_ok (G:=G106zb) (GOK.cons c49_ok (GOK.nil)) (n + 40)) (H:=H106zb) fun n x y h=>by
 match n,h with
 | n + 3,h =>
  obtain ⟨s,a,b,cl,_u⟩:=x
  have h:(if a=0∧b=0 then some () else none)=some y:=h
  split at h
  ·rename_i hab
   obtain ⟨rfl,rfl⟩:=hab
   cases h
   exact c106zb_eq n s cl
  ·cases h
noncomputable def b80zb:Go.Code:=Tryz.f80.body.getD .skip
def H80zb:HL:=[(2,[0,1,2,3,4,10,11],[]),(1000010,[0,1,2,3,4,10,11,12],[]),(1000015,[0,1,2,3,4,10,11,12,13,14],[]),(1000017,[0,1,2,3,4,10,11,12,13],[])]
noncomputable def G80zb:List (Nat×Con):=[(106,c106zb),(49,c49)]
noncomputable def F80zb:Nat→DPs [.slit,(.val false ki),(.val false ki),(.val false ki),(.clo 49 [])]→Option (DRO [] (outs [.slit,(.val false ki),(.val false ki),(.val false ki),(.clo 49 [])]))
 | n + 3,x=>if x.2.1=0∧x.2.2.1=0 then some () else none
 | _,_=>none
noncomputable def c80zb:Con:=⟨[.slit,(.val false ki),(.val false ki),(.val false ki),(.clo 49 [])],[],F80zb⟩
theorem c80zb_eq (n:Nat) (s:Option Addr×Nat) (l:Int) (cl:PUnit):funE TT [.slit,(.val false ki),(.val false ki),(.val false ki),(.clo 49 [])] [] (opE TT OVS NTS DFS MTS G80zb (n + 43)) H80zb Tryz.f80.ntmps Tryz.f80.results.toList b80zb (n + 3) (s,0,0,l,cl,())=some ():=by
 kernel_rfl
theorem c80zb_ok:ConOK Tryz.prog 80 c80zb:=funE_ok TT_ok mixed Tryz.func80 (body:=b80zb) rfl rfl (by decide +kernel) (fun n=>opE_ok TT_ok OVS_ok NTS DFS MTS_ok (G:=G80zb) (GOK.cons c106zb_ok (GOK.cons c49_ok (GOK.nil))) (n + 40)) (H:=H80zb) fun n x y h=>by
 match n,h with
 | n + 3,h =>
  obtain ⟨s,a,b,l,cl,_u⟩:=x
  have h:(if a=0∧b=0 then some () else none)=some y:=h
  split at h
  ·rename_i hab
   obtain ⟨rfl,rfl⟩:=hab
   cases h
   exact c80zb_eq n s l cl
  ·cases h
noncomputable def b48zb:Go.Code:=Tryz.f48.body.getD .skip
def H48zb:HL:=[]
noncomputable def G48zb:List (Nat×Con):=[(81,c81),(80,c80zb),(49,c49)]
noncomputable def F48zb:Nat→DPs [.slit,(.clo 49 [])]→Option (DRO [] (outs [.slit,(.clo 49 [])]))
 | n + 3,x=>some ()
 | _,_=>none
noncomputable def c48zb:Con:=⟨[.slit,(.clo 49 [])],[],F48zb⟩
theorem c48zb_eq (n:Nat) (s:Option Addr×Nat) (cl:PUnit):funE TT [.slit,(.clo 49 [])] [] (opE TT OVS NTS DFS MTS G48zb (n + 43)) H48zb Tryz.f48.ntmps Tryz.f48.results.toList b48zb (n + 3) (s,cl,())=some ():=by
 kernel_rfl
theorem c48zb_ok:ConOK Tryz.prog 48 c48zb:=funE_ok TT_ok mixed Tryz.func48 (body:=b48zb) rfl rfl (by decide +kernel) (fun n=>opE_ok TT_ok OVS_ok NTS DFS MTS_ok (G:=G48zb) (GOK.cons c81_ok (GOK.cons c80zb_ok (GOK.cons c49_ok (GOK.nil)))) (n + 40)) (H:=H48zb) fun n x y h=>by
 match n,h with
 | n + 3,h =>
  obtain ⟨s,cl,_u⟩:=x
  cases h
  exact c48zb_eq n s cl
noncomputable def b131za:Go.Code:=Tryz.f131.body.getD .skip
def H131za:HL:=[(1,[0,1,2,3,8],[]),(4,[0,1,2,3,8,9],[])]
noncomputable def G131za:List (Nat×Con):=[(68,c68)]
noncomputable def F131za:Nat→DPs [.slit,(.val false ki),(.val false ki),(.clo 68 [])]→Option (DRO [] (outs [.slit,(.val false ki),(.val false ki),(.clo 68 [])]))
 | n + 3,x=>if x.2.1=0∧x.2.2.1=0 then some () else none
 | _,_=>none
noncomputable def c131za:Con:=⟨[.slit,(.val false ki),(.val false ki),(.clo 68 [])],[],F131za⟩
theorem c131za_eq (n:Nat) (s:Option Addr×Nat) (cl:PUnit):funE TT [.slit,(.val false ki),(.val false ki),(.clo 68 [])] [] (opE TT OVS NTS DFS MTS G131za (n + 43)) H131za Tryz.f131.ntmps Tryz.f131.results.toList b131za (n + 3) (s,0,0,cl,())=some ():=by
 kernel_rfl
theorem c131za_ok:ConOK Tryz.prog 131 c131za:=funE_ok TT_ok mixed Tryz.func131 (body:=b131za) rfl rfl (by decide +kernel) (fun n=>opE_ok TT_ok OVS_ok NTS DFS MTS_ok (G:=G131za) (GOK.cons c68_ok (GOK.nil)) (n + 40)) (H:=H131za) fun n x y h=>by
 match n,h with
 | n + 3,h =>
  obtain ⟨s,a,b,cl,_u⟩:=x
  have h:(if a=0∧b=0 then some () else none)=some y:=h
  split at h
  ·rename_i hab
   obtain ⟨rfl,rfl⟩:=hab
   cases h
   exact c131za_eq n s cl
  ·cases h
noncomputable def b98za:Go.Code:=Tryz.f98.body.getD .skip
def H98za:HL:=[(2,[0,1,2,3,4,10,11],[]),(1000010,[0,1,2,3,4,10,11,12],[]),(1000015,[0,1,2,3,4,10,11,12,13,14],[]),(1000017,[0,1,2,3,4,10,11,12,13],[])]
noncomputable def G98za:List (Nat×Con):=[(131,c131za),(68,c68)]
noncomputable def F98za:Nat→DPs [.slit,(.val false ki),(.val false ki),(.val false ki),(.clo 68 [])]→Option (DRO [] (outs [.slit,(.val false ki),(.val false ki),(.val false ki),(.clo 68 [])]))
 | n + 3,x=>if x.2.1=0∧x.2.2.1=0 then some () else none
 | _,_=>none
noncomputable def c98za:Con:=⟨[.slit,(.val false ki),(.val false ki),(.val false ki),(.clo 68 [])],[],F98za⟩
theorem c98za_eq (n:Nat) (s:Option Addr×Nat) (l:Int) (cl:PUnit):funE TT [.slit,(.val false ki),(.val false ki),(.val false ki),(.clo 68 [])] [] (opE TT OVS NTS DFS MTS G98za (n + 43)) H98za Tryz.f98.ntmps Tryz.f98.results.toList b98za (n + 3) (s,0,0,l,cl,())=some ():=by
 kernel_rfl
theorem c98za_ok:ConOK Tryz.prog 98 c98za:=funE_ok TT_ok mixed Tryz.func98 (body:=b98za) rfl rfl (by decide +kernel) (fun n=>opE_ok TT_ok OVS_ok NTS DFS MTS_ok (G:=G98za) (GOK.cons c131za_ok (GOK.cons c68_ok (GOK.nil))) (n + 40)) (H:=H98za) fun n x y h=>by
 match n,h with
 | n + 3,h =>
  obtain ⟨s,a,b,l,cl,_u⟩:=x
  have h:(if a=0∧b=0 then some () else none)=some y:=h
  split at h
  ·rename_i hab
   obtain ⟨rfl,rfl⟩:=hab
   cases h
   exact c98za_eq n s l cl
  ·cases h
noncomputable def b67za:Go.Code:=Tryz.f67.body.getD .skip
def H67za:HL:=[]
noncomputable def G67za:List (Nat×Con):=[(81,c81),(98,c98za),(68,c68)]
noncomputable def F67za:Nat→DPs [.slit,(.clo 68 [])]→Option (DRO [] (outs [.slit,(.clo 68 [])]))
 | n + 3,x=>some ()
 | _,_=>none
noncomputable def c67za:Con:=⟨[.slit,(.clo 68 [])],[],F67za⟩
theorem c67za_eq (n:Nat) (s:Option Addr×Nat) (cl:PUnit):funE TT [.slit,(.clo 68 [])] [] (opE TT OVS NTS DFS MTS G67za (n + 43)) H67za Tryz.f67.ntmps Tryz.f67.results.toList b67za (n + 3) (s,cl,())=some ():=by
 kernel_rfl
theorem c67za_ok:ConOK Tryz.prog 67 c67za:=funE_ok TT_ok mixed Tryz.func67 (body:=b67za) rfl rfl (by decide +kernel) (fun n=>opE_ok TT_ok OVS_ok NTS DFS MTS_ok (G:=G67za) (GOK.cons c81_ok (GOK.cons c98za_ok (GOK.cons c68_ok (GOK.nil)))) (n + 40)) (H:=H67za) fun n x y h=>by
 match n,h with
 | n + 3,h =>
  obtain ⟨s,cl,_u⟩:=x
  cases h
  exact c67za_eq n s cl
end Go.Proofs.YtohnakoineakdaaGreat
