/- Functions of the program as plain Lean functions, printed by a program of our own. -/
import Derived.Test.YtohnakoineakdaaGreatQAb
import Derived.Test.YtohnakoineakdaaGreatQSpecA
import Derived.Test.YtohnakoineakdaaGreatQSpecB
import Derived.Test.YtohnakoineakdaaGreatQSpecC
import Derived.Test.YtohnakoineakdaaGreatQSoL
import Derived.Test.YtohnakoineakdaaGreatQSpecZ
import Derived.Test.YtohnakoineakdaaGreatQSoC
namespace Go.Proofs.YtohnakoineakdaaGreat
open Go Go.Ev
set_option maxRecDepth 100000
set_option linter.unusedVariables false
noncomputable def st31_0 (r1:List (tI)) (v0_1:Int) (u1_3:List (PUnit×List (tI))):LS:=({ env:=[(nat_lit 0,vO (nat_lit 0)),(nat_lit 3,vO (nat_lit 1)),(nat_lit 5,vP (nat_lit 3) (nat_lit 0)),(nat_lit 10,vO (nat_lit 0)),(nat_lit 11,vI (r1.length:Int)),(nat_lit 12,vI v0_1)],heap:=[(nat_lit 0,some (HV.row (nat_lit 60) kI r1)),(nat_lit 1,some (HV.nest (nat_lit 25) Ty.unit (nat_lit 60) kI u1_3 (nat_lit 2))),(nat_lit 2,some (HV.lock (nat_lit 1) (nat_lit 0) none)),(nat_lit 3,hC ([CV.lit (Value.int IntKind.i64 (r1.getD v0_1.toNat ((0:Int),(0:Int),(0:Int),(0:Int))).fst),CV.lit (Value.int IntKind.i64 (r1.getD v0_1.toNat ((0:Int),(0:Int),(0:Int),(0:Int))).snd.fst),CV.lit (Value.int IntKind.i64 (r1.getD v0_1.toNat ((0:Int),(0:Int),(0:Int),(0:Int))).snd.snd.fst),CV.lit (Value.int IntKind.i64 (r1.getD v0_1.toNat ((0:Int),(0:Int),(0:Int),(0:Int))).snd.snd.snd)]))],next:=nat_lit 4,pins:=[] })
noncomputable def st31_1 (r1:List (tI)) (v0_1:Int) (v0_3:List (PUnit×List (tI))):LS:=({ env:=[(nat_lit 0,vO (nat_lit 0)),(nat_lit 3,vO (nat_lit 1)),(nat_lit 10,vO (nat_lit 0)),(nat_lit 11,vI (r1.length:Int)),(nat_lit 12,vI v0_1)],heap:=[(nat_lit 0,some (HV.row (nat_lit 60) kI r1)),(nat_lit 1,some (HV.nest (nat_lit 25) Ty.unit (nat_lit 60) kI v0_3 (nat_lit 2))),(nat_lit 2,some (HV.lock (nat_lit 1) (nat_lit 0) none))],next:=nat_lit 3,pins:=[] })
noncomputable def b31:Go.Code:=Tryz.f31.body.getD .skip
def H31:HL:=[(5,[0,3,10,11,12],[⟨3,false,0,25,(.seq 60 kI),false,true⟩]),(1000009,[0,3,5,10,11,12],[])]
noncomputable def G31 (F46:CT c46) (F48a:CT c48a):List (Nat×Con):=[(46,⟨c46.ps,c46.rs,F46⟩),(48,⟨c48a.ps,c48a.rs,F48a⟩)]
noncomputable def spec_row_j1_step (n:Nat) (F46:CT c46) (F48a:CT c48a) (r1:List (tI)) (v0_1:Int) (ih0:(Int)→(List (PUnit×List (tI)))→Option (List (List (tI)))) (u1_3:List (PUnit×List (tI))):Option (List (List (tI))) :=
 if (0:Int)≤IntKind.i64.wrap ((u1_3.length:Int) - (1:Int))∧IntKind.i64.wrap ((u1_3.length:Int) - (1:Int)) < (u1_3.length:Int) then if (0:Int)≤IntKind.i64.wrap ((u1_3.length:Int) - (1:Int))∧IntKind.i64.wrap ((u1_3.length:Int) - (1:Int)) < (u1_3.length:Int) then if ((u1_3.getD (IntKind.i64.wrap ((u1_3.length:Int) - (1:Int))).toNat ((),nl (tI))).snd.length + ((List.replicate (1:Nat) ((0:Int),(0:Int),(0:Int),(0:Int))).set (0:Nat) (r1.getD v0_1.toNat ((0:Int),(0:Int),(0:Int),(0:Int)))).length) * (32:Nat)≤(140737488355328:Nat)∧(0:Nat) < (32:Nat) then if (0:Int)≤IntKind.i64.wrap ((u1_3.length:Int) - (1:Int))∧IntKind.i64.wrap ((u1_3.length:Int) - (1:Int)) < (u1_3.length:Int) then if IntKind.i64.wrap ((u1_3.length:Int) - (1:Int))=IntKind.i64.wrap ((u1_3.length:Int) - (1:Int)) then ih0 (IntKind.i64.wrap (v0_1 + (1:Int))) (u1_3.set (IntKind.i64.wrap ((u1_3.length:Int) - (1:Int))).toNat ((u1_3.getD (IntKind.i64.wrap ((u1_3.length:Int) - (1:Int))).toNat ((),nl (tI))).fst,(u1_3.getD (IntKind.i64.wrap ((u1_3.length:Int) - (1:Int))).toNat ((),nl (tI))).snd++(List.replicate (1:Nat) ((0:Int),(0:Int),(0:Int),(0:Int))).set (0:Nat) (r1.getD v0_1.toNat ((0:Int),(0:Int),(0:Int),(0:Int))))) else none else none else none else none else none
noncomputable def spec_row_j1 (n:Nat) (F46:CT c46) (F48a:CT c48a) (r1:List (tI)) (v0_1:Int) (ih0:(Int)→(List (PUnit×List (tI)))→Option (List (List (tI)))) (u1_3:List (PUnit×List (tI))):Option (List (List (tI))):=spec_row_j1_step n F46 F48a r1 v0_1 ih0 u1_3
noncomputable def spec_row_l0_step (n:Nat) (F46:CT c46) (F48a:CT c48a) (h1:(List (tI))→(Int)→(List (PUnit×List (tI)))→Option (List (List (tI)))) (r1:List (tI)) (ih0:(Int)→(List (PUnit×List (tI)))→Option (List (List (tI)))) (v0_1:Int) (v0_3:List (PUnit×List (tI))):Option (List (List (tI))) :=
 bif decide (v0_1 < (r1.length:Int)) then if (0:Int)≤v0_1∧v0_1 < (r1.length:Int) then bif v0_1 == (0:Int) then if (v0_3.length + [((),nl (tI))].length) * (24:Nat)≤(140737488355328:Nat)∧(0:Nat) < (24:Nat) then h1 r1 v0_1 (v0_3++[((),nl (tI))]) else none else if (0:Int)≤IntKind.i64.wrap (v0_1 - (1:Int))∧IntKind.i64.wrap (v0_1 - (1:Int)) < (r1.length:Int) then bif (r1.getD (IntKind.i64.wrap (v0_1 - (1:Int))).toNat ((0:Int),(0:Int),(0:Int),(0:Int))).fst != (r1.getD v0_1.toNat ((0:Int),(0:Int),(0:Int),(0:Int))).fst then if (v0_3.length + [((),nl (tI))].length) * (24:Nat)≤(140737488355328:Nat)∧(0:Nat) < (24:Nat) then h1 r1 v0_1 (v0_3++[((),nl (tI))]) else none else h1 r1 v0_1 v0_3 else none else none else some (List.map Prod.snd v0_3)
noncomputable def spec_row_l0 (n:Nat) (F46:CT c46) (F48a:CT c48a) (r1:List (tI)):Nat→(Int)→(List (PUnit×List (tI)))→Option (List (List (tI)))
 | 0,_,_=>none
 | m0 + 1,v0_1,v0_3=>spec_row_l0_step n F46 F48a (fun (_:List (tI)) v0_1 u1_3=>spec_row_j1 n F46 F48a r1 v0_1 (spec_row_l0 n F46 F48a r1 m0) u1_3) r1 (spec_row_l0 n F46 F48a r1 m0) v0_1 v0_3
noncomputable def spec_row_h (n:Nat) (F46:CT c46) (F48a:CT c48a) (h0:(List (tI))→Nat→(Int)→(List (PUnit×List (tI)))→Option (List (List (tI)))) (a0:List (tI)):Option (List (List (tI))) :=
 Option.bind (α:=List (tI)) (F46 n (a0,())) fun r0↦Option.bind (α:=List (tI)) (F48a n (r0,(),())) fun r1↦h0 r1 n (0:Int) (nl (PUnit×List (tI)))
noncomputable def spec_row_g (n:Nat) (F46:CT c46) (F48a:CT c48a) (a0:List (tI)):Option (List (List (tI))):=spec_row_h n F46 F48a (fun r1 m v0_1 v0_3=>spec_row_l0 n F46 F48a r1 m v0_1 v0_3) a0
theorem spec_row_j1_ok (n:Nat) (F46:CT c46) (F48a:CT c48a) (r1:List (tI)) (v0_1:Int) (m0:Nat) (u1_3:List (PUnit×List (tI))):(jnR (codeE (opE TT OVS NTS DFS MTS (G31 F46 F48a) n) Tryz.f31.ntmps H31 n (codeAt b31 [.r,.r,.r,.r,.l,.r,.b,.loop m0,.r,.r,.l,.b,.r,.r])) (st31_0 r1 v0_1 u1_3) (kAt (opE TT OVS NTS DFS MTS (G31 F46 F48a) n) Tryz.f31.ntmps H31 n b31 [.r,.r,.r,.r,.l,.r,.b,.loop m0,.r,.r,.l,.b,.r,.r] (kRet TT [(.val false (.seq 60 kI))] [(false,.val (.seq 25 (.seq 60 kI)))] Tryz.f31.results.toList)))=spec_row_j1 n F46 F48a r1 v0_1 (fun v0_1 v0_3=>(loopAt (opE TT OVS NTS DFS MTS (G31 F46 F48a) n) Tryz.f31.ntmps H31 n b31 [.r,.r,.r,.r,.l,.r,.b] (kRet TT [(.val false (.seq 60 kI))] [(false,.val (.seq 25 (.seq 60 kI)))] Tryz.f31.results.toList) m0 (st31_1 r1 v0_1 v0_3))) u1_3:=by
  refine Eq.trans (b:=spec_row_j1_step n F46 F48a r1 v0_1 (fun v0_1 v0_3=>(loopAt (opE TT OVS NTS DFS MTS (G31 F46 F48a) n) Tryz.f31.ntmps H31 n b31 [.r,.r,.r,.r,.l,.r,.b] (kRet TT [(.val false (.seq 60 kI))] [(false,.val (.seq 25 (.seq 60 kI)))] Tryz.f31.results.toList) m0 (st31_1 r1 v0_1 v0_3))) u1_3) (by kernel_rfl) ?_
  first | rfl | kernel_rfl
theorem spec_row_l0_ok (n:Nat) (F46:CT c46) (F48a:CT c48a) (r1:List (tI)):∀ (m0:Nat) (v0_1:Int) (v0_3:List (PUnit×List (tI))),(loopAt (opE TT OVS NTS DFS MTS (G31 F46 F48a) n) Tryz.f31.ntmps H31 n b31 [.r,.r,.r,.r,.l,.r,.b] (kRet TT [(.val false (.seq 60 kI))] [(false,.val (.seq 25 (.seq 60 kI)))] Tryz.f31.results.toList) m0 (st31_1 r1 v0_1 v0_3))=spec_row_l0 n F46 F48a r1 m0 v0_1 v0_3:=by
 intro m0
 induction m0 with
 | zero=>intros; kernel_rfl
 | succ m0 ih =>
  intro v0_1 v0_3
  refine Eq.trans (b:=spec_row_l0_step n F46 F48a (fun (_:List (tI)) v0_1 u1_3=>(jnR (codeE (opE TT OVS NTS DFS MTS (G31 F46 F48a) n) Tryz.f31.ntmps H31 n (codeAt b31 [.r,.r,.r,.r,.l,.r,.b,.loop m0,.r,.r,.l,.b,.r,.r])) (st31_0 r1 v0_1 u1_3) (kAt (opE TT OVS NTS DFS MTS (G31 F46 F48a) n) Tryz.f31.ntmps H31 n b31 [.r,.r,.r,.r,.l,.r,.b,.loop m0,.r,.r,.l,.b,.r,.r] (kRet TT [(.val false (.seq 60 kI))] [(false,.val (.seq 25 (.seq 60 kI)))] Tryz.f31.results.toList)))) r1 (fun v0_1 v0_3=>(loopAt (opE TT OVS NTS DFS MTS (G31 F46 F48a) n) Tryz.f31.ntmps H31 n b31 [.r,.r,.r,.r,.l,.r,.b] (kRet TT [(.val false (.seq 60 kI))] [(false,.val (.seq 25 (.seq 60 kI)))] Tryz.f31.results.toList) m0 (st31_1 r1 v0_1 v0_3))) v0_1 v0_3) (by kernel_rfl) ?_
  try rw [show (fun (_:List (tI)) v0_1 u1_3=>(jnR (codeE (opE TT OVS NTS DFS MTS (G31 F46 F48a) n) Tryz.f31.ntmps H31 n (codeAt b31 [.r,.r,.r,.r,.l,.r,.b,.loop m0,.r,.r,.l,.b,.r,.r])) (st31_0 r1 v0_1 u1_3) (kAt (opE TT OVS NTS DFS MTS (G31 F46 F48a) n) Tryz.f31.ntmps H31 n b31 [.r,.r,.r,.r,.l,.r,.b,.loop m0,.r,.r,.l,.b,.r,.r] (kRet TT [(.val false (.seq 60 kI))] [(false,.val (.seq 25 (.seq 60 kI)))] Tryz.f31.results.toList))))=(fun (_:List (tI)) v0_1 u1_3=>spec_row_j1 n F46 F48a r1 v0_1 (fun v0_1 v0_3=>(loopAt (opE TT OVS NTS DFS MTS (G31 F46 F48a) n) Tryz.f31.ntmps H31 n b31 [.r,.r,.r,.r,.l,.r,.b] (kRet TT [(.val false (.seq 60 kI))] [(false,.val (.seq 25 (.seq 60 kI)))] Tryz.f31.results.toList) m0 (st31_1 r1 v0_1 v0_3))) u1_3) from funext fun _=>funext fun v0_1=>funext fun u1_3=>spec_row_j1_ok n F46 F48a r1 v0_1 m0 u1_3]
  rw [show (fun v0_1 v0_3=>(loopAt (opE TT OVS NTS DFS MTS (G31 F46 F48a) n) Tryz.f31.ntmps H31 n b31 [.r,.r,.r,.r,.l,.r,.b] (kRet TT [(.val false (.seq 60 kI))] [(false,.val (.seq 25 (.seq 60 kI)))] Tryz.f31.results.toList) m0 (st31_1 r1 v0_1 v0_3)))=spec_row_l0 n F46 F48a r1 m0 from funext fun v0_1=>funext fun v0_3=>ih v0_1 v0_3]
  first | rfl | kernel_rfl
theorem spec_row_eq (n:Nat) (F46:CT c46) (F48a:CT c48a) (x:DPs [(.val false (.seq 60 kI))]):funE TT [(.val false (.seq 60 kI))] [(false,.val (.seq 25 (.seq 60 kI)))] (opE TT OVS NTS DFS MTS (G31 F46 F48a) n) H31 Tryz.f31.ntmps Tryz.f31.results.toList b31 n x=spec_row_g n F46 F48a x.1:=by
 refine Eq.trans (b:=spec_row_h n F46 F48a (fun r1 m v0_1 v0_3=>(loopAt (opE TT OVS NTS DFS MTS (G31 F46 F48a) n) Tryz.f31.ntmps H31 n b31 [.r,.r,.r,.r,.l,.r,.b] (kRet TT [(.val false (.seq 60 kI))] [(false,.val (.seq 25 (.seq 60 kI)))] Tryz.f31.results.toList) m (st31_1 r1 v0_1 v0_3))) x.1) (by kernel_rfl) ?_
 try rw [show (fun r1 m v0_1 v0_3=>(loopAt (opE TT OVS NTS DFS MTS (G31 F46 F48a) n) Tryz.f31.ntmps H31 n b31 [.r,.r,.r,.r,.l,.r,.b] (kRet TT [(.val false (.seq 60 kI))] [(false,.val (.seq 25 (.seq 60 kI)))] Tryz.f31.results.toList) m (st31_1 r1 v0_1 v0_3)))=(fun r1 m v0_1 v0_3=>spec_row_l0 n F46 F48a r1 m v0_1 v0_3) from funext fun r1=>funext fun m=>funext fun v0_1=>funext fun v0_3=>spec_row_l0_ok n F46 F48a r1 m v0_1 v0_3]
 first | rfl | kernel_rfl
noncomputable def spec_row (n:Nat) (a0:List (tI)):Option (List (List (tI))):=spec_row_g n c46.F c48a.F a0
noncomputable def c31:Con:=⟨[(.val false (.seq 60 kI))],[(false,.val (.seq 25 (.seq 60 kI)))],fun n x=>spec_row n x.1⟩
theorem c31_F (n:Nat) (a0:List (tI)):c31.F n (a0,())=spec_row n a0:=rfl
theorem c31_ok:ConOK Tryz.prog 31 c31:=funE_ok TT_ok mixed Tryz.func31 (body:=b31) rfl rfl (by decide +kernel) (fun n=>opE_ok TT_ok OVS_ok NTS DFS MTS_ok (G:=G31 c46.F c48a.F) (GOK.cons c46_ok (GOK.cons c48a_ok (GOK.nil))) n) (H:=H31) fun n x y h=>(spec_row_eq n c46.F c48a.F x).trans h
noncomputable def b35:Go.Code:=Tryz.f35.body.getD .skip
def H35:HL:=[]
noncomputable def G35 (F67a:CT c67a):List (Nat×Con):=[(67,⟨c67a.ps,c67a.rs,F67a⟩)]
noncomputable def admit_Sort_g (n:Nat) (F67a:CT c67a) (a0:List (tR)):Option (List (tR)) :=
 Option.bind (α:=List (tR)) (F67a n (a0,(),())) fun r0↦some r0
theorem admit_Sort_eq (n:Nat) (F67a:CT c67a) (x:DPs [(.iov 53 kR)]):funE TT [(.iov 53 kR)] [] (opE TT OVS NTS DFS MTS (G35 F67a) n) H35 Tryz.f35.ntmps Tryz.f35.results.toList b35 n x=admit_Sort_g n F67a x.1:=by
 kernel_rfl
noncomputable def admit_Sort (n:Nat) (a0:List (tR)):Option (List (tR)):=admit_Sort_g n c67a.F a0
noncomputable def c35:Con:=⟨[(.iov 53 kR)],[],fun n x=>admit_Sort n x.1⟩
theorem c35_F (n:Nat) (a0:List (tR)):c35.F n (a0,())=admit_Sort n a0:=rfl
theorem c35_ok:ConOK Tryz.prog 35 c35:=funE_ok TT_ok mixed Tryz.func35 (body:=b35) rfl rfl (by decide +kernel) (fun n=>opE_ok TT_ok OVS_ok NTS DFS MTS_ok (G:=G35 c67a.F) (GOK.cons c67a_ok (GOK.nil)) n) (H:=H35) fun n x y h=>(admit_Sort_eq n c67a.F x).trans h
end Go.Proofs.YtohnakoineakdaaGreat
