/- Functions of the program as plain Lean functions, printed by a program of our own. -/
import Derived.Test.YtohnakoineakdaaGreatQAb
import Derived.Test.YtohnakoineakdaaGreatQSpecA
import Derived.Test.YtohnakoineakdaaGreatQSpecB
import Derived.Test.YtohnakoineakdaaGreatQSpecC
import Derived.Test.YtohnakoineakdaaGreatQSoL
import Derived.Test.YtohnakoineakdaaGreatQSpecZ
import Derived.Test.YtohnakoineakdaaGreatQSoC
import Derived.Test.YtohnakoineakdaaGreatQSpecD
namespace Go.Proofs.YtohnakoineakdaaGreat
open Go Go.Ev
set_option maxRecDepth 100000
set_option linter.unusedVariables false
noncomputable def b47:Go.Code:=Tryz.f47.body.getD .skip
def H47:HL:=[]
noncomputable def G47:List (Nat×Con):=[]
noncomputable def spec_Held_1 (n:Nat) (a0:tI) (a1:List (Int×Bool)):Option Bool :=
 if wfI a0.snd.snd.fst=true then some !mget a1 a0.snd.snd.fst else none
theorem spec_Held_1_eq (n:Nat) (x:DPs [(.val true kI),(.iref .mset)]):funE TT [(.val true kI),(.iref .mset)] [(false,.val .bool)] (opE TT OVS NTS DFS MTS G47 n) H47 Tryz.f47.ntmps Tryz.f47.results.toList b47 n x=spec_Held_1 n x.1 x.2.1:=by
 kernel_rfl
noncomputable def c47:Con:=⟨[(.val true kI),(.iref .mset)],[(false,.val .bool)],fun n x=>spec_Held_1 n x.1 x.2.1⟩
theorem c47_F (n:Nat) (a0:tI) (a1:List (Int×Bool)):c47.F n (a0,a1,())=spec_Held_1 n a0 a1:=rfl
theorem c47_ok:ConOK Tryz.prog 47 c47:=funE_ok TT_ok mixed Tryz.func47 (body:=b47) rfl rfl (by decide +kernel) (fun n=>opE_ok TT_ok OVS_ok NTS DFS MTS_ok (G:=G47) (GOK.nil) n) (H:=H47) fun n x y h=>(spec_Held_1_eq n x).trans h
noncomputable def st79_0 (a0:List (tI)) (a1:List (Int×Bool)×PUnit) (v0_3:Int):LS:=({ env:=[(nat_lit 0,vS (nat_lit 60) kI a0),(nat_lit 1,some (AV.sv false [CV.clo (nat_lit 47) [Cp.ip Ty.mset a1.fst (nat_lit 0)]])),(nat_lit 7,vI (a0.length:Int)),(nat_lit 8,vI v0_3)],heap:=nl (Nat×Option HV),next:=nat_lit 0,pins:=[] })
noncomputable def b79:Go.Code:=Tryz.f79.body.getD .skip
def H79:HL:=[(2,[0,1,7,8],[])]
noncomputable def G79 (F47:CT c47):List (Nat×Con):=[(47,⟨c47.ps,c47.rs,F47⟩)]
noncomputable def slices_IndexFunc_api_Item_l0_step (n:Nat) (F47:CT c47) (a0:List (tI)) (a1:List (Int×Bool)×PUnit) (ih0:(Int)→Option Int) (v0_3:Int):Option Int :=
 bif decide (v0_3 < (a0.length:Int)) then if (0:Int)≤v0_3∧v0_3 < (a0.length:Int) then Option.bind (α:=Bool) (F47 n (a0.getD v0_3.toNat ((0:Int),(0:Int),(0:Int),(0:Int)),a1.fst,())) fun r0↦bif r0 then some v0_3 else ih0 (IntKind.i64.wrap (v0_3 + (1:Int))) else none else some (-1:Int)
noncomputable def slices_IndexFunc_api_Item_l0 (n:Nat) (F47:CT c47) (a0:List (tI)) (a1:List (Int×Bool)×PUnit):Nat→(Int)→Option Int
 | 0,_=>none
 | m0 + 1,v0_3=>slices_IndexFunc_api_Item_l0_step n F47 a0 a1 (slices_IndexFunc_api_Item_l0 n F47 a0 a1 m0) v0_3
noncomputable def slices_IndexFunc_api_Item_h (n:Nat) (F47:CT c47) (h0:(List (tI))→(List (Int×Bool)×PUnit)→Nat→(Int)→Option Int) (a0:List (tI)) (a1:List (Int×Bool)×PUnit):Option Int :=
 h0 a0 a1 n (0:Int)
noncomputable def slices_IndexFunc_api_Item_g (n:Nat) (F47:CT c47) (a0:List (tI)) (a1:List (Int×Bool)×PUnit):Option Int:=slices_IndexFunc_api_Item_h n F47 (fun a0 a1 m v0_3=>slices_IndexFunc_api_Item_l0 n F47 a0 a1 m v0_3) a0 a1
theorem slices_IndexFunc_api_Item_l0_ok (n:Nat) (F47:CT c47) (a0:List (tI)) (a1:List (Int×Bool)×PUnit):∀ (m0:Nat) (v0_3:Int),(loopAt (opE TT OVS NTS DFS MTS (G79 F47) n) Tryz.f79.ntmps H79 n b79 [.r,.l,.r,.b] (kRet TT [(.val false (.seq 60 kI)),(.clo 47 [.mset])] [(false,.val ki)] Tryz.f79.results.toList) m0 (st79_0 a0 a1 v0_3))=slices_IndexFunc_api_Item_l0 n F47 a0 a1 m0 v0_3:=by
 intro m0
 induction m0 with
 | zero=>intros; kernel_rfl
 | succ m0 ih =>
  intro v0_3
  refine Eq.trans (b:=slices_IndexFunc_api_Item_l0_step n F47 a0 a1 (fun v0_3=>(loopAt (opE TT OVS NTS DFS MTS (G79 F47) n) Tryz.f79.ntmps H79 n b79 [.r,.l,.r,.b] (kRet TT [(.val false (.seq 60 kI)),(.clo 47 [.mset])] [(false,.val ki)] Tryz.f79.results.toList) m0 (st79_0 a0 a1 v0_3))) v0_3) (by kernel_rfl) ?_
  rw [show (fun v0_3=>(loopAt (opE TT OVS NTS DFS MTS (G79 F47) n) Tryz.f79.ntmps H79 n b79 [.r,.l,.r,.b] (kRet TT [(.val false (.seq 60 kI)),(.clo 47 [.mset])] [(false,.val ki)] Tryz.f79.results.toList) m0 (st79_0 a0 a1 v0_3)))=slices_IndexFunc_api_Item_l0 n F47 a0 a1 m0 from funext fun v0_3=>ih v0_3]
  first | rfl | kernel_rfl
theorem slices_IndexFunc_api_Item_eq (n:Nat) (F47:CT c47) (x:DPs [(.val false (.seq 60 kI)),(.clo 47 [.mset])]):funE TT [(.val false (.seq 60 kI)),(.clo 47 [.mset])] [(false,.val ki)] (opE TT OVS NTS DFS MTS (G79 F47) n) H79 Tryz.f79.ntmps Tryz.f79.results.toList b79 n x=slices_IndexFunc_api_Item_g n F47 x.1 x.2.1:=by
 refine Eq.trans (b:=slices_IndexFunc_api_Item_h n F47 (fun a0 a1 m v0_3=>(loopAt (opE TT OVS NTS DFS MTS (G79 F47) n) Tryz.f79.ntmps H79 n b79 [.r,.l,.r,.b] (kRet TT [(.val false (.seq 60 kI)),(.clo 47 [.mset])] [(false,.val ki)] Tryz.f79.results.toList) m (st79_0 a0 a1 v0_3))) x.1 x.2.1) (by kernel_rfl) ?_
 try rw [show (fun a0 a1 m v0_3=>(loopAt (opE TT OVS NTS DFS MTS (G79 F47) n) Tryz.f79.ntmps H79 n b79 [.r,.l,.r,.b] (kRet TT [(.val false (.seq 60 kI)),(.clo 47 [.mset])] [(false,.val ki)] Tryz.f79.results.toList) m (st79_0 a0 a1 v0_3)))=(fun a0 a1 m v0_3=>slices_IndexFunc_api_Item_l0 n F47 a0 a1 m v0_3) from funext fun a0=>funext fun a1=>funext fun m=>funext fun v0_3=>slices_IndexFunc_api_Item_l0_ok n F47 a0 a1 m v0_3]
 first | rfl | kernel_rfl
noncomputable def slices_IndexFunc_api_Item (n:Nat) (a0:List (tI)) (a1:List (Int×Bool)×PUnit):Option Int:=slices_IndexFunc_api_Item_g n c47.F a0 a1
noncomputable def c79:Con:=⟨[(.val false (.seq 60 kI)),(.clo 47 [.mset])],[(false,.val ki)],fun n x=>slices_IndexFunc_api_Item n x.1 x.2.1⟩
theorem c79_F (n:Nat) (a0:List (tI)) (a1:List (Int×Bool)×PUnit):c79.F n (a0,a1,())=slices_IndexFunc_api_Item n a0 a1:=rfl
theorem c79_ok:ConOK Tryz.prog 79 c79:=funE_ok TT_ok mixed Tryz.func79 (body:=b79) rfl rfl (by decide +kernel) (fun n=>opE_ok TT_ok OVS_ok NTS DFS MTS_ok (G:=G79 c47.F) (GOK.cons c47_ok (GOK.nil)) n) (H:=H79) fun n x y h=>(slices_IndexFunc_api_Item_eq n c47.F x).trans h
noncomputable def st45_0 (a1:List (Int×Bool)×PUnit) (u1_1:Int) (v0_2:Int) (u1_3:List (tI)):LS:=({ env:=[(nat_lit 0,vO (nat_lit 0)),(nat_lit 1,some (AV.sv false [CV.clo (nat_lit 47) [Cp.ip Ty.mset a1.fst (nat_lit 0)]])),(nat_lit 5,vI u1_1),(nat_lit 6,vI v0_2)],heap:=[(nat_lit 0,some (HV.row (nat_lit 60) kI u1_3))],next:=nat_lit 1,pins:=[] })
noncomputable def st45_1 (a1:List (Int×Bool)×PUnit) (v0_1:Int) (v0_2:Int) (v0_3:List (tI)):LS:=({ env:=[(nat_lit 0,vO (nat_lit 0)),(nat_lit 1,some (AV.sv false [CV.clo (nat_lit 47) [Cp.ip Ty.mset a1.fst (nat_lit 0)]])),(nat_lit 5,vI v0_1),(nat_lit 6,vI v0_2)],heap:=[(nat_lit 0,some (HV.row (nat_lit 60) kI v0_3))],next:=nat_lit 1,pins:=[] })
noncomputable def b45:Go.Code:=Tryz.f45.body.getD .skip
def H45:HL:=[(5,[0,1,5,6],[]),(1000006,[0,1,5,6],[])]
noncomputable def G45 (F79:CT c79) (F47:CT c47):List (Nat×Con):=[(79,⟨c79.ps,c79.rs,F79⟩),(47,⟨c47.ps,c47.rs,F47⟩)]
noncomputable def slices_DeleteFunc_api_Item_j1_step (n:Nat) (F79:CT c79) (F47:CT c47) (a1:List (Int×Bool)×PUnit) (v0_2:Int) (ih0:(Int)→(Int)→(List (tI))→Option (List (tI))) (u1_1:Int) (u1_3:List (tI)):Option (List (tI)) :=
 ih0 u1_1 (IntKind.i64.wrap (v0_2 + (1:Int))) u1_3
noncomputable def slices_DeleteFunc_api_Item_j1 (n:Nat) (F79:CT c79) (F47:CT c47) (a1:List (Int×Bool)×PUnit) (v0_2:Int) (ih0:(Int)→(Int)→(List (tI))→Option (List (tI))) (u1_1:Int) (u1_3:List (tI)):Option (List (tI)):=slices_DeleteFunc_api_Item_j1_step n F79 F47 a1 v0_2 ih0 u1_1 u1_3
noncomputable def slices_DeleteFunc_api_Item_l0_step (n:Nat) (F79:CT c79) (F47:CT c47) (h1:(List (Int×Bool)×PUnit)→(Int)→(Int)→(List (tI))→Option (List (tI))) (a1:List (Int×Bool)×PUnit) (ih0:(Int)→(Int)→(List (tI))→Option (List (tI))) (v0_1:Int) (v0_2:Int) (v0_3:List (tI)):Option (List (tI)) :=
 bif decide (v0_2 < (v0_3.length:Int)) then if (0:Int)≤v0_2∧v0_2 < (v0_3.length:Int) then Option.bind (α:=Bool) (F47 n (v0_3.getD v0_2.toNat ((0:Int),(0:Int),(0:Int),(0:Int)),a1.fst,())) fun r1↦bif !r1 then if (0:Int)≤v0_1∧v0_1 < (v0_3.length:Int) then h1 a1 v0_2 (IntKind.i64.wrap (v0_1 + (1:Int))) (v0_3.set v0_1.toNat (v0_3.getD v0_2.toNat ((0:Int),(0:Int),(0:Int),(0:Int)))) else none else h1 a1 v0_2 v0_1 v0_3 else none else if (0:Int)≤v0_1∧v0_1≤(v0_3.length:Int)∧(v0_3.length:Int)≤(v0_3.length:Int) then if (0:Int)≤(0:Int) + v0_1∧(0:Int)≤(v0_3.length:Int) - v0_1∧(0:Int) + v0_1 + ((v0_3.length:Int) - v0_1)≤(v0_3.length:Int) then if (0:Int)≤(0:Int)∧(0:Int)≤v0_1∧v0_1≤((splc v0_3 ((0:Int) + v0_1).toNat (List.replicate ((v0_3.length:Int) - v0_1).toNat ((0:Int),(0:Int),(0:Int),(0:Int)))).length:Int) then if (0:Int) + (0:Int)=(0:Int)∧(0:Int)≤v0_1 - (0:Int)∧v0_1 - (0:Int)≤((splc v0_3 ((0:Int) + v0_1).toNat (List.replicate ((v0_3.length:Int) - v0_1).toNat ((0:Int),(0:Int),(0:Int),(0:Int)))).length:Int) then some (List.take (v0_1 - (0:Int)).toNat (splc v0_3 ((0:Int) + v0_1).toNat (List.replicate ((v0_3.length:Int) - v0_1).toNat ((0:Int),(0:Int),(0:Int),(0:Int))))) else none else none else none else none
noncomputable def slices_DeleteFunc_api_Item_l0 (n:Nat) (F79:CT c79) (F47:CT c47) (a1:List (Int×Bool)×PUnit):Nat→(Int)→(Int)→(List (tI))→Option (List (tI))
 | 0,_,_,_=>none
 | m0 + 1,v0_1,v0_2,v0_3=>slices_DeleteFunc_api_Item_l0_step n F79 F47 (fun (_:List (Int×Bool)×PUnit) v0_2 u1_1 u1_3=>slices_DeleteFunc_api_Item_j1 n F79 F47 a1 v0_2 (slices_DeleteFunc_api_Item_l0 n F79 F47 a1 m0) u1_1 u1_3) a1 (slices_DeleteFunc_api_Item_l0 n F79 F47 a1 m0) v0_1 v0_2 v0_3
noncomputable def slices_DeleteFunc_api_Item_h (n:Nat) (F79:CT c79) (F47:CT c47) (h0:(List (Int×Bool)×PUnit)→Nat→(Int)→(Int)→(List (tI))→Option (List (tI))) (a0:List (tI)) (a1:List (Int×Bool)×PUnit):Option (List (tI)) :=
 Option.bind (α:=Int) (F79 n (a0,(a1.fst,()),())) fun r0↦bif r0 == (-1:Int) then some a0 else h0 a1 n r0 (IntKind.i64.wrap (r0 + (1:Int))) a0
noncomputable def slices_DeleteFunc_api_Item_g (n:Nat) (F79:CT c79) (F47:CT c47) (a0:List (tI)) (a1:List (Int×Bool)×PUnit):Option (List (tI)):=slices_DeleteFunc_api_Item_h n F79 F47 (fun a1 m v0_1 v0_2 v0_3=>slices_DeleteFunc_api_Item_l0 n F79 F47 a1 m v0_1 v0_2 v0_3) a0 a1
theorem slices_DeleteFunc_api_Item_j1_ok (n:Nat) (F79:CT c79) (F47:CT c47) (a1:List (Int×Bool)×PUnit) (v0_2:Int) (m0:Nat) (u1_1:Int) (u1_3:List (tI)):(jnR (codeE (opE TT OVS NTS DFS MTS (G45 F79 F47) n) Tryz.f45.ntmps H45 n (codeAt b45 [.r,.r,.r,.l,.r,.b,.loop m0,.r,.r])) (st45_0 a1 u1_1 v0_2 u1_3) (kAt (opE TT OVS NTS DFS MTS (G45 F79 F47) n) Tryz.f45.ntmps H45 n b45 [.r,.r,.r,.l,.r,.b,.loop m0,.r,.r] (kRet TT [(.own false (.vec 60 kI)),(.clo 47 [.mset])] [(false,.vec 60 kI)] Tryz.f45.results.toList)))=slices_DeleteFunc_api_Item_j1 n F79 F47 a1 v0_2 (fun v0_1 v0_2 v0_3=>(loopAt (opE TT OVS NTS DFS MTS (G45 F79 F47) n) Tryz.f45.ntmps H45 n b45 [.r,.r,.r,.l,.r,.b] (kRet TT [(.own false (.vec 60 kI)),(.clo 47 [.mset])] [(false,.vec 60 kI)] Tryz.f45.results.toList) m0 (st45_1 a1 v0_1 v0_2 v0_3))) u1_1 u1_3:=by
  refine Eq.trans (b:=slices_DeleteFunc_api_Item_j1_step n F79 F47 a1 v0_2 (fun v0_1 v0_2 v0_3=>(loopAt (opE TT OVS NTS DFS MTS (G45 F79 F47) n) Tryz.f45.ntmps H45 n b45 [.r,.r,.r,.l,.r,.b] (kRet TT [(.own false (.vec 60 kI)),(.clo 47 [.mset])] [(false,.vec 60 kI)] Tryz.f45.results.toList) m0 (st45_1 a1 v0_1 v0_2 v0_3))) u1_1 u1_3) (by kernel_rfl) ?_
  first | rfl | kernel_rfl
theorem slices_DeleteFunc_api_Item_l0_ok (n:Nat) (F79:CT c79) (F47:CT c47) (a1:List (Int×Bool)×PUnit):∀ (m0:Nat) (v0_1:Int) (v0_2:Int) (v0_3:List (tI)),(loopAt (opE TT OVS NTS DFS MTS (G45 F79 F47) n) Tryz.f45.ntmps H45 n b45 [.r,.r,.r,.l,.r,.b] (kRet TT [(.own false (.vec 60 kI)),(.clo 47 [.mset])] [(false,.vec 60 kI)] Tryz.f45.results.toList) m0 (st45_1 a1 v0_1 v0_2 v0_3))=slices_DeleteFunc_api_Item_l0 n F79 F47 a1 m0 v0_1 v0_2 v0_3:=by
 intro m0
 induction m0 with
 | zero=>intros; kernel_rfl
 | succ m0 ih =>
  intro v0_1 v0_2 v0_3
  refine Eq.trans (b:=slices_DeleteFunc_api_Item_l0_step n F79 F47 (fun (_:List (Int×Bool)×PUnit) v0_2 u1_1 u1_3=>(jnR (codeE (opE TT OVS NTS DFS MTS (G45 F79 F47) n) Tryz.f45.ntmps H45 n (codeAt b45 [.r,.r,.r,.l,.r,.b,.loop m0,.r,.r])) (st45_0 a1 u1_1 v0_2 u1_3) (kAt (opE TT OVS NTS DFS MTS (G45 F79 F47) n) Tryz.f45.ntmps H45 n b45 [.r,.r,.r,.l,.r,.b,.loop m0,.r,.r] (kRet TT [(.own false (.vec 60 kI)),(.clo 47 [.mset])] [(false,.vec 60 kI)] Tryz.f45.results.toList)))) a1 (fun v0_1 v0_2 v0_3=>(loopAt (opE TT OVS NTS DFS MTS (G45 F79 F47) n) Tryz.f45.ntmps H45 n b45 [.r,.r,.r,.l,.r,.b] (kRet TT [(.own false (.vec 60 kI)),(.clo 47 [.mset])] [(false,.vec 60 kI)] Tryz.f45.results.toList) m0 (st45_1 a1 v0_1 v0_2 v0_3))) v0_1 v0_2 v0_3) (by kernel_rfl) ?_
  try rw [show (fun (_:List (Int×Bool)×PUnit) v0_2 u1_1 u1_3=>(jnR (codeE (opE TT OVS NTS DFS MTS (G45 F79 F47) n) Tryz.f45.ntmps H45 n (codeAt b45 [.r,.r,.r,.l,.r,.b,.loop m0,.r,.r])) (st45_0 a1 u1_1 v0_2 u1_3) (kAt (opE TT OVS NTS DFS MTS (G45 F79 F47) n) Tryz.f45.ntmps H45 n b45 [.r,.r,.r,.l,.r,.b,.loop m0,.r,.r] (kRet TT [(.own false (.vec 60 kI)),(.clo 47 [.mset])] [(false,.vec 60 kI)] Tryz.f45.results.toList))))=(fun (_:List (Int×Bool)×PUnit) v0_2 u1_1 u1_3=>slices_DeleteFunc_api_Item_j1 n F79 F47 a1 v0_2 (fun v0_1 v0_2 v0_3=>(loopAt (opE TT OVS NTS DFS MTS (G45 F79 F47) n) Tryz.f45.ntmps H45 n b45 [.r,.r,.r,.l,.r,.b] (kRet TT [(.own false (.vec 60 kI)),(.clo 47 [.mset])] [(false,.vec 60 kI)] Tryz.f45.results.toList) m0 (st45_1 a1 v0_1 v0_2 v0_3))) u1_1 u1_3) from funext fun _=>funext fun v0_2=>funext fun u1_1=>funext fun u1_3=>slices_DeleteFunc_api_Item_j1_ok n F79 F47 a1 v0_2 m0 u1_1 u1_3]
  rw [show (fun v0_1 v0_2 v0_3=>(loopAt (opE TT OVS NTS DFS MTS (G45 F79 F47) n) Tryz.f45.ntmps H45 n b45 [.r,.r,.r,.l,.r,.b] (kRet TT [(.own false (.vec 60 kI)),(.clo 47 [.mset])] [(false,.vec 60 kI)] Tryz.f45.results.toList) m0 (st45_1 a1 v0_1 v0_2 v0_3)))=slices_DeleteFunc_api_Item_l0 n F79 F47 a1 m0 from funext fun v0_1=>funext fun v0_2=>funext fun v0_3=>ih v0_1 v0_2 v0_3]
  first | rfl | kernel_rfl
theorem slices_DeleteFunc_api_Item_eq (n:Nat) (F79:CT c79) (F47:CT c47) (x:DPs [(.own false (.vec 60 kI)),(.clo 47 [.mset])]):funE TT [(.own false (.vec 60 kI)),(.clo 47 [.mset])] [(false,.vec 60 kI)] (opE TT OVS NTS DFS MTS (G45 F79 F47) n) H45 Tryz.f45.ntmps Tryz.f45.results.toList b45 n x=slices_DeleteFunc_api_Item_g n F79 F47 x.1 x.2.1:=by
 refine Eq.trans (b:=slices_DeleteFunc_api_Item_h n F79 F47 (fun a1 m v0_1 v0_2 v0_3=>(loopAt (opE TT OVS NTS DFS MTS (G45 F79 F47) n) Tryz.f45.ntmps H45 n b45 [.r,.r,.r,.l,.r,.b] (kRet TT [(.own false (.vec 60 kI)),(.clo 47 [.mset])] [(false,.vec 60 kI)] Tryz.f45.results.toList) m (st45_1 a1 v0_1 v0_2 v0_3))) x.1 x.2.1) (by kernel_rfl) ?_
 try rw [show (fun a1 m v0_1 v0_2 v0_3=>(loopAt (opE TT OVS NTS DFS MTS (G45 F79 F47) n) Tryz.f45.ntmps H45 n b45 [.r,.r,.r,.l,.r,.b] (kRet TT [(.own false (.vec 60 kI)),(.clo 47 [.mset])] [(false,.vec 60 kI)] Tryz.f45.results.toList) m (st45_1 a1 v0_1 v0_2 v0_3)))=(fun a1 m v0_1 v0_2 v0_3=>slices_DeleteFunc_api_Item_l0 n F79 F47 a1 m v0_1 v0_2 v0_3) from funext fun a1=>funext fun m=>funext fun v0_1=>funext fun v0_2=>funext fun v0_3=>slices_DeleteFunc_api_Item_l0_ok n F79 F47 a1 m v0_1 v0_2 v0_3]
 first | rfl | kernel_rfl
noncomputable def slices_DeleteFunc_api_Item (n:Nat) (a0:List (tI)) (a1:List (Int×Bool)×PUnit):Option (List (tI)):=slices_DeleteFunc_api_Item_g n c79.F c47.F a0 a1
noncomputable def c45:Con:=⟨[(.own false (.vec 60 kI)),(.clo 47 [.mset])],[(false,.vec 60 kI)],fun n x=>slices_DeleteFunc_api_Item n x.1 x.2.1⟩
theorem c45_F (n:Nat) (a0:List (tI)) (a1:List (Int×Bool)×PUnit):c45.F n (a0,a1,())=slices_DeleteFunc_api_Item n a0 a1:=rfl
theorem c45_ok:ConOK Tryz.prog 45 c45:=funE_ok TT_ok mixed Tryz.func45 (body:=b45) rfl rfl (by decide +kernel) (fun n=>opE_ok TT_ok OVS_ok NTS DFS MTS_ok (G:=G45 c79.F c47.F) (GOK.cons c79_ok (GOK.cons c47_ok (GOK.nil))) n) (H:=H45) fun n x y h=>(slices_DeleteFunc_api_Item_eq n c79.F c47.F x).trans h
end Go.Proofs.YtohnakoineakdaaGreat
