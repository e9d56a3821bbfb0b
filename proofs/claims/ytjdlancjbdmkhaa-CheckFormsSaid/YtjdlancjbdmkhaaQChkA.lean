/- Functions of the program as plain Lean functions, printed by a program of our own. -/
import Derived.Test.YtjdlancjbdmkhaaQAb
namespace Go.Proofs.Ytjdlancjbdmkhaa
open Go.IntKind (i64 u64 u8)
noncomputable section
open Go Go.Ev
set_option maxRecDepth 100000
set_option linter.unusedVariables false
def b62:Go.Code:=Try.f62.body.getD .skip
def H62:HL:=[]
def G62:List (Nat×Con):=[]
def slices_Clone_api_Item_n (n:Nat) (a0:List (tI)):Option (List (tI)) :=
 bif !a0.isEmpty then if ((List.replicate (0:Nat) ((0:Int),(0:Int),(0:Int),(0:Int))).length + a0.length) * (32:Nat)≤(140737488355328:Nat)∧(0:Nat) < (32:Nat) then some (List.replicate (0:Nat) ((0:Int),(0:Int),(0:Int),(0:Int))++a0) else none else none
theorem slices_Clone_api_Item_n_eq (n:Nat) (x:DPs [(.val false (.seq 44 kI))]):funE TT [(.val false (.seq 44 kI))] [(false,.vec 44 kI)] (opE TT OVS NTS DFS MTS G62 n) H62 Try.f62.ntmps Try.f62.results.toList b62 n x=slices_Clone_api_Item_n n x.1:=by
 kernel_rfl
def slices_Clone_api_Item (n:Nat) (a0:List (tI)):Option (List (tI)):=bif a0.isEmpty then some [] else slices_Clone_api_Item_n n a0
theorem c62n_ok:ConOK Try.prog 62 ⟨[(.val false (.seq 44 kI))],[(false,.vec 44 kI)],fun n x=>slices_Clone_api_Item_n n x.1⟩:=funE_ok TT_ok mixed Try.func62 (body:=b62) rfl rfl (by decide +kernel) (fun n=>opE_ok TT_ok OVS_ok NTS DFS MTS_ok (G:=G62) (GOK.nil) n) (H:=H62) fun n x y h=>(slices_Clone_api_Item_n_eq n x).trans h
theorem slices_Clone_api_Item_z (n:Nat) (a:Option Addr) (c:Nat):funE TT [.slit] [(false,.vec 44 kI)] (opE TT OVS NTS DFS MTS G62 n) H62 Try.f62.ntmps Try.f62.results.toList b62 n ((a,c),())=some []:=by
 cases a <;> kernel_rfl
theorem c62z_ok:ConOK Try.prog 62 ⟨[.slit],[(false,.vec 44 kI)],fun _ _=>some []⟩:=funE_ok TT_ok mixed Try.func62 (body:=b62) rfl rfl (by decide +kernel) (fun n=>opE_ok TT_ok OVS_ok NTS DFS MTS_ok (G:=G62) (GOK.nil) n) (H:=H62) fun n x y h=>(slices_Clone_api_Item_z n x.1.1 x.1.2).trans h
def c62:Con:=⟨[(.val false (.seq 44 kI))],[(false,.vec 44 kI)],fun n x=>slices_Clone_api_Item n x.1⟩
theorem c62_ok:ConOK Try.prog 62 c62:=ConOK.split c62z_ok c62n_ok
def b56:Go.Code:=Try.f56.body.getD .skip
def H56:HL:=[]
def G56:List (Nat×Con):=[]
def acc_within (n:Nat) (a0:Int) (a1:Int):Option Bool :=
 bif decide (a0≥i64.wrap ((0:Int) - a1)) then some (decide (a0≤a1)) else some false
theorem acc_within_eq (n:Nat) (x:DPs [(.val false ki),(.val false ki)]):funE TT [(.val false ki),(.val false ki)] [(false,.val .bool)] (opE TT OVS NTS DFS MTS G56 n) H56 Try.f56.ntmps Try.f56.results.toList b56 n x=acc_within n x.1 x.2.1:=by
 kernel_rfl
def c56:Con:=⟨[(.val false ki),(.val false ki)],[(false,.val .bool)],fun n x=>acc_within n x.1 x.2.1⟩
theorem c56_ok:ConOK Try.prog 56 c56:=funE_ok TT_ok mixed Try.func56 (body:=b56) rfl rfl (by decide +kernel) (fun n=>opE_ok TT_ok OVS_ok NTS DFS MTS_ok (G:=G56) (GOK.nil) n) (H:=H56) fun n x y h=>(acc_within_eq n x).trans h
def st67_0 (a0:List Int) (v0_3:Int):LS:=({ env:=[(nat_lit 0,vS (nat_lit 3) ki a0),(nat_lit 8,vS (nat_lit 3) ki a0),(nat_lit 9,vI (a0.length:Int)),(nat_lit 10,vI v0_3)],heap:=nl (Nat×Option HV),next:=nat_lit 0,pins:=[] })
def b67:Go.Code:=Try.f67.body.getD .skip
def H67:HL:=[(4,[0,8,9,10],[])]
def G67 (F56:CT c56):List (Nat×Con):=[(56,⟨c56.ps,c56.rs,F56⟩)]
def acc_BoundsMay_l0_step (n:Nat) (F56:CT c56) (a0:List Int) (ih0:(Int)→Option Bool) (v0_3:Int):Option Bool :=
 bif decide (v0_3 < (a0.length:Int)) then if (0:Int)≤v0_3∧v0_3 < (a0.length:Int) then Option.bind (α:=Bool) (F56 n (a0.getD v0_3.toNat (0:Int),(1099511627776:Int),())) fun r0↦bif !r0 then some false else bif decide (v0_3 > (0:Int)) then if (0:Int)≤i64.wrap (v0_3 - (1:Int))∧i64.wrap (v0_3 - (1:Int)) < (a0.length:Int) then bif decide (a0.getD (i64.wrap (v0_3 - (1:Int))).toNat (0:Int)≥a0.getD v0_3.toNat (0:Int)) then some false else ih0 (i64.wrap (v0_3 + (1:Int))) else none else ih0 (i64.wrap (v0_3 + (1:Int))) else none else some true
def acc_BoundsMay_l0 (n:Nat) (F56:CT c56) (a0:List Int):Nat→(Int)→Option Bool
 | 0,_=>none
 | m0 + 1,v0_3=>acc_BoundsMay_l0_step n F56 a0 (acc_BoundsMay_l0 n F56 a0 m0) v0_3
def acc_BoundsMay_h (n:Nat) (F56:CT c56) (h0:(List Int)→Nat→(Int)→Option Bool) (a0:List Int):Option Bool :=
 bif decide ((a0.length:Int) > (8:Int)) then some false else h0 a0 n (0:Int)
def acc_BoundsMay_g (n:Nat) (F56:CT c56) (a0:List Int):Option Bool:=acc_BoundsMay_h n F56 (fun a0 m v0_3=>acc_BoundsMay_l0 n F56 a0 m v0_3) a0
theorem acc_BoundsMay_l0_ok (n:Nat) (F56:CT c56) (a0:List Int):∀ (m0:Nat) (v0_3:Int),(loopAt (opE TT OVS NTS DFS MTS (G67 F56) n) Try.f67.ntmps H67 n b67 [.r,.r,.l,.r,.b] (kRet TT [(.val false (.seq 3 ki))] [(false,.val .bool)] Try.f67.results.toList) m0 (st67_0 a0 v0_3))=acc_BoundsMay_l0 n F56 a0 m0 v0_3:=by
 intro m0
 induction m0 with
 | zero=>intros; kernel_rfl
 | succ m0 ih =>
  intro v0_3
  refine Eq.trans (b:=acc_BoundsMay_l0_step n F56 a0 (fun v0_3=>(loopAt (opE TT OVS NTS DFS MTS (G67 F56) n) Try.f67.ntmps H67 n b67 [.r,.r,.l,.r,.b] (kRet TT [(.val false (.seq 3 ki))] [(false,.val .bool)] Try.f67.results.toList) m0 (st67_0 a0 v0_3))) v0_3) (by kernel_rfl) ?_
  rw [show (fun v0_3=>(loopAt (opE TT OVS NTS DFS MTS (G67 F56) n) Try.f67.ntmps H67 n b67 [.r,.r,.l,.r,.b] (kRet TT [(.val false (.seq 3 ki))] [(false,.val .bool)] Try.f67.results.toList) m0 (st67_0 a0 v0_3)))=acc_BoundsMay_l0 n F56 a0 m0 from funext fun v0_3=>ih v0_3]
  first | rfl | kernel_rfl
theorem acc_BoundsMay_eq (n:Nat) (F56:CT c56) (x:DPs [(.val false (.seq 3 ki))]):funE TT [(.val false (.seq 3 ki))] [(false,.val .bool)] (opE TT OVS NTS DFS MTS (G67 F56) n) H67 Try.f67.ntmps Try.f67.results.toList b67 n x=acc_BoundsMay_g n F56 x.1:=by
 refine Eq.trans (b:=acc_BoundsMay_h n F56 (fun a0 m v0_3=>(loopAt (opE TT OVS NTS DFS MTS (G67 F56) n) Try.f67.ntmps H67 n b67 [.r,.r,.l,.r,.b] (kRet TT [(.val false (.seq 3 ki))] [(false,.val .bool)] Try.f67.results.toList) m (st67_0 a0 v0_3))) x.1) (by kernel_rfl) ?_
 try rw [show (fun a0 m v0_3=>(loopAt (opE TT OVS NTS DFS MTS (G67 F56) n) Try.f67.ntmps H67 n b67 [.r,.r,.l,.r,.b] (kRet TT [(.val false (.seq 3 ki))] [(false,.val .bool)] Try.f67.results.toList) m (st67_0 a0 v0_3)))=(fun a0 m v0_3=>acc_BoundsMay_l0 n F56 a0 m v0_3) from funext fun a0=>funext fun m=>funext fun v0_3=>acc_BoundsMay_l0_ok n F56 a0 m v0_3]
 first | rfl | kernel_rfl
def acc_BoundsMay (n:Nat) (a0:List Int):Option Bool:=acc_BoundsMay_g n c56.F a0
def c67:Con:=⟨[(.val false (.seq 3 ki))],[(false,.val .bool)],fun n x=>acc_BoundsMay n x.1⟩
theorem c67_ok:ConOK Try.prog 67 c67:=funE_ok TT_ok mixed Try.func67 (body:=b67) rfl rfl (by decide +kernel) (fun n=>opE_ok TT_ok OVS_ok NTS DFS MTS_ok (G:=G67 c56.F) (GOK.cons c56_ok (GOK.nil)) n) (H:=H67) fun n x y h=>(acc_BoundsMay_eq n c56.F x).trans h
def b42:Go.Code:=Try.f42.body.getD .skip
def H42:HL:=[]
def G42 (F56:CT c56):List (Nat×Con):=[(56,⟨c56.ps,c56.rs,F56⟩)]
def acc_ItemMay_g (n:Nat) (F56:CT c56) (a0:tI):Option Bool :=
 bif decide (a0.fst≥(0:Int)) then bif decide (a0.fst≤(1048575:Int)) then Option.bind (α:=Bool) (F56 n (a0.snd.fst,(1099511627776:Int),())) fun r0↦bif r0 then bif decide (a0.snd.snd.fst≥(1:Int)) then bif decide (a0.snd.snd.fst≤(1073741823:Int)) then Option.bind (α:=Bool) (F56 n (a0.snd.snd.snd,(1099511627776:Int),())) fun r1↦some r1 else some false else some false else some false else some false else some false
theorem acc_ItemMay_eq (n:Nat) (F56:CT c56) (x:DPs [(.val true kI)]):funE TT [(.val true kI)] [(false,.val .bool)] (opE TT OVS NTS DFS MTS (G42 F56) n) H42 Try.f42.ntmps Try.f42.results.toList b42 n x=acc_ItemMay_g n F56 x.1:=by
 kernel_rfl
def acc_ItemMay (n:Nat) (a0:tI):Option Bool:=acc_ItemMay_g n c56.F a0
def c42:Con:=⟨[(.val true kI)],[(false,.val .bool)],fun n x=>acc_ItemMay n x.1⟩
theorem c42_ok:ConOK Try.prog 42 c42:=funE_ok TT_ok mixed Try.func42 (body:=b42) rfl rfl (by decide +kernel) (fun n=>opE_ok TT_ok OVS_ok NTS DFS MTS_ok (G:=G42 c56.F) (GOK.cons c56_ok (GOK.nil)) n) (H:=H42) fun n x y h=>(acc_ItemMay_eq n c56.F x).trans h
def b81:Go.Code:=Try.f81.body.getD .skip
def H81:HL:=[]
def G81:List (Nat×Con):=[]
def cmp_isNaN_int (n:Nat) (a0:Int):Option Bool :=
 some (a0 != a0)
theorem cmp_isNaN_int_eq (n:Nat) (x:DPs [(.val false ki)]):funE TT [(.val false ki)] [(false,.val .bool)] (opE TT OVS NTS DFS MTS G81 n) H81 Try.f81.ntmps Try.f81.results.toList b81 n x=cmp_isNaN_int n x.1:=by
 kernel_rfl
def c81:Con:=⟨[(.val false ki)],[(false,.val .bool)],fun n x=>cmp_isNaN_int n x.1⟩
theorem c81_ok:ConOK Try.prog 81 c81:=funE_ok TT_ok mixed Try.func81 (body:=b81) rfl rfl (by decide +kernel) (fun n=>opE_ok TT_ok OVS_ok NTS DFS MTS_ok (G:=G81) (GOK.nil) n) (H:=H81) fun n x y h=>(cmp_isNaN_int_eq n x).trans h
def b73:Go.Code:=Try.f73.body.getD .skip
def H73:HL:=[]
def G73 (F81:CT c81):List (Nat×Con):=[(81,⟨c81.ps,c81.rs,F81⟩)]
def cmp_Compare_int_g (n:Nat) (F81:CT c81) (a0:Int) (a1:Int):Option Int :=
 Option.bind (α:=Bool) (F81 n (a0,())) fun r0↦Option.bind (α:=Bool) (F81 n (a1,())) fun r1↦bif r0 then bif r1 then some (0:Int) else some (-1:Int) else bif r1 then some (1:Int) else bif decide (a0 < a1) then some (-1:Int) else bif decide (a0 > a1) then some (1:Int) else some (0:Int)
theorem cmp_Compare_int_eq (n:Nat) (F81:CT c81) (x:DPs [(.val false ki),(.val false ki)]):funE TT [(.val false ki),(.val false ki)] [(false,.val ki)] (opE TT OVS NTS DFS MTS (G73 F81) n) H73 Try.f73.ntmps Try.f73.results.toList b73 n x=cmp_Compare_int_g n F81 x.1 x.2.1:=by
 kernel_rfl
def cmp_Compare_int (n:Nat) (a0:Int) (a1:Int):Option Int:=cmp_Compare_int_g n c81.F a0 a1
def c73:Con:=⟨[(.val false ki),(.val false ki)],[(false,.val ki)],fun n x=>cmp_Compare_int n x.1 x.2.1⟩
theorem c73_ok:ConOK Try.prog 73 c73:=funE_ok TT_ok mixed Try.func73 (body:=b73) rfl rfl (by decide +kernel) (fun n=>opE_ok TT_ok OVS_ok NTS DFS MTS_ok (G:=G73 c81.F) (GOK.cons c81_ok (GOK.nil)) n) (H:=H73) fun n x y h=>(cmp_Compare_int_eq n c81.F x).trans h
def st72_0 (a0:List Int) (v0_3:Int):LS:=({ env:=[(nat_lit 3,vI (0:Int)),(nat_lit 6,vS (nat_lit 3) ki a0),(nat_lit 7,vI (a0.length:Int)),(nat_lit 8,vI v0_3)],heap:=nl (Nat×Option HV),next:=nat_lit 0,pins:=[] })
def b72:Go.Code:=Try.f72.body.getD .skip
def H72:HL:=[(3,[3,6,7,8],[])]
def G72:List (Nat×Con):=[]
def cmp_Or_int_l0_step (n:Nat) (a0:List Int) (ih0:(Int)→Option Int) (v0_3:Int):Option Int :=
 bif decide (v0_3 < (a0.length:Int)) then if (0:Int)≤v0_3∧v0_3 < (a0.length:Int) then bif a0.getD v0_3.toNat (0:Int) != (0:Int) then some (a0.getD v0_3.toNat (0:Int)) else ih0 (i64.wrap (v0_3 + (1:Int))) else none else some (0:Int)
def cmp_Or_int_l0 (n:Nat) (a0:List Int):Nat→(Int)→Option Int
 | 0,_=>none
 | m0 + 1,v0_3=>cmp_Or_int_l0_step n a0 (cmp_Or_int_l0 n a0 m0) v0_3
def cmp_Or_int_h (n:Nat) (h0:(List Int)→Nat→(Int)→Option Int) (a0:List Int):Option Int :=
 h0 a0 n (0:Int)
def cmp_Or_int (n:Nat) (a0:List Int):Option Int:=cmp_Or_int_h n (fun a0 m v0_3=>cmp_Or_int_l0 n a0 m v0_3) a0
theorem cmp_Or_int_l0_ok (n:Nat) (a0:List Int):∀ (m0:Nat) (v0_3:Int),(loopAt (opE TT OVS NTS DFS MTS G72 n) Try.f72.ntmps H72 n b72 [.r,.r,.l,.r,.b] (kRet TT [(.val false (.seq 3 ki))] [(false,.val ki)] Try.f72.results.toList) m0 (st72_0 a0 v0_3))=cmp_Or_int_l0 n a0 m0 v0_3:=by
 intro m0
 induction m0 with
 | zero=>intros; kernel_rfl
 | succ m0 ih =>
  intro v0_3
  refine Eq.trans (b:=cmp_Or_int_l0_step n a0 (fun v0_3=>(loopAt (opE TT OVS NTS DFS MTS G72 n) Try.f72.ntmps H72 n b72 [.r,.r,.l,.r,.b] (kRet TT [(.val false (.seq 3 ki))] [(false,.val ki)] Try.f72.results.toList) m0 (st72_0 a0 v0_3))) v0_3) (by kernel_rfl) ?_
  rw [show (fun v0_3=>(loopAt (opE TT OVS NTS DFS MTS G72 n) Try.f72.ntmps H72 n b72 [.r,.r,.l,.r,.b] (kRet TT [(.val false (.seq 3 ki))] [(false,.val ki)] Try.f72.results.toList) m0 (st72_0 a0 v0_3)))=cmp_Or_int_l0 n a0 m0 from funext fun v0_3=>ih v0_3]
  first | rfl | kernel_rfl
theorem cmp_Or_int_eq (n:Nat) (x:DPs [(.val false (.seq 3 ki))]):funE TT [(.val false (.seq 3 ki))] [(false,.val ki)] (opE TT OVS NTS DFS MTS G72 n) H72 Try.f72.ntmps Try.f72.results.toList b72 n x=cmp_Or_int n x.1:=by
 refine Eq.trans (b:=cmp_Or_int_h n (fun a0 m v0_3=>(loopAt (opE TT OVS NTS DFS MTS G72 n) Try.f72.ntmps H72 n b72 [.r,.r,.l,.r,.b] (kRet TT [(.val false (.seq 3 ki))] [(false,.val ki)] Try.f72.results.toList) m (st72_0 a0 v0_3))) x.1) (by kernel_rfl) ?_
 try rw [show (fun a0 m v0_3=>(loopAt (opE TT OVS NTS DFS MTS G72 n) Try.f72.ntmps H72 n b72 [.r,.r,.l,.r,.b] (kRet TT [(.val false (.seq 3 ki))] [(false,.val ki)] Try.f72.results.toList) m (st72_0 a0 v0_3)))=(fun a0 m v0_3=>cmp_Or_int_l0 n a0 m v0_3) from funext fun a0=>funext fun m=>funext fun v0_3=>cmp_Or_int_l0_ok n a0 m v0_3]
 first | rfl | kernel_rfl
def c72:Con:=⟨[(.val false (.seq 3 ki))],[(false,.val ki)],fun n x=>cmp_Or_int n x.1⟩
theorem c72_ok:ConOK Try.prog 72 c72:=funE_ok TT_ok mixed Try.func72 (body:=b72) rfl rfl (by decide +kernel) (fun n=>opE_ok TT_ok OVS_ok NTS DFS MTS_ok (G:=G72) (GOK.nil) n) (H:=H72) fun n x y h=>(cmp_Or_int_eq n x).trans h
def b65:Go.Code:=Try.f65.body.getD .skip
def H65:HL:=[]
def G65 (F73:CT c73) (F72:CT c72):List (Nat×Con):=[(73,⟨c73.ps,c73.rs,F73⟩),(72,⟨c72.ps,c72.rs,F72⟩)]
def acc_Order_g (n:Nat) (F73:CT c73) (F72:CT c72) (a0:tI) (a1:tI):Option Int :=
 Option.bind (α:=Int) (F73 n (a0.snd.fst,a1.snd.fst,())) fun r0↦Option.bind (α:=Int) (F73 n (a0.snd.snd.fst,a1.snd.snd.fst,())) fun r1↦Option.bind (α:=Int) (F72 n (((List.replicate (2:Nat) (0:Int)).set (0:Nat) r0).set (1:Nat) r1,())) fun r2↦some r2
theorem acc_Order_eq (n:Nat) (F73:CT c73) (F72:CT c72) (x:DPs [(.val true kI),(.val true kI)]):funE TT [(.val true kI),(.val true kI)] [(false,.val ki)] (opE TT OVS NTS DFS MTS (G65 F73 F72) n) H65 Try.f65.ntmps Try.f65.results.toList b65 n x=acc_Order_g n F73 F72 x.1 x.2.1:=by
 kernel_rfl
def acc_Order (n:Nat) (a0:tI) (a1:tI):Option Int:=acc_Order_g n c73.F c72.F a0 a1
def c65:Con:=⟨[(.val true kI),(.val true kI)],[(false,.val ki)],fun n x=>acc_Order n x.1 x.2.1⟩
theorem c65_ok:ConOK Try.prog 65 c65:=funE_ok TT_ok mixed Try.func65 (body:=b65) rfl rfl (by decide +kernel) (fun n=>opE_ok TT_ok OVS_ok NTS DFS MTS_ok (G:=G65 c73.F c72.F) (GOK.cons c73_ok (GOK.cons c72_ok (GOK.nil))) n) (H:=H65) fun n x y h=>(acc_Order_eq n c73.F c72.F x).trans h
def b68:Go.Code:=Try.f68.body.getD .skip
def H68:HL:=[(3,[0,1],[])]
def G68:List (Nat×Con):=[]
def floor_Gcd_l0_step (n:Nat) (ih0:(Int)→(Int)→Option (Int×Int)) (v0_0:Int) (v0_1:Int):Option (Int×Int) :=
 bif decide (v0_1 > (0:Int)) then bif decide (v0_1 ≠ (0:Int)) then ih0 v0_1 (v0_0.tmod v0_1) else none else some (v0_0,(0:Int))
def floor_Gcd_l0 (n:Nat):Nat→(Int)→(Int)→Option (Int×Int)
 | 0,_,_=>none
 | m0 + 1,v0_0,v0_1=>floor_Gcd_l0_step n (floor_Gcd_l0 n m0) v0_0 v0_1
def floor_Gcd_h (n:Nat) (h0:Nat→(Int)→(Int)→Option (Int×Int)) (a0:Int) (a1:Int):Option (Int×Int) :=
 bif decide (a0 < (1:Int)) then some ((0:Int),(300:Int)) else bif decide (a1 < (1:Int)) then some ((0:Int),(300:Int)) else h0 n a0 a1
def floor_Gcd (n:Nat) (a0:Int) (a1:Int):Option (Int×Int):=floor_Gcd_h n (fun m v0_0 v0_1=>floor_Gcd_l0 n m v0_0 v0_1) a0 a1
theorem floor_Gcd_l0_ok (n:Nat):∀ (m0:Nat) (v0_0:Int) (v0_1:Int),(loopAt (opE TT OVS NTS DFS MTS G68 n) Try.f68.ntmps H68 n b68 [.r,.r,.l,.b] (kRet TT [(.val false ki),(.val false ki)] [(false,.val ki),(false,.val ki)] Try.f68.results.toList) m0 ({ env:=[(nat_lit 0,vI v0_0),(nat_lit 1,vI v0_1)],heap:=nl (Nat×Option HV),next:=nat_lit 0,pins:=[] }))=floor_Gcd_l0 n m0 v0_0 v0_1:=by
 intro m0
 induction m0 with
 | zero=>intros; kernel_rfl
 | succ m0 ih =>
  intro v0_0 v0_1
  refine Eq.trans (b:=floor_Gcd_l0_step n (fun v0_0 v0_1=>(loopAt (opE TT OVS NTS DFS MTS G68 n) Try.f68.ntmps H68 n b68 [.r,.r,.l,.b] (kRet TT [(.val false ki),(.val false ki)] [(false,.val ki),(false,.val ki)] Try.f68.results.toList) m0 ({ env:=[(nat_lit 0,vI v0_0),(nat_lit 1,vI v0_1)],heap:=nl (Nat×Option HV),next:=nat_lit 0,pins:=[] }))) v0_0 v0_1) (by kernel_rfl) ?_
  rw [show (fun v0_0 v0_1=>(loopAt (opE TT OVS NTS DFS MTS G68 n) Try.f68.ntmps H68 n b68 [.r,.r,.l,.b] (kRet TT [(.val false ki),(.val false ki)] [(false,.val ki),(false,.val ki)] Try.f68.results.toList) m0 ({ env:=[(nat_lit 0,vI v0_0),(nat_lit 1,vI v0_1)],heap:=nl (Nat×Option HV),next:=nat_lit 0,pins:=[] })))=floor_Gcd_l0 n m0 from funext fun v0_0=>funext fun v0_1=>ih v0_0 v0_1]
  first | rfl | kernel_rfl
theorem floor_Gcd_eq (n:Nat) (x:DPs [(.val false ki),(.val false ki)]):funE TT [(.val false ki),(.val false ki)] [(false,.val ki),(false,.val ki)] (opE TT OVS NTS DFS MTS G68 n) H68 Try.f68.ntmps Try.f68.results.toList b68 n x=floor_Gcd n x.1 x.2.1:=by
 refine Eq.trans (b:=floor_Gcd_h n (fun m v0_0 v0_1=>(loopAt (opE TT OVS NTS DFS MTS G68 n) Try.f68.ntmps H68 n b68 [.r,.r,.l,.b] (kRet TT [(.val false ki),(.val false ki)] [(false,.val ki),(false,.val ki)] Try.f68.results.toList) m ({ env:=[(nat_lit 0,vI v0_0),(nat_lit 1,vI v0_1)],heap:=nl (Nat×Option HV),next:=nat_lit 0,pins:=[] }))) x.1 x.2.1) (by kernel_rfl) ?_
 try rw [show (fun m v0_0 v0_1=>(loopAt (opE TT OVS NTS DFS MTS G68 n) Try.f68.ntmps H68 n b68 [.r,.r,.l,.b] (kRet TT [(.val false ki),(.val false ki)] [(false,.val ki),(false,.val ki)] Try.f68.results.toList) m ({ env:=[(nat_lit 0,vI v0_0),(nat_lit 1,vI v0_1)],heap:=nl (Nat×Option HV),next:=nat_lit 0,pins:=[] })))=(fun m v0_0 v0_1=>floor_Gcd_l0 n m v0_0 v0_1) from funext fun m=>funext fun v0_0=>funext fun v0_1=>floor_Gcd_l0_ok n m v0_0 v0_1]
 first | rfl | kernel_rfl
def c68:Con:=⟨[(.val false ki),(.val false ki)],[(false,.val ki),(false,.val ki)],fun n x=>floor_Gcd n x.1 x.2.1⟩
theorem c68_ok:ConOK Try.prog 68 c68:=funE_ok TT_ok mixed Try.func68 (body:=b68) rfl rfl (by decide +kernel) (fun n=>opE_ok TT_ok OVS_ok NTS DFS MTS_ok (G:=G68) (GOK.nil) n) (H:=H68) fun n x y h=>(floor_Gcd_eq n x).trans h
def b101:Go.Code:=Try.f101.body.getD .skip
def H101:HL:=[(1000006,[6],[])]
def G101:List (Nat×Con):=[]
def floor_Div_j0_step (n:Nat) (u0_0:Int):Option (Int×Int) :=
 some (u0_0,(0:Int))
def floor_Div_j0 (n:Nat) (u0_0:Int):Option (Int×Int):=floor_Div_j0_step n u0_0
def floor_Div_h (n:Nat) (h0:(Int)→Option (Int×Int)) (a0:Int) (a1:Int):Option (Int×Int) :=
 bif decide (a1 < (1:Int)) then some ((0:Int),(300:Int)) else bif decide (a1 ≠ (0:Int)) then bif decide (a1 ≠ (0:Int)) then bif decide (a0.tmod a1 < (0:Int)) then h0 (i64.wrap (i64.wrap (a0.tdiv a1) - (1:Int))) else h0 (i64.wrap (a0.tdiv a1)) else none else none
def floor_Div (n:Nat) (a0:Int) (a1:Int):Option (Int×Int):=floor_Div_h n (fun u0_0=>floor_Div_j0 n u0_0) a0 a1
theorem floor_Div_j0_ok (n:Nat) (u0_0:Int):(jnR (codeE (opE TT OVS NTS DFS MTS G101 n) Try.f101.ntmps H101 n (codeAt b101 [.r,.r,.r,.r])) ({ env:=[(nat_lit 6,vI u0_0)],heap:=nl (Nat×Option HV),next:=nat_lit 0,pins:=[] }) (kAt (opE TT OVS NTS DFS MTS G101 n) Try.f101.ntmps H101 n b101 [.r,.r,.r,.r] (kRet TT [(.val false ki),(.val false ki)] [(false,.val ki),(false,.val ki)] Try.f101.results.toList)))=floor_Div_j0 n u0_0:=by
  refine Eq.trans (b:=floor_Div_j0_step n u0_0) (by kernel_rfl) ?_
  first | rfl | kernel_rfl
theorem floor_Div_eq (n:Nat) (x:DPs [(.val false ki),(.val false ki)]):funE TT [(.val false ki),(.val false ki)] [(false,.val ki),(false,.val ki)] (opE TT OVS NTS DFS MTS G101 n) H101 Try.f101.ntmps Try.f101.results.toList b101 n x=floor_Div n x.1 x.2.1:=by
 refine Eq.trans (b:=floor_Div_h n (fun u0_0=>(jnR (codeE (opE TT OVS NTS DFS MTS G101 n) Try.f101.ntmps H101 n (codeAt b101 [.r,.r,.r,.r])) ({ env:=[(nat_lit 6,vI u0_0)],heap:=nl (Nat×Option HV),next:=nat_lit 0,pins:=[] }) (kAt (opE TT OVS NTS DFS MTS G101 n) Try.f101.ntmps H101 n b101 [.r,.r,.r,.r] (kRet TT [(.val false ki),(.val false ki)] [(false,.val ki),(false,.val ki)] Try.f101.results.toList)))) x.1 x.2.1) (by kernel_rfl) ?_
 try rw [show (fun u0_0=>(jnR (codeE (opE TT OVS NTS DFS MTS G101 n) Try.f101.ntmps H101 n (codeAt b101 [.r,.r,.r,.r])) ({ env:=[(nat_lit 6,vI u0_0)],heap:=nl (Nat×Option HV),next:=nat_lit 0,pins:=[] }) (kAt (opE TT OVS NTS DFS MTS G101 n) Try.f101.ntmps H101 n b101 [.r,.r,.r,.r] (kRet TT [(.val false ki),(.val false ki)] [(false,.val ki),(false,.val ki)] Try.f101.results.toList))))=(fun u0_0=>floor_Div_j0 n u0_0) from funext fun u0_0=>floor_Div_j0_ok n u0_0]
 first | rfl | kernel_rfl
def c101:Con:=⟨[(.val false ki),(.val false ki)],[(false,.val ki),(false,.val ki)],fun n x=>floor_Div n x.1 x.2.1⟩
theorem c101_ok:ConOK Try.prog 101 c101:=funE_ok TT_ok mixed Try.func101 (body:=b101) rfl rfl (by decide +kernel) (fun n=>opE_ok TT_ok OVS_ok NTS DFS MTS_ok (G:=G101) (GOK.nil) n) (H:=H101) fun n x y h=>(floor_Div_eq n x).trans h
def b82:Go.Code:=Try.f82.body.getD .skip
def H82:HL:=[]
def G82:List (Nat×Con):=[]
def window_TimeMay (n:Nat) (a0:Int):Option Bool :=
 bif decide (a0≥(-1099511627776:Int)) then some (decide (a0≤(1099511627776:Int))) else some false
theorem window_TimeMay_eq (n:Nat) (x:DPs [(.val false ki)]):funE TT [(.val false ki)] [(false,.val .bool)] (opE TT OVS NTS DFS MTS G82 n) H82 Try.f82.ntmps Try.f82.results.toList b82 n x=window_TimeMay n x.1:=by
 kernel_rfl
def c82:Con:=⟨[(.val false ki)],[(false,.val .bool)],fun n x=>window_TimeMay n x.1⟩
theorem c82_ok:ConOK Try.prog 82 c82:=funE_ok TT_ok mixed Try.func82 (body:=b82) rfl rfl (by decide +kernel) (fun n=>opE_ok TT_ok OVS_ok NTS DFS MTS_ok (G:=G82) (GOK.nil) n) (H:=H82) fun n x y h=>(window_TimeMay_eq n x).trans h
def b84:Go.Code:=Try.f84.body.getD .skip
def H84:HL:=[]
def G84:List (Nat×Con):=[]
def window_Step (n:Nat) (a0:tQ):Option Int :=
 bif a0.fst == (1:Int) then some a0.snd.snd.snd.fst else some a0.snd.snd.fst
theorem window_Step_eq (n:Nat) (x:DPs [(.iref kQ)]):funE TT [(.iref kQ)] [(false,.val ki)] (opE TT OVS NTS DFS MTS G84 n) H84 Try.f84.ntmps Try.f84.results.toList b84 n x=window_Step n x.1:=by
 kernel_rfl
def c84:Con:=⟨[(.iref kQ)],[(false,.val ki)],fun n x=>window_Step n x.1⟩
theorem c84_ok:ConOK Try.prog 84 c84:=funE_ok TT_ok mixed Try.func84 (body:=b84) rfl rfl (by decide +kernel) (fun n=>opE_ok TT_ok OVS_ok NTS DFS MTS_ok (G:=G84) (GOK.nil) n) (H:=H84) fun n x y h=>(window_Step_eq n x).trans h
def b95:Go.Code:=Try.f95.body.getD .skip
def H95:HL:=[]
def G95 (F84:CT c84) (F101:CT c101):List (Nat×Con):=[(84,⟨c84.ps,c84.rs,F84⟩),(101,⟨c101.ps,c101.rs,F101⟩)]
def window_LastOf_g (n:Nat) (F84:CT c84) (F101:CT c101) (a0:tQ) (a1:Int):Option Int :=
 Option.bind (α:=Int) (F84 n (a0,())) fun r0↦Option.bind (α:=Int×Int) (F101 n (a1,r0,())) fun r1↦Option.bind (α:=Int) (F84 n (a0,())) fun r2↦some (i64.wrap (r1.fst * r2))
theorem window_LastOf_eq (n:Nat) (F84:CT c84) (F101:CT c101) (x:DPs [(.iref kQ),(.val false ki)]):funE TT [(.iref kQ),(.val false ki)] [(false,.val ki)] (opE TT OVS NTS DFS MTS (G95 F84 F101) n) H95 Try.f95.ntmps Try.f95.results.toList b95 n x=window_LastOf_g n F84 F101 x.1 x.2.1:=by
 kernel_rfl
def window_LastOf (n:Nat) (a0:tQ) (a1:Int):Option Int:=window_LastOf_g n c84.F c101.F a0 a1
def c95:Con:=⟨[(.iref kQ),(.val false ki)],[(false,.val ki)],fun n x=>window_LastOf n x.1 x.2.1⟩
theorem c95_ok:ConOK Try.prog 95 c95:=funE_ok TT_ok mixed Try.func95 (body:=b95) rfl rfl (by decide +kernel) (fun n=>opE_ok TT_ok OVS_ok NTS DFS MTS_ok (G:=G95 c84.F c101.F) (GOK.cons c84_ok (GOK.cons c101_ok (GOK.nil))) n) (H:=H95) fun n x y h=>(window_LastOf_eq n c84.F c101.F x).trans h
def b83:Go.Code:=Try.f83.body.getD .skip
def H83:HL:=[]
def G83 (F95:CT c95) (F84:CT c84):List (Nat×Con):=[(95,⟨c95.ps,c95.rs,F95⟩),(84,⟨c84.ps,c84.rs,F84⟩)]
def window_FirstOf_g (n:Nat) (F95:CT c95) (F84:CT c84) (a0:tQ) (a1:Int):Option Int :=
 Option.bind (α:=Int) (F95 n (a0,i64.wrap (a1 - a0.snd.snd.fst),())) fun r0↦Option.bind (α:=Int) (F84 n (a0,())) fun r1↦some (i64.wrap (r0 + r1))
theorem window_FirstOf_eq (n:Nat) (F95:CT c95) (F84:CT c84) (x:DPs [(.iref kQ),(.val false ki)]):funE TT [(.iref kQ),(.val false ki)] [(false,.val ki)] (opE TT OVS NTS DFS MTS (G83 F95 F84) n) H83 Try.f83.ntmps Try.f83.results.toList b83 n x=window_FirstOf_g n F95 F84 x.1 x.2.1:=by
 kernel_rfl
def window_FirstOf (n:Nat) (a0:tQ) (a1:Int):Option Int:=window_FirstOf_g n c95.F c84.F a0 a1
def c83:Con:=⟨[(.iref kQ),(.val false ki)],[(false,.val ki)],fun n x=>window_FirstOf n x.1 x.2.1⟩
theorem c83_ok:ConOK Try.prog 83 c83:=funE_ok TT_ok mixed Try.func83 (body:=b83) rfl rfl (by decide +kernel) (fun n=>opE_ok TT_ok OVS_ok NTS DFS MTS_ok (G:=G83 c95.F c84.F) (GOK.cons c95_ok (GOK.cons c84_ok (GOK.nil))) n) (H:=H83) fun n x y h=>(window_FirstOf_eq n c95.F c84.F x).trans h
def b53:Go.Code:=Try.f53.body.getD .skip
def H53:HL:=[]
def G53 (F68:CT c68):List (Nat×Con):=[(68,⟨c68.ps,c68.rs,F68⟩)]
def window_sliding_g (n:Nat) (F68:CT c68) (a0:tQ):Option Bool :=
 bif decide (a0.snd.snd.snd.fst < (1:Int)) then some false else bif decide (a0.snd.snd.snd.fst > a0.snd.snd.fst) then some false else bif decide (a0.snd.snd.snd.fst ≠ (0:Int)) then bif decide (i64.wrap ((i64.wrap (a0.snd.snd.fst - (1:Int))).tdiv a0.snd.snd.snd.fst)≥(64:Int)) then some false else Option.bind (α:=Int×Int) (F68 n (a0.snd.snd.fst,a0.snd.snd.snd.fst,())) fun r0↦bif decide (r0.fst ≠ (0:Int)) then some (decide (i64.wrap (a0.snd.snd.fst.tdiv r0.fst)≤(256:Int))) else none else none
theorem window_sliding_eq (n:Nat) (F68:CT c68) (x:DPs [(.iref kQ)]):funE TT [(.iref kQ)] [(false,.val .bool)] (opE TT OVS NTS DFS MTS (G53 F68) n) H53 Try.f53.ntmps Try.f53.results.toList b53 n x=window_sliding_g n F68 x.1:=by
 kernel_rfl
def window_sliding (n:Nat) (a0:tQ):Option Bool:=window_sliding_g n c68.F a0
def c53:Con:=⟨[(.iref kQ)],[(false,.val .bool)],fun n x=>window_sliding n x.1⟩
theorem c53_ok:ConOK Try.prog 53 c53:=funE_ok TT_ok mixed Try.func53 (body:=b53) rfl rfl (by decide +kernel) (fun n=>opE_ok TT_ok OVS_ok NTS DFS MTS_ok (G:=G53 c68.F) (GOK.cons c68_ok (GOK.nil)) n) (H:=H53) fun n x y h=>(window_sliding_eq n c68.F x).trans h
def b52:Go.Code:=Try.f52.body.getD .skip
def H52:HL:=[]
def G52 (F67:CT c67):List (Nat×Con):=[(67,⟨c67.ps,c67.rs,F67⟩)]
def window_asks_g (n:Nat) (F67:CT c67) (a0:tQ):Option Bool :=
 bif decide (a0.snd.fst < (0:Int)) then some false else bif decide (a0.snd.fst > (7:Int)) then some false else bif a0.snd.fst != (7:Int) then bif a0.snd.snd.snd.snd.snd != (0:Int) then some false else bif decide (a0.snd.snd.snd.snd.snd < (0:Int)) then some false else bif decide (a0.snd.snd.snd.snd.snd > (1000:Int)) then some false else bif a0.snd.fst == (6:Int) then bif true == decide ((a0.snd.snd.snd.snd.fst.length:Int) > (0:Int)) then Option.bind (α:=Bool) (F67 n (a0.snd.snd.snd.snd.fst,())) fun r0↦some r0 else some false else bif (a0.snd.fst == (7:Int)) == decide ((a0.snd.snd.snd.snd.fst.length:Int) > (0:Int)) then Option.bind (α:=Bool) (F67 n (a0.snd.snd.snd.snd.fst,())) fun r1↦some r1 else some false else bif decide (a0.snd.snd.snd.snd.snd < (0:Int)) then some false else bif decide (a0.snd.snd.snd.snd.snd > (1000:Int)) then some false else bif a0.snd.fst == (6:Int) then bif true == decide ((a0.snd.snd.snd.snd.fst.length:Int) > (0:Int)) then Option.bind (α:=Bool) (F67 n (a0.snd.snd.snd.snd.fst,())) fun r2↦some r2 else some false else bif (a0.snd.fst == (7:Int)) == decide ((a0.snd.snd.snd.snd.fst.length:Int) > (0:Int)) then Option.bind (α:=Bool) (F67 n (a0.snd.snd.snd.snd.fst,())) fun r3↦some r3 else some false
theorem window_asks_eq (n:Nat) (F67:CT c67) (x:DPs [(.iref kQ)]):funE TT [(.iref kQ)] [(false,.val .bool)] (opE TT OVS NTS DFS MTS (G52 F67) n) H52 Try.f52.ntmps Try.f52.results.toList b52 n x=window_asks_g n F67 x.1:=by
 kernel_rfl
def window_asks (n:Nat) (a0:tQ):Option Bool:=window_asks_g n c67.F a0
def c52:Con:=⟨[(.iref kQ)],[(false,.val .bool)],fun n x=>window_asks n x.1⟩
theorem c52_ok:ConOK Try.prog 52 c52:=funE_ok TT_ok mixed Try.func52 (body:=b52) rfl rfl (by decide +kernel) (fun n=>opE_ok TT_ok OVS_ok NTS DFS MTS_ok (G:=G52 c67.F) (GOK.cons c67_ok (GOK.nil)) n) (H:=H52) fun n x y h=>(window_asks_eq n c67.F x).trans h
def st35_0 (u0_0:Bool) (a0:tQ):LS:=({ env:=[(nat_lit 1,vP (nat_lit 0) (nat_lit 0)),(nat_lit 20,vB u0_0)],heap:=[(nat_lit 0,hC ([cI a0.fst,cI a0.snd.fst,cI a0.snd.snd.fst,cI a0.snd.snd.snd.fst,CV.imm (nat_lit 3) ki a0.snd.snd.snd.snd.fst,cI a0.snd.snd.snd.snd.snd]))],next:=nat_lit 1,pins:=[] })
def b35:Go.Code:=Try.f35.body.getD .skip
def H35:HL:=[(1000008,[1,20],[])]
def G35 (F52:CT c52) (F53:CT c53):List (Nat×Con):=[(52,⟨c52.ps,c52.rs,F52⟩),(53,⟨c53.ps,c53.rs,F53⟩)]
def window_May_j0_step (n:Nat) (F52:CT c52) (F53:CT c53) (a0:tQ) (u0_0:Bool):Option Bool :=
 bif u0_0 then some (a0.snd.snd.snd.fst == (0:Int)) else some false
def window_May_j0 (n:Nat) (F52:CT c52) (F53:CT c53) (a0:tQ) (u0_0:Bool):Option Bool:=window_May_j0_step n F52 F53 a0 u0_0
def window_May_h (n:Nat) (F52:CT c52) (F53:CT c53) (h0:(tQ)→(Bool)→Option Bool) (a0:tQ):Option Bool :=
 bif decide (a0.snd.snd.fst < (1:Int)) then some false else bif decide (a0.snd.snd.fst > (1073741824:Int)) then some false else Option.bind (α:=Bool) (F52 n (a0,())) fun r0↦bif !r0 then some false else bif a0.fst == (1:Int) then Option.bind (α:=Bool) (F53 n (a0,())) fun r1↦some r1 else bif a0.fst == (0:Int) then h0 a0 (a0.fst == (0:Int)) else h0 a0 (a0.fst == (2:Int))
def window_May_g (n:Nat) (F52:CT c52) (F53:CT c53) (a0:tQ):Option Bool:=window_May_h n F52 F53 (fun a0 u0_0=>window_May_j0 n F52 F53 a0 u0_0) a0
theorem window_May_j0_ok (n:Nat) (F52:CT c52) (F53:CT c53) (a0:tQ) (u0_0:Bool):(jnR (codeE (opE TT OVS NTS DFS MTS (G35 F52 F53) n) Try.f35.ntmps H35 n (codeAt b35 [.r,.r,.l,.r,.b,.r,.r,.r])) (st35_0 u0_0 a0) (kAt (opE TT OVS NTS DFS MTS (G35 F52 F53) n) Try.f35.ntmps H35 n b35 [.r,.r,.l,.r,.b,.r,.r,.r] (kRet TT [(.val true kQ)] [(false,.val .bool)] Try.f35.results.toList)))=window_May_j0 n F52 F53 a0 u0_0:=by
  refine Eq.trans (b:=window_May_j0_step n F52 F53 a0 u0_0) (by kernel_rfl) ?_
  first | rfl | kernel_rfl
theorem window_May_eq (n:Nat) (F52:CT c52) (F53:CT c53) (x:DPs [(.val true kQ)]):funE TT [(.val true kQ)] [(false,.val .bool)] (opE TT OVS NTS DFS MTS (G35 F52 F53) n) H35 Try.f35.ntmps Try.f35.results.toList b35 n x=window_May_g n F52 F53 x.1:=by
 refine Eq.trans (b:=window_May_h n F52 F53 (fun a0 u0_0=>(jnR (codeE (opE TT OVS NTS DFS MTS (G35 F52 F53) n) Try.f35.ntmps H35 n (codeAt b35 [.r,.r,.l,.r,.b,.r,.r,.r])) (st35_0 u0_0 a0) (kAt (opE TT OVS NTS DFS MTS (G35 F52 F53) n) Try.f35.ntmps H35 n b35 [.r,.r,.l,.r,.b,.r,.r,.r] (kRet TT [(.val true kQ)] [(false,.val .bool)] Try.f35.results.toList)))) x.1) (by kernel_rfl) ?_
 try rw [show (fun a0 u0_0=>(jnR (codeE (opE TT OVS NTS DFS MTS (G35 F52 F53) n) Try.f35.ntmps H35 n (codeAt b35 [.r,.r,.l,.r,.b,.r,.r,.r])) (st35_0 u0_0 a0) (kAt (opE TT OVS NTS DFS MTS (G35 F52 F53) n) Try.f35.ntmps H35 n b35 [.r,.r,.l,.r,.b,.r,.r,.r] (kRet TT [(.val true kQ)] [(false,.val .bool)] Try.f35.results.toList))))=(fun a0 u0_0=>window_May_j0 n F52 F53 a0 u0_0) from funext fun a0=>funext fun u0_0=>window_May_j0_ok n F52 F53 a0 u0_0]
 first | rfl | kernel_rfl
def window_May (n:Nat) (a0:tQ):Option Bool:=window_May_g n c52.F c53.F a0
def c35:Con:=⟨[(.val true kQ)],[(false,.val .bool)],fun n x=>window_May n x.1⟩
theorem c35_ok:ConOK Try.prog 35 c35:=funE_ok TT_ok mixed Try.func35 (body:=b35) rfl rfl (by decide +kernel) (fun n=>opE_ok TT_ok OVS_ok NTS DFS MTS_ok (G:=G35 c52.F c53.F) (GOK.cons c52_ok (GOK.cons c53_ok (GOK.nil))) n) (H:=H35) fun n x y h=>(window_May_eq n c52.F c53.F x).trans h
def b38:Go.Code:=Try.f38.body.getD .skip
def H38:HL:=[]
def G38:List (Nat×Con):=[]
def admit_LeastMay (n:Nat) (a0:Int):Option Bool :=
 bif decide (a0≥(-4398046511104:Int)) then some (decide (a0≤(4398046511104:Int))) else some false
theorem admit_LeastMay_eq (n:Nat) (x:DPs [(.val false ki)]):funE TT [(.val false ki)] [(false,.val .bool)] (opE TT OVS NTS DFS MTS G38 n) H38 Try.f38.ntmps Try.f38.results.toList b38 n x=admit_LeastMay n x.1:=by
 kernel_rfl
def c38:Con:=⟨[(.val false ki)],[(false,.val .bool)],fun n x=>admit_LeastMay n x.1⟩
theorem c38_ok:ConOK Try.prog 38 c38:=funE_ok TT_ok mixed Try.func38 (body:=b38) rfl rfl (by decide +kernel) (fun n=>opE_ok TT_ok OVS_ok NTS DFS MTS_ok (G:=G38) (GOK.nil) n) (H:=H38) fun n x y h=>(admit_LeastMay_eq n x).trans h
def b69:Go.Code:=Try.f69.body.getD .skip
def H69:HL:=[]
def G69 (F38:CT c38):List (Nat×Con):=[(38,⟨c38.ps,c38.rs,F38⟩)]
def spec_may_1_g (n:Nat) (F38:CT c38) (a0:Int):Option Bool :=
 Option.bind (α:=Bool) (F38 n (a0,())) fun r0↦some !r0
theorem spec_may_1_eq (n:Nat) (F38:CT c38) (x:DPs [(.val false ki)]):funE TT [(.val false ki)] [(false,.val .bool)] (opE TT OVS NTS DFS MTS (G69 F38) n) H69 Try.f69.ntmps Try.f69.results.toList b69 n x=spec_may_1_g n F38 x.1:=by
 kernel_rfl
def spec_may_1 (n:Nat) (a0:Int):Option Bool:=spec_may_1_g n c38.F a0
def c69:Con:=⟨[(.val false ki)],[(false,.val .bool)],fun n x=>spec_may_1 n x.1⟩
theorem c69_ok:ConOK Try.prog 69 c69:=funE_ok TT_ok mixed Try.func69 (body:=b69) rfl rfl (by decide +kernel) (fun n=>opE_ok TT_ok OVS_ok NTS DFS MTS_ok (G:=G69 c38.F) (GOK.cons c38_ok (GOK.nil)) n) (H:=H69) fun n x y h=>(spec_may_1_eq n c38.F x).trans h
def b37:Go.Code:=Try.f37.body.getD .skip
def H37:HL:=[]
def G37 (F38:CT c38):List (Nat×Con):=[(38,⟨c38.ps,c38.rs,F38⟩)]
def check_marks_1_g (n:Nat) (F38:CT c38) (a0:Int):Option Bool :=
 Option.bind (α:=Bool) (F38 n (a0,())) fun r0↦some !r0
theorem check_marks_1_eq (n:Nat) (F38:CT c38) (x:DPs [(.val false ki)]):funE TT [(.val false ki)] [(false,.val .bool)] (opE TT OVS NTS DFS MTS (G37 F38) n) H37 Try.f37.ntmps Try.f37.results.toList b37 n x=check_marks_1_g n F38 x.1:=by
 kernel_rfl
def check_marks_1 (n:Nat) (a0:Int):Option Bool:=check_marks_1_g n c38.F a0
def c37:Con:=⟨[(.val false ki)],[(false,.val .bool)],fun n x=>check_marks_1 n x.1⟩
theorem c37_ok:ConOK Try.prog 37 c37:=funE_ok TT_ok mixed Try.func37 (body:=b37) rfl rfl (by decide +kernel) (fun n=>opE_ok TT_ok OVS_ok NTS DFS MTS_ok (G:=G37 c38.F) (GOK.cons c38_ok (GOK.nil)) n) (H:=H37) fun n x y h=>(check_marks_1_eq n c38.F x).trans h
def st75_0 (a1:Int) (v0_1:Int) (a0:tQ) (v0_8:List (Int×Int)):LS:=({ env:=[(nat_lit 1,vI a1),(nat_lit 2,vP (nat_lit 0) (nat_lit 0)),(nat_lit 6,vO (nat_lit 1)),(nat_lit 7,vI v0_1)],heap:=[(nat_lit 0,hC ([cI a0.fst,cI a0.snd.fst,cI a0.snd.snd.fst,cI a0.snd.snd.snd.fst,CV.imm (nat_lit 3) ki a0.snd.snd.snd.snd.fst,cI a0.snd.snd.snd.snd.snd])),(nat_lit 1,some (HV.row (nat_lit 103) (ki.pair ki) v0_8))],next:=nat_lit 2,pins:=[] })
def b75:Go.Code:=Try.f75.body.getD .skip
def H75:HL:=[(5,[1,2,6,7],[⟨6,false,0,103,ki.pair ki,false,false⟩])]
def G75 (F35:CT c35) (F82:CT c82) (F83:CT c83) (F84:CT c84):List (Nat×Con):=[(35,⟨c35.ps,c35.rs,F35⟩),(82,⟨c82.ps,c82.rs,F82⟩),(83,⟨c83.ps,c83.rs,F83⟩),(84,⟨c84.ps,c84.rs,F84⟩)]
def window_Of_l0_step (n:Nat) (F35:CT c35) (F82:CT c82) (F83:CT c83) (F84:CT c84) (a0:tQ) (a1:Int) (ih0:(Int)→(List (Int×Int))→Option (List (Int×Int)×Int)) (v0_1:Int) (v0_8:List (Int×Int)):Option (List (Int×Int)×Int) :=
 bif decide (v0_1≤a1) then if (v0_8.length + ((List.replicate (1:Nat) ((0:Int),(0:Int))).set (0:Nat) (v0_1,i64.wrap (v0_1 + a0.snd.snd.fst))).length) * (16:Nat)≤(140737488355328:Nat)∧(0:Nat) < (16:Nat) then Option.bind (α:=Int) (F84 n (a0,())) fun r3↦ih0 (i64.wrap (v0_1 + r3)) (v0_8++(List.replicate (1:Nat) ((0:Int),(0:Int))).set (0:Nat) (v0_1,i64.wrap (v0_1 + a0.snd.snd.fst))) else none else some (v0_8,(0:Int))
def window_Of_l0 (n:Nat) (F35:CT c35) (F82:CT c82) (F83:CT c83) (F84:CT c84) (a0:tQ) (a1:Int):Nat→(Int)→(List (Int×Int))→Option (List (Int×Int)×Int)
 | 0,_,_=>none
 | m0 + 1,v0_1,v0_8=>window_Of_l0_step n F35 F82 F83 F84 a0 a1 (window_Of_l0 n F35 F82 F83 F84 a0 a1 m0) v0_1 v0_8
def window_Of_h (n:Nat) (F35:CT c35) (F82:CT c82) (F83:CT c83) (F84:CT c84) (h0:(tQ)→(Int)→Nat→(Int)→(List (Int×Int))→Option (List (Int×Int)×Int)) (a0:tQ) (a1:Int):Option (List (Int×Int)×Int) :=
 Option.bind (α:=Bool) (F35 n (a0,())) fun r0↦bif !r0 then some (nl (Int×Int),(400:Int)) else bif a0.fst == (2:Int) then some (nl (Int×Int),(400:Int)) else Option.bind (α:=Bool) (F82 n (a1,())) fun r1↦bif !r1 then some (nl (Int×Int),(400:Int)) else Option.bind (α:=Int) (F83 n (a0,a1,())) fun r2↦h0 a0 a1 n r2 (nl (Int×Int))
def window_Of_g (n:Nat) (F35:CT c35) (F82:CT c82) (F83:CT c83) (F84:CT c84) (a0:tQ) (a1:Int):Option (List (Int×Int)×Int):=window_Of_h n F35 F82 F83 F84 (fun a0 a1 m v0_1 v0_8=>window_Of_l0 n F35 F82 F83 F84 a0 a1 m v0_1 v0_8) a0 a1
theorem window_Of_l0_ok (n:Nat) (F35:CT c35) (F82:CT c82) (F83:CT c83) (F84:CT c84) (a0:tQ) (a1:Int):∀ (m0:Nat) (v0_1:Int) (v0_8:List (Int×Int)),(loopAt (opE TT OVS NTS DFS MTS (G75 F35 F82 F83 F84) n) Try.f75.ntmps H75 n b75 [.r,.r,.r,.l,.r,.b] (kRet TT [(.val true kQ),(.val false ki)] [(false,.vec 103 (.pair ki ki)),(false,.val ki)] Try.f75.results.toList) m0 (st75_0 a1 v0_1 a0 v0_8))=window_Of_l0 n F35 F82 F83 F84 a0 a1 m0 v0_1 v0_8:=by
 intro m0
 induction m0 with
 | zero=>intros; kernel_rfl
 | succ m0 ih =>
  intro v0_1 v0_8
  refine Eq.trans (b:=window_Of_l0_step n F35 F82 F83 F84 a0 a1 (fun v0_1 v0_8=>(loopAt (opE TT OVS NTS DFS MTS (G75 F35 F82 F83 F84) n) Try.f75.ntmps H75 n b75 [.r,.r,.r,.l,.r,.b] (kRet TT [(.val true kQ),(.val false ki)] [(false,.vec 103 (.pair ki ki)),(false,.val ki)] Try.f75.results.toList) m0 (st75_0 a1 v0_1 a0 v0_8))) v0_1 v0_8) (by kernel_rfl) ?_
  rw [show (fun v0_1 v0_8=>(loopAt (opE TT OVS NTS DFS MTS (G75 F35 F82 F83 F84) n) Try.f75.ntmps H75 n b75 [.r,.r,.r,.l,.r,.b] (kRet TT [(.val true kQ),(.val false ki)] [(false,.vec 103 (.pair ki ki)),(false,.val ki)] Try.f75.results.toList) m0 (st75_0 a1 v0_1 a0 v0_8)))=window_Of_l0 n F35 F82 F83 F84 a0 a1 m0 from funext fun v0_1=>funext fun v0_8=>ih v0_1 v0_8]
  first | rfl | kernel_rfl
theorem window_Of_eq (n:Nat) (F35:CT c35) (F82:CT c82) (F83:CT c83) (F84:CT c84) (x:DPs [(.val true kQ),(.val false ki)]):funE TT [(.val true kQ),(.val false ki)] [(false,.vec 103 (.pair ki ki)),(false,.val ki)] (opE TT OVS NTS DFS MTS (G75 F35 F82 F83 F84) n) H75 Try.f75.ntmps Try.f75.results.toList b75 n x=window_Of_g n F35 F82 F83 F84 x.1 x.2.1:=by
 refine Eq.trans (b:=window_Of_h n F35 F82 F83 F84 (fun a0 a1 m v0_1 v0_8=>(loopAt (opE TT OVS NTS DFS MTS (G75 F35 F82 F83 F84) n) Try.f75.ntmps H75 n b75 [.r,.r,.r,.l,.r,.b] (kRet TT [(.val true kQ),(.val false ki)] [(false,.vec 103 (.pair ki ki)),(false,.val ki)] Try.f75.results.toList) m (st75_0 a1 v0_1 a0 v0_8))) x.1 x.2.1) (by kernel_rfl) ?_
 try rw [show (fun a0 a1 m v0_1 v0_8=>(loopAt (opE TT OVS NTS DFS MTS (G75 F35 F82 F83 F84) n) Try.f75.ntmps H75 n b75 [.r,.r,.r,.l,.r,.b] (kRet TT [(.val true kQ),(.val false ki)] [(false,.vec 103 (.pair ki ki)),(false,.val ki)] Try.f75.results.toList) m (st75_0 a1 v0_1 a0 v0_8)))=(fun a0 a1 m v0_1 v0_8=>window_Of_l0 n F35 F82 F83 F84 a0 a1 m v0_1 v0_8) from funext fun a0=>funext fun a1=>funext fun m=>funext fun v0_1=>funext fun v0_8=>window_Of_l0_ok n F35 F82 F83 F84 a0 a1 m v0_1 v0_8]
 first | rfl | kernel_rfl
def window_Of (n:Nat) (a0:tQ) (a1:Int):Option (List (Int×Int)×Int):=window_Of_g n c35.F c82.F c83.F c84.F a0 a1
def c75:Con:=⟨[(.val true kQ),(.val false ki)],[(false,.vec 103 (.pair ki ki)),(false,.val ki)],fun n x=>window_Of n x.1 x.2.1⟩
theorem c75_ok:ConOK Try.prog 75 c75:=funE_ok TT_ok mixed Try.func75 (body:=b75) rfl rfl (by decide +kernel) (fun n=>opE_ok TT_ok OVS_ok NTS DFS MTS_ok (G:=G75 c35.F c82.F c83.F c84.F) (GOK.cons c35_ok (GOK.cons c82_ok (GOK.cons c83_ok (GOK.cons c84_ok (GOK.nil))))) n) (H:=H75) fun n x y h=>(window_Of_eq n c35.F c82.F c83.F c84.F x).trans h
def st54_0 (a0:List Int) (v0_2:Int):LS:=({ env:=[(nat_lit 0,vS (nat_lit 3) ki a0),(nat_lit 1,some (AV.sv false [CV.clo (nat_lit 69) []])),(nat_lit 7,vI (a0.length:Int)),(nat_lit 8,vI v0_2)],heap:=nl (Nat×Option HV),next:=nat_lit 0,pins:=[] })
def b54:Go.Code:=Try.f54.body.getD .skip
def H54:HL:=[(2,[0,1,7,8],[])]
def G54 (F69:CT c69):List (Nat×Con):=[(69,⟨c69.ps,c69.rs,F69⟩)]
def slices_IndexFunc_int_int_l0_step (n:Nat) (F69:CT c69) (a0:List Int) (ih0:(Int)→Option Int) (v0_2:Int):Option Int :=
 bif decide (v0_2 < (a0.length:Int)) then if (0:Int)≤v0_2∧v0_2 < (a0.length:Int) then Option.bind (α:=Bool) (F69 n (a0.getD v0_2.toNat (0:Int),())) fun r0↦bif r0 then some v0_2 else ih0 (i64.wrap (v0_2 + (1:Int))) else none else some (-1:Int)
def slices_IndexFunc_int_int_l0 (n:Nat) (F69:CT c69) (a0:List Int):Nat→(Int)→Option Int
 | 0,_=>none
 | m0 + 1,v0_2=>slices_IndexFunc_int_int_l0_step n F69 a0 (slices_IndexFunc_int_int_l0 n F69 a0 m0) v0_2
def slices_IndexFunc_int_int_h (n:Nat) (F69:CT c69) (h0:(List Int)→Nat→(Int)→Option Int) (a0:List Int) (a1:PUnit):Option Int :=
 h0 a0 n (0:Int)
def slices_IndexFunc_int_int_g (n:Nat) (F69:CT c69) (a0:List Int) (a1:PUnit):Option Int:=slices_IndexFunc_int_int_h n F69 (fun a0 m v0_2=>slices_IndexFunc_int_int_l0 n F69 a0 m v0_2) a0 a1
theorem slices_IndexFunc_int_int_l0_ok (n:Nat) (F69:CT c69) (a0:List Int):∀ (m0:Nat) (v0_2:Int),(loopAt (opE TT OVS NTS DFS MTS (G54 F69) n) Try.f54.ntmps H54 n b54 [.r,.l,.r,.b] (kRet TT [(.val false (.seq 3 ki)),(.clo 69 [])] [(false,.val ki)] Try.f54.results.toList) m0 (st54_0 a0 v0_2))=slices_IndexFunc_int_int_l0 n F69 a0 m0 v0_2:=by
 intro m0
 induction m0 with
 | zero=>intros; kernel_rfl
 | succ m0 ih =>
  intro v0_2
  refine Eq.trans (b:=slices_IndexFunc_int_int_l0_step n F69 a0 (fun v0_2=>(loopAt (opE TT OVS NTS DFS MTS (G54 F69) n) Try.f54.ntmps H54 n b54 [.r,.l,.r,.b] (kRet TT [(.val false (.seq 3 ki)),(.clo 69 [])] [(false,.val ki)] Try.f54.results.toList) m0 (st54_0 a0 v0_2))) v0_2) (by kernel_rfl) ?_
  rw [show (fun v0_2=>(loopAt (opE TT OVS NTS DFS MTS (G54 F69) n) Try.f54.ntmps H54 n b54 [.r,.l,.r,.b] (kRet TT [(.val false (.seq 3 ki)),(.clo 69 [])] [(false,.val ki)] Try.f54.results.toList) m0 (st54_0 a0 v0_2)))=slices_IndexFunc_int_int_l0 n F69 a0 m0 from funext fun v0_2=>ih v0_2]
  first | rfl | kernel_rfl
theorem slices_IndexFunc_int_int_eq (n:Nat) (F69:CT c69) (x:DPs [(.val false (.seq 3 ki)),(.clo 69 [])]):funE TT [(.val false (.seq 3 ki)),(.clo 69 [])] [(false,.val ki)] (opE TT OVS NTS DFS MTS (G54 F69) n) H54 Try.f54.ntmps Try.f54.results.toList b54 n x=slices_IndexFunc_int_int_g n F69 x.1 x.2.1:=by
 refine Eq.trans (b:=slices_IndexFunc_int_int_h n F69 (fun a0 m v0_2=>(loopAt (opE TT OVS NTS DFS MTS (G54 F69) n) Try.f54.ntmps H54 n b54 [.r,.l,.r,.b] (kRet TT [(.val false (.seq 3 ki)),(.clo 69 [])] [(false,.val ki)] Try.f54.results.toList) m (st54_0 a0 v0_2))) x.1 x.2.1) (by kernel_rfl) ?_
 try rw [show (fun a0 m v0_2=>(loopAt (opE TT OVS NTS DFS MTS (G54 F69) n) Try.f54.ntmps H54 n b54 [.r,.l,.r,.b] (kRet TT [(.val false (.seq 3 ki)),(.clo 69 [])] [(false,.val ki)] Try.f54.results.toList) m (st54_0 a0 v0_2)))=(fun a0 m v0_2=>slices_IndexFunc_int_int_l0 n F69 a0 m v0_2) from funext fun a0=>funext fun m=>funext fun v0_2=>slices_IndexFunc_int_int_l0_ok n F69 a0 m v0_2]
 first | rfl | kernel_rfl
def slices_IndexFunc_int_int (n:Nat) (a0:List Int) (a1:PUnit):Option Int:=slices_IndexFunc_int_int_g n c69.F a0 a1
def c54:Con:=⟨[(.val false (.seq 3 ki)),(.clo 69 [])],[(false,.val ki)],fun n x=>slices_IndexFunc_int_int n x.1 x.2.1⟩
theorem c54_ok:ConOK Try.prog 54 c54:=funE_ok TT_ok mixed Try.func54 (body:=b54) rfl rfl (by decide +kernel) (fun n=>opE_ok TT_ok OVS_ok NTS DFS MTS_ok (G:=G54 c69.F) (GOK.cons c69_ok (GOK.nil)) n) (H:=H54) fun n x y h=>(slices_IndexFunc_int_int_eq n c69.F x).trans h
def b39:Go.Code:=Try.f39.body.getD .skip
def H39:HL:=[]
def G39 (F54:CT c54) (F69:CT c69):List (Nat×Con):=[(54,⟨c54.ps,c54.rs,F54⟩),(69,⟨c69.ps,c69.rs,F69⟩)]
def slices_ContainsFunc_int_int_g (n:Nat) (F54:CT c54) (F69:CT c69) (a0:List Int) (a1:PUnit):Option Bool :=
 Option.bind (α:=Int) (F54 n (a0,(),())) fun r0↦some (decide (r0≥(0:Int)))
theorem slices_ContainsFunc_int_int_eq (n:Nat) (F54:CT c54) (F69:CT c69) (x:DPs [(.val false (.seq 3 ki)),(.clo 69 [])]):funE TT [(.val false (.seq 3 ki)),(.clo 69 [])] [(false,.val .bool)] (opE TT OVS NTS DFS MTS (G39 F54 F69) n) H39 Try.f39.ntmps Try.f39.results.toList b39 n x=slices_ContainsFunc_int_int_g n F54 F69 x.1 x.2.1:=by
 kernel_rfl
def slices_ContainsFunc_int_int (n:Nat) (a0:List Int) (a1:PUnit):Option Bool:=slices_ContainsFunc_int_int_g n c54.F c69.F a0 a1
def c39:Con:=⟨[(.val false (.seq 3 ki)),(.clo 69 [])],[(false,.val .bool)],fun n x=>slices_ContainsFunc_int_int n x.1 x.2.1⟩
theorem c39_ok:ConOK Try.prog 39 c39:=funE_ok TT_ok mixed Try.func39 (body:=b39) rfl rfl (by decide +kernel) (fun n=>opE_ok TT_ok OVS_ok NTS DFS MTS_ok (G:=G39 c54.F c69.F) (GOK.cons c54_ok (GOK.cons c69_ok (GOK.nil))) n) (H:=H39) fun n x y h=>(slices_ContainsFunc_int_int_eq n c54.F c69.F x).trans h
def st54m_0 (a0:List Int) (v0_2:Int):LS:=({ env:=[(nat_lit 0,vS (nat_lit 3) ki a0),(nat_lit 1,some (AV.sv false [CV.clo (nat_lit 37) []])),(nat_lit 7,vI (a0.length:Int)),(nat_lit 8,vI v0_2)],heap:=nl (Nat×Option HV),next:=nat_lit 0,pins:=[] })
def b54m:Go.Code:=Try.f54.body.getD .skip
def H54m:HL:=[(2,[0,1,7,8],[])]
def G54m (F37:CT c37):List (Nat×Con):=[(37,⟨c37.ps,c37.rs,F37⟩)]
def slices_IndexFunc_int_int_m_l0_step (n:Nat) (F37:CT c37) (a0:List Int) (ih0:(Int)→Option Int) (v0_2:Int):Option Int :=
 bif decide (v0_2 < (a0.length:Int)) then if (0:Int)≤v0_2∧v0_2 < (a0.length:Int) then Option.bind (α:=Bool) (F37 n (a0.getD v0_2.toNat (0:Int),())) fun r0↦bif r0 then some v0_2 else ih0 (i64.wrap (v0_2 + (1:Int))) else none else some (-1:Int)
def slices_IndexFunc_int_int_m_l0 (n:Nat) (F37:CT c37) (a0:List Int):Nat→(Int)→Option Int
 | 0,_=>none
 | m0 + 1,v0_2=>slices_IndexFunc_int_int_m_l0_step n F37 a0 (slices_IndexFunc_int_int_m_l0 n F37 a0 m0) v0_2
def slices_IndexFunc_int_int_m_h (n:Nat) (F37:CT c37) (h0:(List Int)→Nat→(Int)→Option Int) (a0:List Int) (a1:PUnit):Option Int :=
 h0 a0 n (0:Int)
def slices_IndexFunc_int_int_m_g (n:Nat) (F37:CT c37) (a0:List Int) (a1:PUnit):Option Int:=slices_IndexFunc_int_int_m_h n F37 (fun a0 m v0_2=>slices_IndexFunc_int_int_m_l0 n F37 a0 m v0_2) a0 a1
theorem slices_IndexFunc_int_int_m_l0_ok (n:Nat) (F37:CT c37) (a0:List Int):∀ (m0:Nat) (v0_2:Int),(loopAt (opE TT OVS NTS DFS MTS (G54m F37) n) Try.f54.ntmps H54m n b54m [.r,.l,.r,.b] (kRet TT [(.val false (.seq 3 ki)),(.clo 37 [])] [(false,.val ki)] Try.f54.results.toList) m0 (st54m_0 a0 v0_2))=slices_IndexFunc_int_int_m_l0 n F37 a0 m0 v0_2:=by
 intro m0
 induction m0 with
 | zero=>intros; kernel_rfl
 | succ m0 ih =>
  intro v0_2
  refine Eq.trans (b:=slices_IndexFunc_int_int_m_l0_step n F37 a0 (fun v0_2=>(loopAt (opE TT OVS NTS DFS MTS (G54m F37) n) Try.f54.ntmps H54m n b54m [.r,.l,.r,.b] (kRet TT [(.val false (.seq 3 ki)),(.clo 37 [])] [(false,.val ki)] Try.f54.results.toList) m0 (st54m_0 a0 v0_2))) v0_2) (by kernel_rfl) ?_
  rw [show (fun v0_2=>(loopAt (opE TT OVS NTS DFS MTS (G54m F37) n) Try.f54.ntmps H54m n b54m [.r,.l,.r,.b] (kRet TT [(.val false (.seq 3 ki)),(.clo 37 [])] [(false,.val ki)] Try.f54.results.toList) m0 (st54m_0 a0 v0_2)))=slices_IndexFunc_int_int_m_l0 n F37 a0 m0 from funext fun v0_2=>ih v0_2]
  first | rfl | kernel_rfl
theorem slices_IndexFunc_int_int_m_eq (n:Nat) (F37:CT c37) (x:DPs [(.val false (.seq 3 ki)),(.clo 37 [])]):funE TT [(.val false (.seq 3 ki)),(.clo 37 [])] [(false,.val ki)] (opE TT OVS NTS DFS MTS (G54m F37) n) H54m Try.f54.ntmps Try.f54.results.toList b54m n x=slices_IndexFunc_int_int_m_g n F37 x.1 x.2.1:=by
 refine Eq.trans (b:=slices_IndexFunc_int_int_m_h n F37 (fun a0 m v0_2=>(loopAt (opE TT OVS NTS DFS MTS (G54m F37) n) Try.f54.ntmps H54m n b54m [.r,.l,.r,.b] (kRet TT [(.val false (.seq 3 ki)),(.clo 37 [])] [(false,.val ki)] Try.f54.results.toList) m (st54m_0 a0 v0_2))) x.1 x.2.1) (by kernel_rfl) ?_
 try rw [show (fun a0 m v0_2=>(loopAt (opE TT OVS NTS DFS MTS (G54m F37) n) Try.f54.ntmps H54m n b54m [.r,.l,.r,.b] (kRet TT [(.val false (.seq 3 ki)),(.clo 37 [])] [(false,.val ki)] Try.f54.results.toList) m (st54m_0 a0 v0_2)))=(fun a0 m v0_2=>slices_IndexFunc_int_int_m_l0 n F37 a0 m v0_2) from funext fun a0=>funext fun m=>funext fun v0_2=>slices_IndexFunc_int_int_m_l0_ok n F37 a0 m v0_2]
 first | rfl | kernel_rfl
def slices_IndexFunc_int_int_m (n:Nat) (a0:List Int) (a1:PUnit):Option Int:=slices_IndexFunc_int_int_m_g n c37.F a0 a1
def c54m:Con:=⟨[(.val false (.seq 3 ki)),(.clo 37 [])],[(false,.val ki)],fun n x=>slices_IndexFunc_int_int_m n x.1 x.2.1⟩
theorem c54m_ok:ConOK Try.prog 54 c54m:=funE_ok TT_ok mixed Try.func54 (body:=b54m) rfl rfl (by decide +kernel) (fun n=>opE_ok TT_ok OVS_ok NTS DFS MTS_ok (G:=G54m c37.F) (GOK.cons c37_ok (GOK.nil)) n) (H:=H54m) fun n x y h=>(slices_IndexFunc_int_int_m_eq n c37.F x).trans h
def b39m:Go.Code:=Try.f39.body.getD .skip
def H39m:HL:=[]
def G39m (F54m:CT c54m) (F37:CT c37):List (Nat×Con):=[(54,⟨c54m.ps,c54m.rs,F54m⟩),(37,⟨c37.ps,c37.rs,F37⟩)]
def slices_ContainsFunc_int_int_m_g (n:Nat) (F54m:CT c54m) (F37:CT c37) (a0:List Int) (a1:PUnit):Option Bool :=
 Option.bind (α:=Int) (F54m n (a0,(),())) fun r0↦some (decide (r0≥(0:Int)))
theorem slices_ContainsFunc_int_int_m_eq (n:Nat) (F54m:CT c54m) (F37:CT c37) (x:DPs [(.val false (.seq 3 ki)),(.clo 37 [])]):funE TT [(.val false (.seq 3 ki)),(.clo 37 [])] [(false,.val .bool)] (opE TT OVS NTS DFS MTS (G39m F54m F37) n) H39m Try.f39.ntmps Try.f39.results.toList b39m n x=slices_ContainsFunc_int_int_m_g n F54m F37 x.1 x.2.1:=by
 kernel_rfl
def slices_ContainsFunc_int_int_m (n:Nat) (a0:List Int) (a1:PUnit):Option Bool:=slices_ContainsFunc_int_int_m_g n c54m.F c37.F a0 a1
def c39m:Con:=⟨[(.val false (.seq 3 ki)),(.clo 37 [])],[(false,.val .bool)],fun n x=>slices_ContainsFunc_int_int_m n x.1 x.2.1⟩
theorem c39m_ok:ConOK Try.prog 39 c39m:=funE_ok TT_ok mixed Try.func39 (body:=b39m) rfl rfl (by decide +kernel) (fun n=>opE_ok TT_ok OVS_ok NTS DFS MTS_ok (G:=G39m c54m.F c37.F) (GOK.cons c54m_ok (GOK.cons c37_ok (GOK.nil))) n) (H:=H39m) fun n x y h=>(slices_ContainsFunc_int_int_m_eq n c54m.F c37.F x).trans h
def b80:Go.Code:=Try.f80.body.getD .skip
def H80:HL:=[]
def G80 (F81:CT c81):List (Nat×Con):=[(81,⟨c81.ps,c81.rs,F81⟩)]
def cmp_Less_int_g (n:Nat) (F81:CT c81) (a0:Int) (a1:Int):Option Bool :=
 Option.bind (α:=Bool) (F81 n (a0,())) fun r0↦bif r0 then Option.bind (α:=Bool) (F81 n (a1,())) fun r1↦bif !r1 then some true else some (decide (a0 < a1)) else some (decide (a0 < a1))
theorem cmp_Less_int_eq (n:Nat) (F81:CT c81) (x:DPs [(.val false ki),(.val false ki)]):funE TT [(.val false ki),(.val false ki)] [(false,.val .bool)] (opE TT OVS NTS DFS MTS (G80 F81) n) H80 Try.f80.ntmps Try.f80.results.toList b80 n x=cmp_Less_int_g n F81 x.1 x.2.1:=by
 kernel_rfl
def cmp_Less_int (n:Nat) (a0:Int) (a1:Int):Option Bool:=cmp_Less_int_g n c81.F a0 a1
def c80:Con:=⟨[(.val false ki),(.val false ki)],[(false,.val .bool)],fun n x=>cmp_Less_int n x.1 x.2.1⟩
theorem c80_ok:ConOK Try.prog 80 c80:=funE_ok TT_ok mixed Try.func80 (body:=b80) rfl rfl (by decide +kernel) (fun n=>opE_ok TT_ok OVS_ok NTS DFS MTS_ok (G:=G80 c81.F) (GOK.cons c81_ok (GOK.nil)) n) (H:=H80) fun n x y h=>(cmp_Less_int_eq n c81.F x).trans h
def st70_0 (a0:List Int) (v0_1:Int):LS:=({ env:=[(nat_lit 0,vS (nat_lit 3) ki a0),(nat_lit 3,vI v0_1)],heap:=nl (Nat×Option HV),next:=nat_lit 0,pins:=[] })
def b70:Go.Code:=Try.f70.body.getD .skip
def H70:HL:=[(2,[0,3],[])]
def G70 (F80:CT c80):List (Nat×Con):=[(80,⟨c80.ps,c80.rs,F80⟩)]
def slices_IsSorted_int_int_l0_step (n:Nat) (F80:CT c80) (a0:List Int) (ih0:(Int)→Option Bool) (v0_1:Int):Option Bool :=
 bif decide (v0_1 > (0:Int)) then if (0:Int)≤v0_1∧v0_1 < (a0.length:Int) then if (0:Int)≤i64.wrap (v0_1 - (1:Int))∧i64.wrap (v0_1 - (1:Int)) < (a0.length:Int) then Option.bind (α:=Bool) (F80 n (a0.getD v0_1.toNat (0:Int),a0.getD (i64.wrap (v0_1 - (1:Int))).toNat (0:Int),())) fun r0↦bif r0 then some false else ih0 (i64.wrap (v0_1 - (1:Int))) else none else none else some true
def slices_IsSorted_int_int_l0 (n:Nat) (F80:CT c80) (a0:List Int):Nat→(Int)→Option Bool
 | 0,_=>none
 | m0 + 1,v0_1=>slices_IsSorted_int_int_l0_step n F80 a0 (slices_IsSorted_int_int_l0 n F80 a0 m0) v0_1
def slices_IsSorted_int_int_h (n:Nat) (F80:CT c80) (h0:(List Int)→Nat→(Int)→Option Bool) (a0:List Int):Option Bool :=
 h0 a0 n (i64.wrap ((a0.length:Int) - (1:Int)))
def slices_IsSorted_int_int_g (n:Nat) (F80:CT c80) (a0:List Int):Option Bool:=slices_IsSorted_int_int_h n F80 (fun a0 m v0_1=>slices_IsSorted_int_int_l0 n F80 a0 m v0_1) a0
theorem slices_IsSorted_int_int_l0_ok (n:Nat) (F80:CT c80) (a0:List Int):∀ (m0:Nat) (v0_1:Int),(loopAt (opE TT OVS NTS DFS MTS (G70 F80) n) Try.f70.ntmps H70 n b70 [.r,.l,.r,.b] (kRet TT [(.val false (.seq 3 ki))] [(false,.val .bool)] Try.f70.results.toList) m0 (st70_0 a0 v0_1))=slices_IsSorted_int_int_l0 n F80 a0 m0 v0_1:=by
 intro m0
 induction m0 with
 | zero=>intros; kernel_rfl
 | succ m0 ih =>
  intro v0_1
  refine Eq.trans (b:=slices_IsSorted_int_int_l0_step n F80 a0 (fun v0_1=>(loopAt (opE TT OVS NTS DFS MTS (G70 F80) n) Try.f70.ntmps H70 n b70 [.r,.l,.r,.b] (kRet TT [(.val false (.seq 3 ki))] [(false,.val .bool)] Try.f70.results.toList) m0 (st70_0 a0 v0_1))) v0_1) (by kernel_rfl) ?_
  rw [show (fun v0_1=>(loopAt (opE TT OVS NTS DFS MTS (G70 F80) n) Try.f70.ntmps H70 n b70 [.r,.l,.r,.b] (kRet TT [(.val false (.seq 3 ki))] [(false,.val .bool)] Try.f70.results.toList) m0 (st70_0 a0 v0_1)))=slices_IsSorted_int_int_l0 n F80 a0 m0 from funext fun v0_1=>ih v0_1]
  first | rfl | kernel_rfl
theorem slices_IsSorted_int_int_eq (n:Nat) (F80:CT c80) (x:DPs [(.val false (.seq 3 ki))]):funE TT [(.val false (.seq 3 ki))] [(false,.val .bool)] (opE TT OVS NTS DFS MTS (G70 F80) n) H70 Try.f70.ntmps Try.f70.results.toList b70 n x=slices_IsSorted_int_int_g n F80 x.1:=by
 refine Eq.trans (b:=slices_IsSorted_int_int_h n F80 (fun a0 m v0_1=>(loopAt (opE TT OVS NTS DFS MTS (G70 F80) n) Try.f70.ntmps H70 n b70 [.r,.l,.r,.b] (kRet TT [(.val false (.seq 3 ki))] [(false,.val .bool)] Try.f70.results.toList) m (st70_0 a0 v0_1))) x.1) (by kernel_rfl) ?_
 try rw [show (fun a0 m v0_1=>(loopAt (opE TT OVS NTS DFS MTS (G70 F80) n) Try.f70.ntmps H70 n b70 [.r,.l,.r,.b] (kRet TT [(.val false (.seq 3 ki))] [(false,.val .bool)] Try.f70.results.toList) m (st70_0 a0 v0_1)))=(fun a0 m v0_1=>slices_IsSorted_int_int_l0 n F80 a0 m v0_1) from funext fun a0=>funext fun m=>funext fun v0_1=>slices_IsSorted_int_int_l0_ok n F80 a0 m v0_1]
 first | rfl | kernel_rfl
def slices_IsSorted_int_int (n:Nat) (a0:List Int):Option Bool:=slices_IsSorted_int_int_g n c80.F a0
def c70:Con:=⟨[(.val false (.seq 3 ki))],[(false,.val .bool)],fun n x=>slices_IsSorted_int_int n x.1⟩
theorem c70_ok:ConOK Try.prog 70 c70:=funE_ok TT_ok mixed Try.func70 (body:=b70) rfl rfl (by decide +kernel) (fun n=>opE_ok TT_ok OVS_ok NTS DFS MTS_ok (G:=G70 c80.F) (GOK.cons c80_ok (GOK.nil)) n) (H:=H70) fun n x y h=>(slices_IsSorted_int_int_eq n c80.F x).trans h
def b34:Go.Code:=Try.f34.body.getD .skip
def H34:HL:=[]
def G34 (F35:CT c35):List (Nat×Con):=[(35,⟨c35.ps,c35.rs,F35⟩)]
def admit_May_1_g (n:Nat) (F35:CT c35) (a0:tQ):Option Bool :=
 Option.bind (α:=Bool) (F35 n (a0,())) fun r0↦some !r0
theorem admit_May_1_eq (n:Nat) (F35:CT c35) (x:DPs [(.val true kQ)]):funE TT [(.val true kQ)] [(false,.val .bool)] (opE TT OVS NTS DFS MTS (G34 F35) n) H34 Try.f34.ntmps Try.f34.results.toList b34 n x=admit_May_1_g n F35 x.1:=by
 kernel_rfl
def admit_May_1 (n:Nat) (a0:tQ):Option Bool:=admit_May_1_g n c35.F a0
def c34:Con:=⟨[(.val true kQ)],[(false,.val .bool)],fun n x=>admit_May_1 n x.1⟩
theorem c34_ok:ConOK Try.prog 34 c34:=funE_ok TT_ok mixed Try.func34 (body:=b34) rfl rfl (by decide +kernel) (fun n=>opE_ok TT_ok OVS_ok NTS DFS MTS_ok (G:=G34 c35.F) (GOK.cons c35_ok (GOK.nil)) n) (H:=H34) fun n x y h=>(admit_May_1_eq n c35.F x).trans h
def st51_0 (a0:List (tQ)) (v0_2:Int):LS:=({ env:=[(nat_lit 0,vS (nat_lit 50) kQ a0),(nat_lit 1,some (AV.sv false [CV.clo (nat_lit 34) []])),(nat_lit 7,vI (a0.length:Int)),(nat_lit 8,vI v0_2)],heap:=nl (Nat×Option HV),next:=nat_lit 0,pins:=[] })
def b51:Go.Code:=Try.f51.body.getD .skip
def H51:HL:=[(2,[0,1,7,8],[])]
def G51 (F34:CT c34):List (Nat×Con):=[(34,⟨c34.ps,c34.rs,F34⟩)]
def slices_IndexFunc_api_Query_l0_step (n:Nat) (F34:CT c34) (a0:List (tQ)) (ih0:(Int)→Option Int) (v0_2:Int):Option Int :=
 bif decide (v0_2 < (a0.length:Int)) then if (0:Int)≤v0_2∧v0_2 < (a0.length:Int) then Option.bind (α:=Bool) (F34 n (a0.getD v0_2.toNat ((0:Int),(0:Int),(0:Int),(0:Int),nl Int,(0:Int)),())) fun r0↦bif r0 then some v0_2 else ih0 (i64.wrap (v0_2 + (1:Int))) else none else some (-1:Int)
def slices_IndexFunc_api_Query_l0 (n:Nat) (F34:CT c34) (a0:List (tQ)):Nat→(Int)→Option Int
 | 0,_=>none
 | m0 + 1,v0_2=>slices_IndexFunc_api_Query_l0_step n F34 a0 (slices_IndexFunc_api_Query_l0 n F34 a0 m0) v0_2
def slices_IndexFunc_api_Query_h (n:Nat) (F34:CT c34) (h0:(List (tQ))→Nat→(Int)→Option Int) (a0:List (tQ)) (a1:PUnit):Option Int :=
 h0 a0 n (0:Int)
def slices_IndexFunc_api_Query_g (n:Nat) (F34:CT c34) (a0:List (tQ)) (a1:PUnit):Option Int:=slices_IndexFunc_api_Query_h n F34 (fun a0 m v0_2=>slices_IndexFunc_api_Query_l0 n F34 a0 m v0_2) a0 a1
theorem slices_IndexFunc_api_Query_l0_ok (n:Nat) (F34:CT c34) (a0:List (tQ)):∀ (m0:Nat) (v0_2:Int),(loopAt (opE TT OVS NTS DFS MTS (G51 F34) n) Try.f51.ntmps H51 n b51 [.r,.l,.r,.b] (kRet TT [(.val false (.seq 50 kQ)),(.clo 34 [])] [(false,.val ki)] Try.f51.results.toList) m0 (st51_0 a0 v0_2))=slices_IndexFunc_api_Query_l0 n F34 a0 m0 v0_2:=by
 intro m0
 induction m0 with
 | zero=>intros; kernel_rfl
 | succ m0 ih =>
  intro v0_2
  refine Eq.trans (b:=slices_IndexFunc_api_Query_l0_step n F34 a0 (fun v0_2=>(loopAt (opE TT OVS NTS DFS MTS (G51 F34) n) Try.f51.ntmps H51 n b51 [.r,.l,.r,.b] (kRet TT [(.val false (.seq 50 kQ)),(.clo 34 [])] [(false,.val ki)] Try.f51.results.toList) m0 (st51_0 a0 v0_2))) v0_2) (by kernel_rfl) ?_
  rw [show (fun v0_2=>(loopAt (opE TT OVS NTS DFS MTS (G51 F34) n) Try.f51.ntmps H51 n b51 [.r,.l,.r,.b] (kRet TT [(.val false (.seq 50 kQ)),(.clo 34 [])] [(false,.val ki)] Try.f51.results.toList) m0 (st51_0 a0 v0_2)))=slices_IndexFunc_api_Query_l0 n F34 a0 m0 from funext fun v0_2=>ih v0_2]
  first | rfl | kernel_rfl
theorem slices_IndexFunc_api_Query_eq (n:Nat) (F34:CT c34) (x:DPs [(.val false (.seq 50 kQ)),(.clo 34 [])]):funE TT [(.val false (.seq 50 kQ)),(.clo 34 [])] [(false,.val ki)] (opE TT OVS NTS DFS MTS (G51 F34) n) H51 Try.f51.ntmps Try.f51.results.toList b51 n x=slices_IndexFunc_api_Query_g n F34 x.1 x.2.1:=by
 refine Eq.trans (b:=slices_IndexFunc_api_Query_h n F34 (fun a0 m v0_2=>(loopAt (opE TT OVS NTS DFS MTS (G51 F34) n) Try.f51.ntmps H51 n b51 [.r,.l,.r,.b] (kRet TT [(.val false (.seq 50 kQ)),(.clo 34 [])] [(false,.val ki)] Try.f51.results.toList) m (st51_0 a0 v0_2))) x.1 x.2.1) (by kernel_rfl) ?_
 try rw [show (fun a0 m v0_2=>(loopAt (opE TT OVS NTS DFS MTS (G51 F34) n) Try.f51.ntmps H51 n b51 [.r,.l,.r,.b] (kRet TT [(.val false (.seq 50 kQ)),(.clo 34 [])] [(false,.val ki)] Try.f51.results.toList) m (st51_0 a0 v0_2)))=(fun a0 m v0_2=>slices_IndexFunc_api_Query_l0 n F34 a0 m v0_2) from funext fun a0=>funext fun m=>funext fun v0_2=>slices_IndexFunc_api_Query_l0_ok n F34 a0 m v0_2]
 first | rfl | kernel_rfl
def slices_IndexFunc_api_Query (n:Nat) (a0:List (tQ)) (a1:PUnit):Option Int:=slices_IndexFunc_api_Query_g n c34.F a0 a1
def c51:Con:=⟨[(.val false (.seq 50 kQ)),(.clo 34 [])],[(false,.val ki)],fun n x=>slices_IndexFunc_api_Query n x.1 x.2.1⟩
theorem c51_ok:ConOK Try.prog 51 c51:=funE_ok TT_ok mixed Try.func51 (body:=b51) rfl rfl (by decide +kernel) (fun n=>opE_ok TT_ok OVS_ok NTS DFS MTS_ok (G:=G51 c34.F) (GOK.cons c34_ok (GOK.nil)) n) (H:=H51) fun n x y h=>(slices_IndexFunc_api_Query_eq n c34.F x).trans h
def b33:Go.Code:=Try.f33.body.getD .skip
def H33:HL:=[]
def G33 (F51:CT c51) (F34:CT c34):List (Nat×Con):=[(51,⟨c51.ps,c51.rs,F51⟩),(34,⟨c34.ps,c34.rs,F34⟩)]
def slices_ContainsFunc_api_Query_g (n:Nat) (F51:CT c51) (F34:CT c34) (a0:List (tQ)) (a1:PUnit):Option Bool :=
 Option.bind (α:=Int) (F51 n (a0,(),())) fun r0↦some (decide (r0≥(0:Int)))
theorem slices_ContainsFunc_api_Query_eq (n:Nat) (F51:CT c51) (F34:CT c34) (x:DPs [(.val false (.seq 50 kQ)),(.clo 34 [])]):funE TT [(.val false (.seq 50 kQ)),(.clo 34 [])] [(false,.val .bool)] (opE TT OVS NTS DFS MTS (G33 F51 F34) n) H33 Try.f33.ntmps Try.f33.results.toList b33 n x=slices_ContainsFunc_api_Query_g n F51 F34 x.1 x.2.1:=by
 kernel_rfl
def slices_ContainsFunc_api_Query (n:Nat) (a0:List (tQ)) (a1:PUnit):Option Bool:=slices_ContainsFunc_api_Query_g n c51.F c34.F a0 a1
def c33:Con:=⟨[(.val false (.seq 50 kQ)),(.clo 34 [])],[(false,.val .bool)],fun n x=>slices_ContainsFunc_api_Query n x.1 x.2.1⟩
theorem c33_ok:ConOK Try.prog 33 c33:=funE_ok TT_ok mixed Try.func33 (body:=b33) rfl rfl (by decide +kernel) (fun n=>opE_ok TT_ok OVS_ok NTS DFS MTS_ok (G:=G33 c51.F c34.F) (GOK.cons c51_ok (GOK.cons c34_ok (GOK.nil))) n) (H:=H33) fun n x y h=>(slices_ContainsFunc_api_Query_eq n c51.F c34.F x).trans h
def b20:Go.Code:=Try.f20.body.getD .skip
def H20:HL:=[]
def G20 (F33:CT c33):List (Nat×Con):=[(33,⟨c33.ps,c33.rs,F33⟩)]
def admit_May_g (n:Nat) (F33:CT c33) (a0:tC):Option Bool :=
 bif decide ((a0.fst.length:Int) < (1:Int)) then some false else bif decide ((a0.fst.length:Int) > (8:Int)) then some false else Option.bind (α:=Bool) (F33 n (a0.fst,(),())) fun r0↦bif r0 then some false else bif decide (a0.snd.fst≥(0:Int)) then bif decide (a0.snd.fst≤(1073741824:Int)) then bif decide (a0.snd.snd.fst≥(1:Int)) then bif decide (a0.snd.snd.fst≤(4096:Int)) then bif decide (a0.snd.snd.snd.fst≥(1:Int)) then bif decide (a0.snd.snd.snd.fst≤(64:Int)) then bif decide (a0.snd.snd.snd.snd≥(1:Int)) then some (decide (a0.snd.snd.snd.snd≤(8:Int))) else some false else some false else some false else some false else some false else some false else some false
theorem admit_May_eq (n:Nat) (F33:CT c33) (x:DPs [(.val true (.pair (.seq 50 kQ) kI))]):funE TT [(.val true (.pair (.seq 50 kQ) kI))] [(false,.val .bool)] (opE TT OVS NTS DFS MTS (G20 F33) n) H20 Try.f20.ntmps Try.f20.results.toList b20 n x=admit_May_g n F33 x.1:=by
 kernel_rfl
def admit_May (n:Nat) (a0:tC):Option Bool:=admit_May_g n c33.F a0
def c20:Con:=⟨[(.val true (.pair (.seq 50 kQ) kI))],[(false,.val .bool)],fun n x=>admit_May n x.1⟩
theorem c20_ok:ConOK Try.prog 20 c20:=funE_ok TT_ok mixed Try.func20 (body:=b20) rfl rfl (by decide +kernel) (fun n=>opE_ok TT_ok OVS_ok NTS DFS MTS_ok (G:=G20 c33.F) (GOK.cons c33_ok (GOK.nil)) n) (H:=H20) fun n x y h=>(admit_May_eq n c33.F x).trans h
def b71:Go.Code:=Try.f71.body.getD .skip
def H71:HL:=[]
def G71 (F73:CT c73) (F65:CT c65) (F72:CT c72):List (Nat×Con):=[(73,⟨c73.ps,c73.rs,F73⟩),(65,⟨c65.ps,c65.rs,F65⟩),(72,⟨c72.ps,c72.rs,F72⟩)]
def spec_row_1_g (n:Nat) (F73:CT c73) (F65:CT c65) (F72:CT c72) (a0:tI) (a1:tI):Option Int :=
 Option.bind (α:=Int) (F73 n (a0.fst,a1.fst,())) fun r0↦Option.bind (α:=Int) (F65 n (a0,a1,())) fun r1↦Option.bind (α:=Int) (F72 n (((List.replicate (2:Nat) (0:Int)).set (0:Nat) r0).set (1:Nat) r1,())) fun r2↦some r2
theorem spec_row_1_eq (n:Nat) (F73:CT c73) (F65:CT c65) (F72:CT c72) (x:DPs [(.val true kI),(.val true kI)]):funE TT [(.val true kI),(.val true kI)] [(false,.val ki)] (opE TT OVS NTS DFS MTS (G71 F73 F65 F72) n) H71 Try.f71.ntmps Try.f71.results.toList b71 n x=spec_row_1_g n F73 F65 F72 x.1 x.2.1:=by
 kernel_rfl
def spec_row_1 (n:Nat) (a0:tI) (a1:tI):Option Int:=spec_row_1_g n c73.F c65.F c72.F a0 a1
def c71:Con:=⟨[(.val true kI),(.val true kI)],[(false,.val ki)],fun n x=>spec_row_1 n x.1 x.2.1⟩
theorem c71_ok:ConOK Try.prog 71 c71:=funE_ok TT_ok mixed Try.func71 (body:=b71) rfl rfl (by decide +kernel) (fun n=>opE_ok TT_ok OVS_ok NTS DFS MTS_ok (G:=G71 c73.F c65.F c72.F) (GOK.cons c73_ok (GOK.cons c65_ok (GOK.cons c72_ok (GOK.nil)))) n) (H:=H71) fun n x y h=>(spec_row_1_eq n c73.F c65.F c72.F x).trans h
def b60:Go.Code:=Try.f60.body.getD .skip
def H60:HL:=[]
def G60:List (Nat×Con):=[]
def spec_isOut (n:Nat) (a0:tC) (a1:Int×Int) (a2:Int):Option Bool :=
 some (decide (i64.wrap (a1.snd + a0.snd.fst)≤a2))
theorem spec_isOut_eq (n:Nat) (x:DPs [(.iref (.pair (.seq 50 kQ) kI)),(.val true (.pair ki ki)),(.val false ki)]):funE TT [(.iref (.pair (.seq 50 kQ) kI)),(.val true (.pair ki ki)),(.val false ki)] [(false,.val .bool)] (opE TT OVS NTS DFS MTS G60 n) H60 Try.f60.ntmps Try.f60.results.toList b60 n x=spec_isOut n x.1 x.2.1 x.2.2.1:=by
 kernel_rfl
def c60:Con:=⟨[(.iref (.pair (.seq 50 kQ) kI)),(.val true (.pair ki ki)),(.val false ki)],[(false,.val .bool)],fun n x=>spec_isOut n x.1 x.2.1 x.2.2.1⟩
theorem c60_ok:ConOK Try.prog 60 c60:=funE_ok TT_ok mixed Try.func60 (body:=b60) rfl rfl (by decide +kernel) (fun n=>opE_ok TT_ok OVS_ok NTS DFS MTS_ok (G:=G60) (GOK.nil) n) (H:=H60) fun n x y h=>(spec_isOut_eq n x).trans h
def st28_0 (a0:List Int) (a1:List Int) (v0_2:Int):LS:=({ env:=[(nat_lit 0,vS (nat_lit 3) ki a0),(nat_lit 1,vS (nat_lit 3) ki a1),(nat_lit 5,vI v0_2)],heap:=nl (Nat×Option HV),next:=nat_lit 0,pins:=[] })
def b28:Go.Code:=Try.f28.body.getD .skip
def H28:HL:=[(4,[0,1,5],[])]
def G28:List (Nat×Con):=[]
def bournelaw0_SameInts_l0_step (n:Nat) (a0:List Int) (a1:List Int) (ih0:(Int)→Option Bool) (v0_2:Int):Option Bool :=
 bif decide (v0_2 < (a0.length:Int)) then if (0:Int)≤v0_2∧v0_2 < (a0.length:Int) then if (0:Int)≤v0_2∧v0_2 < (a1.length:Int) then bif a0.getD v0_2.toNat (0:Int) != a1.getD v0_2.toNat (0:Int) then some false else ih0 (i64.wrap (v0_2 + (1:Int))) else none else none else some true
def bournelaw0_SameInts_l0 (n:Nat) (a0:List Int) (a1:List Int):Nat→(Int)→Option Bool
 | 0,_=>none
 | m0 + 1,v0_2=>bournelaw0_SameInts_l0_step n a0 a1 (bournelaw0_SameInts_l0 n a0 a1 m0) v0_2
def bournelaw0_SameInts_h (n:Nat) (h0:(List Int)→(List Int)→Nat→(Int)→Option Bool) (a0:List Int) (a1:List Int):Option Bool :=
 bif (a0.length:Int) != (a1.length:Int) then some false else h0 a0 a1 n (0:Int)
def bournelaw0_SameInts (n:Nat) (a0:List Int) (a1:List Int):Option Bool:=bournelaw0_SameInts_h n (fun a0 a1 m v0_2=>bournelaw0_SameInts_l0 n a0 a1 m v0_2) a0 a1
theorem bournelaw0_SameInts_l0_ok (n:Nat) (a0:List Int) (a1:List Int):∀ (m0:Nat) (v0_2:Int),(loopAt (opE TT OVS NTS DFS MTS G28 n) Try.f28.ntmps H28 n b28 [.r,.r,.l,.r,.b] (kRet TT [(.val false (.seq 3 ki)),(.val false (.seq 3 ki))] [(false,.val .bool)] Try.f28.results.toList) m0 (st28_0 a0 a1 v0_2))=bournelaw0_SameInts_l0 n a0 a1 m0 v0_2:=by
 intro m0
 induction m0 with
 | zero=>intros; kernel_rfl
 | succ m0 ih =>
  intro v0_2
  refine Eq.trans (b:=bournelaw0_SameInts_l0_step n a0 a1 (fun v0_2=>(loopAt (opE TT OVS NTS DFS MTS G28 n) Try.f28.ntmps H28 n b28 [.r,.r,.l,.r,.b] (kRet TT [(.val false (.seq 3 ki)),(.val false (.seq 3 ki))] [(false,.val .bool)] Try.f28.results.toList) m0 (st28_0 a0 a1 v0_2))) v0_2) (by kernel_rfl) ?_
  rw [show (fun v0_2=>(loopAt (opE TT OVS NTS DFS MTS G28 n) Try.f28.ntmps H28 n b28 [.r,.r,.l,.r,.b] (kRet TT [(.val false (.seq 3 ki)),(.val false (.seq 3 ki))] [(false,.val .bool)] Try.f28.results.toList) m0 (st28_0 a0 a1 v0_2)))=bournelaw0_SameInts_l0 n a0 a1 m0 from funext fun v0_2=>ih v0_2]
  first | rfl | kernel_rfl
theorem bournelaw0_SameInts_eq (n:Nat) (x:DPs [(.val false (.seq 3 ki)),(.val false (.seq 3 ki))]):funE TT [(.val false (.seq 3 ki)),(.val false (.seq 3 ki))] [(false,.val .bool)] (opE TT OVS NTS DFS MTS G28 n) H28 Try.f28.ntmps Try.f28.results.toList b28 n x=bournelaw0_SameInts n x.1 x.2.1:=by
 refine Eq.trans (b:=bournelaw0_SameInts_h n (fun a0 a1 m v0_2=>(loopAt (opE TT OVS NTS DFS MTS G28 n) Try.f28.ntmps H28 n b28 [.r,.r,.l,.r,.b] (kRet TT [(.val false (.seq 3 ki)),(.val false (.seq 3 ki))] [(false,.val .bool)] Try.f28.results.toList) m (st28_0 a0 a1 v0_2))) x.1 x.2.1) (by kernel_rfl) ?_
 try rw [show (fun a0 a1 m v0_2=>(loopAt (opE TT OVS NTS DFS MTS G28 n) Try.f28.ntmps H28 n b28 [.r,.r,.l,.r,.b] (kRet TT [(.val false (.seq 3 ki)),(.val false (.seq 3 ki))] [(false,.val .bool)] Try.f28.results.toList) m (st28_0 a0 a1 v0_2)))=(fun a0 a1 m v0_2=>bournelaw0_SameInts_l0 n a0 a1 m v0_2) from funext fun a0=>funext fun a1=>funext fun m=>funext fun v0_2=>bournelaw0_SameInts_l0_ok n a0 a1 m v0_2]
 first | rfl | kernel_rfl
def c28:Con:=⟨[(.val false (.seq 3 ki)),(.val false (.seq 3 ki))],[(false,.val .bool)],fun n x=>bournelaw0_SameInts n x.1 x.2.1⟩
theorem c28_ok:ConOK Try.prog 28 c28:=funE_ok TT_ok mixed Try.func28 (body:=b28) rfl rfl (by decide +kernel) (fun n=>opE_ok TT_ok OVS_ok NTS DFS MTS_ok (G:=G28) (GOK.nil) n) (H:=H28) fun n x y h=>(bournelaw0_SameInts_eq n x).trans h
def st29_0 (a0:List (tI)) (a1:List (tI)) (v0_2:Int):LS:=({ env:=[(nat_lit 0,vS (nat_lit 44) kI a0),(nat_lit 1,vS (nat_lit 44) kI a1),(nat_lit 5,vI v0_2)],heap:=nl (Nat×Option HV),next:=nat_lit 0,pins:=[] })
def b29:Go.Code:=Try.f29.body.getD .skip
def H29:HL:=[(4,[0,1,5],[])]
def G29:List (Nat×Con):=[]
def bournelaw0_SameItems_l0_step (n:Nat) (a0:List (tI)) (a1:List (tI)) (ih0:(Int)→Option Bool) (v0_2:Int):Option Bool :=
 bif decide (v0_2 < (a0.length:Int)) then if (0:Int)≤v0_2∧v0_2 < (a0.length:Int) then if (0:Int)≤v0_2∧v0_2 < (a1.length:Int) then bif !((a0.getD v0_2.toNat ((0:Int),(0:Int),(0:Int),(0:Int))).fst == (a1.getD v0_2.toNat ((0:Int),(0:Int),(0:Int),(0:Int))).fst&&((a0.getD v0_2.toNat ((0:Int),(0:Int),(0:Int),(0:Int))).snd.fst == (a1.getD v0_2.toNat ((0:Int),(0:Int),(0:Int),(0:Int))).snd.fst&&((a0.getD v0_2.toNat ((0:Int),(0:Int),(0:Int),(0:Int))).snd.snd.fst == (a1.getD v0_2.toNat ((0:Int),(0:Int),(0:Int),(0:Int))).snd.snd.fst&&((a0.getD v0_2.toNat ((0:Int),(0:Int),(0:Int),(0:Int))).snd.snd.snd == (a1.getD v0_2.toNat ((0:Int),(0:Int),(0:Int),(0:Int))).snd.snd.snd&&true)))) then some false else ih0 (i64.wrap (v0_2 + (1:Int))) else none else none else some true
def bournelaw0_SameItems_l0 (n:Nat) (a0:List (tI)) (a1:List (tI)):Nat→(Int)→Option Bool
 | 0,_=>none
 | m0 + 1,v0_2=>bournelaw0_SameItems_l0_step n a0 a1 (bournelaw0_SameItems_l0 n a0 a1 m0) v0_2
def bournelaw0_SameItems_h (n:Nat) (h0:(List (tI))→(List (tI))→Nat→(Int)→Option Bool) (a0:List (tI)) (a1:List (tI)):Option Bool :=
 bif (a0.length:Int) != (a1.length:Int) then some false else h0 a0 a1 n (0:Int)
def bournelaw0_SameItems (n:Nat) (a0:List (tI)) (a1:List (tI)):Option Bool:=bournelaw0_SameItems_h n (fun a0 a1 m v0_2=>bournelaw0_SameItems_l0 n a0 a1 m v0_2) a0 a1
theorem bournelaw0_SameItems_l0_ok (n:Nat) (a0:List (tI)) (a1:List (tI)):∀ (m0:Nat) (v0_2:Int),(loopAt (opE TT OVS NTS DFS MTS G29 n) Try.f29.ntmps H29 n b29 [.r,.r,.l,.r,.b] (kRet TT [(.val false (.seq 44 kI)),(.val false (.seq 44 kI))] [(false,.val .bool)] Try.f29.results.toList) m0 (st29_0 a0 a1 v0_2))=bournelaw0_SameItems_l0 n a0 a1 m0 v0_2:=by
 intro m0
 induction m0 with
 | zero=>intros; kernel_rfl
 | succ m0 ih =>
  intro v0_2
  refine Eq.trans (b:=bournelaw0_SameItems_l0_step n a0 a1 (fun v0_2=>(loopAt (opE TT OVS NTS DFS MTS G29 n) Try.f29.ntmps H29 n b29 [.r,.r,.l,.r,.b] (kRet TT [(.val false (.seq 44 kI)),(.val false (.seq 44 kI))] [(false,.val .bool)] Try.f29.results.toList) m0 (st29_0 a0 a1 v0_2))) v0_2) (by kernel_rfl) ?_
  rw [show (fun v0_2=>(loopAt (opE TT OVS NTS DFS MTS G29 n) Try.f29.ntmps H29 n b29 [.r,.r,.l,.r,.b] (kRet TT [(.val false (.seq 44 kI)),(.val false (.seq 44 kI))] [(false,.val .bool)] Try.f29.results.toList) m0 (st29_0 a0 a1 v0_2)))=bournelaw0_SameItems_l0 n a0 a1 m0 from funext fun v0_2=>ih v0_2]
  first | rfl | kernel_rfl
theorem bournelaw0_SameItems_eq (n:Nat) (x:DPs [(.val false (.seq 44 kI)),(.val false (.seq 44 kI))]):funE TT [(.val false (.seq 44 kI)),(.val false (.seq 44 kI))] [(false,.val .bool)] (opE TT OVS NTS DFS MTS G29 n) H29 Try.f29.ntmps Try.f29.results.toList b29 n x=bournelaw0_SameItems n x.1 x.2.1:=by
 refine Eq.trans (b:=bournelaw0_SameItems_h n (fun a0 a1 m v0_2=>(loopAt (opE TT OVS NTS DFS MTS G29 n) Try.f29.ntmps H29 n b29 [.r,.r,.l,.r,.b] (kRet TT [(.val false (.seq 44 kI)),(.val false (.seq 44 kI))] [(false,.val .bool)] Try.f29.results.toList) m (st29_0 a0 a1 v0_2))) x.1 x.2.1) (by kernel_rfl) ?_
 try rw [show (fun a0 a1 m v0_2=>(loopAt (opE TT OVS NTS DFS MTS G29 n) Try.f29.ntmps H29 n b29 [.r,.r,.l,.r,.b] (kRet TT [(.val false (.seq 44 kI)),(.val false (.seq 44 kI))] [(false,.val .bool)] Try.f29.results.toList) m (st29_0 a0 a1 v0_2)))=(fun a0 a1 m v0_2=>bournelaw0_SameItems_l0 n a0 a1 m v0_2) from funext fun a0=>funext fun a1=>funext fun m=>funext fun v0_2=>bournelaw0_SameItems_l0_ok n a0 a1 m v0_2]
 first | rfl | kernel_rfl
def c29:Con:=⟨[(.val false (.seq 44 kI)),(.val false (.seq 44 kI))],[(false,.val .bool)],fun n x=>bournelaw0_SameItems n x.1 x.2.1⟩
theorem c29_ok:ConOK Try.prog 29 c29:=funE_ok TT_ok mixed Try.func29 (body:=b29) rfl rfl (by decide +kernel) (fun n=>opE_ok TT_ok OVS_ok NTS DFS MTS_ok (G:=G29) (GOK.nil) n) (H:=H29) fun n x y h=>(bournelaw0_SameItems_eq n x).trans h
def b50:Go.Code:=Try.f50.body.getD .skip
def H50:HL:=[]
def G50 (F28:CT c28):List (Nat×Con):=[(28,⟨c28.ps,c28.rs,F28⟩)]
def bournelaw0_SameQuery_g (n:Nat) (F28:CT c28) (a0:tQ) (a1:tQ):Option Bool :=
 bif a0.fst == a1.fst then bif a0.snd.fst == a1.snd.fst then bif a0.snd.snd.fst == a1.snd.snd.fst then bif a0.snd.snd.snd.fst == a1.snd.snd.snd.fst then Option.bind (α:=Bool) (F28 n (a0.snd.snd.snd.snd.fst,a1.snd.snd.snd.snd.fst,())) fun r0↦bif r0 then some (a0.snd.snd.snd.snd.snd == a1.snd.snd.snd.snd.snd) else some false else some false else some false else some false else some false
theorem bournelaw0_SameQuery_eq (n:Nat) (F28:CT c28) (x:DPs [(.val true kQ),(.val true kQ)]):funE TT [(.val true kQ),(.val true kQ)] [(false,.val .bool)] (opE TT OVS NTS DFS MTS (G50 F28) n) H50 Try.f50.ntmps Try.f50.results.toList b50 n x=bournelaw0_SameQuery_g n F28 x.1 x.2.1:=by
 kernel_rfl
def bournelaw0_SameQuery (n:Nat) (a0:tQ) (a1:tQ):Option Bool:=bournelaw0_SameQuery_g n c28.F a0 a1
def c50:Con:=⟨[(.val true kQ),(.val true kQ)],[(false,.val .bool)],fun n x=>bournelaw0_SameQuery n x.1 x.2.1⟩
theorem c50_ok:ConOK Try.prog 50 c50:=funE_ok TT_ok mixed Try.func50 (body:=b50) rfl rfl (by decide +kernel) (fun n=>opE_ok TT_ok OVS_ok NTS DFS MTS_ok (G:=G50 c28.F) (GOK.cons c28_ok (GOK.nil)) n) (H:=H50) fun n x y h=>(bournelaw0_SameQuery_eq n c28.F x).trans h
def st27_0 (v0_0:Int) (a0:tC) (a1:tC):LS:=({ env:=[(nat_lit 2,vP (nat_lit 0) (nat_lit 0)),(nat_lit 3,vP (nat_lit 1) (nat_lit 0)),(nat_lit 5,vI v0_0)],heap:=[(nat_lit 0,hC ([CV.imm (nat_lit 50) kQ a0.fst,cI a0.snd.fst,cI a0.snd.snd.fst,cI a0.snd.snd.snd.fst,cI a0.snd.snd.snd.snd])),(nat_lit 1,hC ([CV.imm (nat_lit 50) kQ a1.fst,cI a1.snd.fst,cI a1.snd.snd.fst,cI a1.snd.snd.snd.fst,cI a1.snd.snd.snd.snd]))],next:=nat_lit 2,pins:=[] })
def b27:Go.Code:=Try.f27.body.getD .skip
def H27:HL:=[(4,[2,3,5],[])]
def G27 (F50:CT c50):List (Nat×Con):=[(50,⟨c50.ps,c50.rs,F50⟩)]
def bournelaw0_SameConfig_l0_step (n:Nat) (F50:CT c50) (a0:tC) (a1:tC) (ih0:(Int)→Option Bool) (v0_0:Int):Option Bool :=
 bif decide (v0_0 < (a0.fst.length:Int)) then if (0:Int)≤v0_0∧v0_0 < (a0.fst.length:Int) then if (0:Int)≤v0_0∧v0_0 < (a1.fst.length:Int) then Option.bind (α:=Bool) (F50 n (a0.fst.getD v0_0.toNat ((0:Int),(0:Int),(0:Int),(0:Int),nl Int,(0:Int)),a1.fst.getD v0_0.toNat ((0:Int),(0:Int),(0:Int),(0:Int),nl Int,(0:Int)),())) fun r0↦bif !r0 then some false else ih0 (i64.wrap (v0_0 + (1:Int))) else none else none else some true
def bournelaw0_SameConfig_l0 (n:Nat) (F50:CT c50) (a0:tC) (a1:tC):Nat→(Int)→Option Bool
 | 0,_=>none
 | m0 + 1,v0_0=>bournelaw0_SameConfig_l0_step n F50 a0 a1 (bournelaw0_SameConfig_l0 n F50 a0 a1 m0) v0_0
def bournelaw0_SameConfig_h (n:Nat) (F50:CT c50) (h0:(tC)→(tC)→Nat→(Int)→Option Bool) (a0:tC) (a1:tC):Option Bool :=
 bif (a0.fst.length:Int) != (a1.fst.length:Int) then some false else bif a0.snd.fst != a1.snd.fst then some false else bif a0.snd.snd.fst != a1.snd.snd.fst then some false else bif a0.snd.snd.snd.fst != a1.snd.snd.snd.fst then some false else bif a0.snd.snd.snd.snd != a1.snd.snd.snd.snd then some false else h0 a0 a1 n (0:Int)
def bournelaw0_SameConfig_g (n:Nat) (F50:CT c50) (a0:tC) (a1:tC):Option Bool:=bournelaw0_SameConfig_h n F50 (fun a0 a1 m v0_0=>bournelaw0_SameConfig_l0 n F50 a0 a1 m v0_0) a0 a1
theorem bournelaw0_SameConfig_l0_ok (n:Nat) (F50:CT c50) (a0:tC) (a1:tC):∀ (m0:Nat) (v0_0:Int),(loopAt (opE TT OVS NTS DFS MTS (G27 F50) n) Try.f27.ntmps H27 n b27 [.r,.r,.l,.r,.b] (kRet TT [(.val true (.pair (.seq 50 kQ) kI)),(.val true (.pair (.seq 50 kQ) kI))] [(false,.val .bool)] Try.f27.results.toList) m0 (st27_0 v0_0 a0 a1))=bournelaw0_SameConfig_l0 n F50 a0 a1 m0 v0_0:=by
 intro m0
 induction m0 with
 | zero=>intros; kernel_rfl
 | succ m0 ih =>
  intro v0_0
  refine Eq.trans (b:=bournelaw0_SameConfig_l0_step n F50 a0 a1 (fun v0_0=>(loopAt (opE TT OVS NTS DFS MTS (G27 F50) n) Try.f27.ntmps H27 n b27 [.r,.r,.l,.r,.b] (kRet TT [(.val true (.pair (.seq 50 kQ) kI)),(.val true (.pair (.seq 50 kQ) kI))] [(false,.val .bool)] Try.f27.results.toList) m0 (st27_0 v0_0 a0 a1))) v0_0) (by kernel_rfl) ?_
  rw [show (fun v0_0=>(loopAt (opE TT OVS NTS DFS MTS (G27 F50) n) Try.f27.ntmps H27 n b27 [.r,.r,.l,.r,.b] (kRet TT [(.val true (.pair (.seq 50 kQ) kI)),(.val true (.pair (.seq 50 kQ) kI))] [(false,.val .bool)] Try.f27.results.toList) m0 (st27_0 v0_0 a0 a1)))=bournelaw0_SameConfig_l0 n F50 a0 a1 m0 from funext fun v0_0=>ih v0_0]
  first | rfl | kernel_rfl
theorem bournelaw0_SameConfig_eq (n:Nat) (F50:CT c50) (x:DPs [(.val true (.pair (.seq 50 kQ) kI)),(.val true (.pair (.seq 50 kQ) kI))]):funE TT [(.val true (.pair (.seq 50 kQ) kI)),(.val true (.pair (.seq 50 kQ) kI))] [(false,.val .bool)] (opE TT OVS NTS DFS MTS (G27 F50) n) H27 Try.f27.ntmps Try.f27.results.toList b27 n x=bournelaw0_SameConfig_g n F50 x.1 x.2.1:=by
 refine Eq.trans (b:=bournelaw0_SameConfig_h n F50 (fun a0 a1 m v0_0=>(loopAt (opE TT OVS NTS DFS MTS (G27 F50) n) Try.f27.ntmps H27 n b27 [.r,.r,.l,.r,.b] (kRet TT [(.val true (.pair (.seq 50 kQ) kI)),(.val true (.pair (.seq 50 kQ) kI))] [(false,.val .bool)] Try.f27.results.toList) m (st27_0 v0_0 a0 a1))) x.1 x.2.1) (by kernel_rfl) ?_
 try rw [show (fun a0 a1 m v0_0=>(loopAt (opE TT OVS NTS DFS MTS (G27 F50) n) Try.f27.ntmps H27 n b27 [.r,.r,.l,.r,.b] (kRet TT [(.val true (.pair (.seq 50 kQ) kI)),(.val true (.pair (.seq 50 kQ) kI))] [(false,.val .bool)] Try.f27.results.toList) m (st27_0 v0_0 a0 a1)))=(fun a0 a1 m v0_0=>bournelaw0_SameConfig_l0 n F50 a0 a1 m v0_0) from funext fun a0=>funext fun a1=>funext fun m=>funext fun v0_0=>bournelaw0_SameConfig_l0_ok n F50 a0 a1 m v0_0]
 first | rfl | kernel_rfl
def bournelaw0_SameConfig (n:Nat) (a0:tC) (a1:tC):Option Bool:=bournelaw0_SameConfig_g n c50.F a0 a1
def c27:Con:=⟨[(.val true (.pair (.seq 50 kQ) kI)),(.val true (.pair (.seq 50 kQ) kI))],[(false,.val .bool)],fun n x=>bournelaw0_SameConfig n x.1 x.2.1⟩
theorem c27_ok:ConOK Try.prog 27 c27:=funE_ok TT_ok mixed Try.func27 (body:=b27) rfl rfl (by decide +kernel) (fun n=>opE_ok TT_ok OVS_ok NTS DFS MTS_ok (G:=G27 c50.F) (GOK.cons c50_ok (GOK.nil)) n) (H:=H27) fun n x y h=>(bournelaw0_SameConfig_eq n c50.F x).trans h
def b9:Go.Code:=Try.f9.body.getD .skip
def H9:HL:=[]
def G9:List (Nat×Con):=[]
def bournelaw0_Num (n:Nat) (a0:Int):Option Int :=
 some a0
theorem bournelaw0_Num_eq (n:Nat) (x:DPs [(.val false ki)]):funE TT [(.val false ki)] [(false,.val ki)] (opE TT OVS NTS DFS MTS G9 n) H9 Try.f9.ntmps Try.f9.results.toList b9 n x=bournelaw0_Num n x.1:=by
 kernel_rfl
def c9:Con:=⟨[(.val false ki)],[(false,.val ki)],fun n x=>bournelaw0_Num n x.1⟩
theorem c9_ok:ConOK Try.prog 9 c9:=funE_ok TT_ok mixed Try.func9 (body:=b9) rfl rfl (by decide +kernel) (fun n=>opE_ok TT_ok OVS_ok NTS DFS MTS_ok (G:=G9) (GOK.nil) n) (H:=H9) fun n x y h=>(bournelaw0_Num_eq n x).trans h
def b31:Go.Code:=Try.f31.body.getD .skip
def H31:HL:=[]
def G31:List (Nat×Con):=[]
def bournelaw22_item (n:Nat) (a0:Int) (a1:Int) (a2:Int) (a3:Int):Option (tI) :=
 some (a0,a1,a2,a3)
theorem bournelaw22_item_eq (n:Nat) (x:DPs [(.val false ki),(.val false ki),(.val false ki),(.val false ki)]):funE TT [(.val false ki),(.val false ki),(.val false ki),(.val false ki)] [(true,.val kI)] (opE TT OVS NTS DFS MTS G31 n) H31 Try.f31.ntmps Try.f31.results.toList b31 n x=bournelaw22_item n x.1 x.2.1 x.2.2.1 x.2.2.2.1:=by
 kernel_rfl
def c31:Con:=⟨[(.val false ki),(.val false ki),(.val false ki),(.val false ki)],[(true,.val kI)],fun n x=>bournelaw22_item n x.1 x.2.1 x.2.2.1 x.2.2.2.1⟩
theorem c31_ok:ConOK Try.prog 31 c31:=funE_ok TT_ok mixed Try.func31 (body:=b31) rfl rfl (by decide +kernel) (fun n=>opE_ok TT_ok OVS_ok NTS DFS MTS_ok (G:=G31) (GOK.nil) n) (H:=H31) fun n x y h=>(bournelaw22_item_eq n x).trans h
def st55_0 (a0:List Int) (a1:Int) (v0_3:Int):LS:=({ env:=[(nat_lit 0,vS (nat_lit 3) ki a0),(nat_lit 1,vI a1),(nat_lit 7,vI (a0.length:Int)),(nat_lit 8,vI v0_3)],heap:=nl (Nat×Option HV),next:=nat_lit 0,pins:=[] })
def b55:Go.Code:=Try.f55.body.getD .skip
def H55:HL:=[(2,[0,1,7,8],[])]
def G55:List (Nat×Con):=[]
def slices_Index_int_int_l0_step (n:Nat) (a0:List Int) (a1:Int) (ih0:(Int)→Option Int) (v0_3:Int):Option Int :=
 bif decide (v0_3 < (a0.length:Int)) then if (0:Int)≤v0_3∧v0_3 < (a0.length:Int) then bif a1 == a0.getD v0_3.toNat (0:Int) then some v0_3 else ih0 (i64.wrap (v0_3 + (1:Int))) else none else some (-1:Int)
def slices_Index_int_int_l0 (n:Nat) (a0:List Int) (a1:Int):Nat→(Int)→Option Int
 | 0,_=>none
 | m0 + 1,v0_3=>slices_Index_int_int_l0_step n a0 a1 (slices_Index_int_int_l0 n a0 a1 m0) v0_3
def slices_Index_int_int_h (n:Nat) (h0:(List Int)→(Int)→Nat→(Int)→Option Int) (a0:List Int) (a1:Int):Option Int :=
 h0 a0 a1 n (0:Int)
def slices_Index_int_int (n:Nat) (a0:List Int) (a1:Int):Option Int:=slices_Index_int_int_h n (fun a0 a1 m v0_3=>slices_Index_int_int_l0 n a0 a1 m v0_3) a0 a1
theorem slices_Index_int_int_l0_ok (n:Nat) (a0:List Int) (a1:Int):∀ (m0:Nat) (v0_3:Int),(loopAt (opE TT OVS NTS DFS MTS G55 n) Try.f55.ntmps H55 n b55 [.r,.l,.r,.b] (kRet TT [(.val false (.seq 3 ki)),(.val false ki)] [(false,.val ki)] Try.f55.results.toList) m0 (st55_0 a0 a1 v0_3))=slices_Index_int_int_l0 n a0 a1 m0 v0_3:=by
 intro m0
 induction m0 with
 | zero=>intros; kernel_rfl
 | succ m0 ih =>
  intro v0_3
  refine Eq.trans (b:=slices_Index_int_int_l0_step n a0 a1 (fun v0_3=>(loopAt (opE TT OVS NTS DFS MTS G55 n) Try.f55.ntmps H55 n b55 [.r,.l,.r,.b] (kRet TT [(.val false (.seq 3 ki)),(.val false ki)] [(false,.val ki)] Try.f55.results.toList) m0 (st55_0 a0 a1 v0_3))) v0_3) (by kernel_rfl) ?_
  rw [show (fun v0_3=>(loopAt (opE TT OVS NTS DFS MTS G55 n) Try.f55.ntmps H55 n b55 [.r,.l,.r,.b] (kRet TT [(.val false (.seq 3 ki)),(.val false ki)] [(false,.val ki)] Try.f55.results.toList) m0 (st55_0 a0 a1 v0_3)))=slices_Index_int_int_l0 n a0 a1 m0 from funext fun v0_3=>ih v0_3]
  first | rfl | kernel_rfl
theorem slices_Index_int_int_eq (n:Nat) (x:DPs [(.val false (.seq 3 ki)),(.val false ki)]):funE TT [(.val false (.seq 3 ki)),(.val false ki)] [(false,.val ki)] (opE TT OVS NTS DFS MTS G55 n) H55 Try.f55.ntmps Try.f55.results.toList b55 n x=slices_Index_int_int n x.1 x.2.1:=by
 refine Eq.trans (b:=slices_Index_int_int_h n (fun a0 a1 m v0_3=>(loopAt (opE TT OVS NTS DFS MTS G55 n) Try.f55.ntmps H55 n b55 [.r,.l,.r,.b] (kRet TT [(.val false (.seq 3 ki)),(.val false ki)] [(false,.val ki)] Try.f55.results.toList) m (st55_0 a0 a1 v0_3))) x.1 x.2.1) (by kernel_rfl) ?_
 try rw [show (fun a0 a1 m v0_3=>(loopAt (opE TT OVS NTS DFS MTS G55 n) Try.f55.ntmps H55 n b55 [.r,.l,.r,.b] (kRet TT [(.val false (.seq 3 ki)),(.val false ki)] [(false,.val ki)] Try.f55.results.toList) m (st55_0 a0 a1 v0_3)))=(fun a0 a1 m v0_3=>slices_Index_int_int_l0 n a0 a1 m v0_3) from funext fun a0=>funext fun a1=>funext fun m=>funext fun v0_3=>slices_Index_int_int_l0_ok n a0 a1 m v0_3]
 first | rfl | kernel_rfl
def c55:Con:=⟨[(.val false (.seq 3 ki)),(.val false ki)],[(false,.val ki)],fun n x=>slices_Index_int_int n x.1 x.2.1⟩
theorem c55_ok:ConOK Try.prog 55 c55:=funE_ok TT_ok mixed Try.func55 (body:=b55) rfl rfl (by decide +kernel) (fun n=>opE_ok TT_ok OVS_ok NTS DFS MTS_ok (G:=G55) (GOK.nil) n) (H:=H55) fun n x y h=>(slices_Index_int_int_eq n x).trans h
def b41:Go.Code:=Try.f41.body.getD .skip
def H41:HL:=[]
def G41 (F55:CT c55):List (Nat×Con):=[(55,⟨c55.ps,c55.rs,F55⟩)]
def slices_Contains_int_int_g (n:Nat) (F55:CT c55) (a0:List Int) (a1:Int):Option Bool :=
 Option.bind (α:=Int) (F55 n (a0,a1,())) fun r0↦some (decide (r0≥(0:Int)))
theorem slices_Contains_int_int_eq (n:Nat) (F55:CT c55) (x:DPs [(.val false (.seq 3 ki)),(.val false ki)]):funE TT [(.val false (.seq 3 ki)),(.val false ki)] [(false,.val .bool)] (opE TT OVS NTS DFS MTS (G41 F55) n) H41 Try.f41.ntmps Try.f41.results.toList b41 n x=slices_Contains_int_int_g n F55 x.1 x.2.1:=by
 kernel_rfl
def slices_Contains_int_int (n:Nat) (a0:List Int) (a1:Int):Option Bool:=slices_Contains_int_int_g n c55.F a0 a1
def c41:Con:=⟨[(.val false (.seq 3 ki)),(.val false ki)],[(false,.val .bool)],fun n x=>slices_Contains_int_int n x.1 x.2.1⟩
theorem c41_ok:ConOK Try.prog 41 c41:=funE_ok TT_ok mixed Try.func41 (body:=b41) rfl rfl (by decide +kernel) (fun n=>opE_ok TT_ok OVS_ok NTS DFS MTS_ok (G:=G41 c55.F) (GOK.cons c55_ok (GOK.nil)) n) (H:=H41) fun n x y h=>(slices_Contains_int_int_eq n c55.F x).trans h
def st44_0 (a0:List Int) (v1_1:Int) (v1_2:Int):LS:=({ env:=[(nat_lit 0,vS (nat_lit 3) ki a0),(nat_lit 3,vI v1_1),(nat_lit 4,vI v1_2)],heap:=nl (Nat×Option HV),next:=nat_lit 0,pins:=[] })
def b44:Go.Code:=Try.f44.body.getD .skip
def H44:HL:=[(1000003,[0],[]),(5,[0,3,4],[])]
def G44:List (Nat×Con):=[]
def slices_Min_int_int_l1_step (n:Nat) (a0:List Int) (ih1:(Int)→(Int)→Option Int) (v1_1:Int) (v1_2:Int):Option Int :=
 bif decide (v1_2 < (a0.length:Int)) then if (0:Int)≤v1_2∧v1_2 < (a0.length:Int) then ih1 (if a0.getD v1_2.toNat (0:Int) < v1_1 then a0.getD v1_2.toNat (0:Int) else v1_1) (i64.wrap (v1_2 + (1:Int))) else none else some v1_1
def slices_Min_int_int_l1 (n:Nat) (a0:List Int):Nat→(Int)→(Int)→Option Int
 | 0,_,_=>none
 | m1 + 1,v1_1,v1_2=>slices_Min_int_int_l1_step n a0 (slices_Min_int_int_l1 n a0 m1) v1_1 v1_2
def slices_Min_int_int_j0_step (n:Nat) (h1:(List Int)→Nat→(Int)→(Int)→Option Int) (a0:List Int):Option Int :=
 if (0:Int)≤(0:Int)∧(0:Int) < (a0.length:Int) then h1 a0 n (a0.getD (Int.toNat (0:Int)) (0:Int)) (1:Int) else none
def slices_Min_int_int_j0 (n:Nat) (a0:List Int):Option Int:=slices_Min_int_int_j0_step n (fun (_:List Int) m v1_1 v1_2=>slices_Min_int_int_l1 n a0 m v1_1 v1_2) a0
def slices_Min_int_int_h (n:Nat) (h0:(List Int)→Option Int) (a0:List Int):Option Int :=
 bif decide ((a0.length:Int) < (1:Int)) then none else h0 a0
def slices_Min_int_int (n:Nat) (a0:List Int):Option Int:=slices_Min_int_int_h n (fun a0=>slices_Min_int_int_j0 n a0) a0
theorem slices_Min_int_int_l1_ok (n:Nat) (a0:List Int):∀ (m1:Nat) (v1_1:Int) (v1_2:Int),(loopAt (opE TT OVS NTS DFS MTS G44 n) Try.f44.ntmps H44 n b44 [.r,.r,.r,.l,.r,.b] (kRet TT [(.val false (.seq 3 ki))] [(false,.val ki)] Try.f44.results.toList) m1 (st44_0 a0 v1_1 v1_2))=slices_Min_int_int_l1 n a0 m1 v1_1 v1_2:=by
 intro m1
 induction m1 with
 | zero=>intros; kernel_rfl
 | succ m1 ih =>
  intro v1_1 v1_2
  refine Eq.trans (b:=slices_Min_int_int_l1_step n a0 (fun v1_1 v1_2=>(loopAt (opE TT OVS NTS DFS MTS G44 n) Try.f44.ntmps H44 n b44 [.r,.r,.r,.l,.r,.b] (kRet TT [(.val false (.seq 3 ki))] [(false,.val ki)] Try.f44.results.toList) m1 (st44_0 a0 v1_1 v1_2))) v1_1 v1_2) (by kernel_rfl) ?_
  rw [show (fun v1_1 v1_2=>(loopAt (opE TT OVS NTS DFS MTS G44 n) Try.f44.ntmps H44 n b44 [.r,.r,.r,.l,.r,.b] (kRet TT [(.val false (.seq 3 ki))] [(false,.val ki)] Try.f44.results.toList) m1 (st44_0 a0 v1_1 v1_2)))=slices_Min_int_int_l1 n a0 m1 from funext fun v1_1=>funext fun v1_2=>ih v1_1 v1_2]
  first | rfl | kernel_rfl
theorem slices_Min_int_int_j0_ok (n:Nat) (a0:List Int):(jnR (codeE (opE TT OVS NTS DFS MTS G44 n) Try.f44.ntmps H44 n (codeAt b44 [.r,.r])) ({ env:=[(nat_lit 0,vS (nat_lit 3) ki a0)],heap:=nl (Nat×Option HV),next:=nat_lit 0,pins:=[] }) (kAt (opE TT OVS NTS DFS MTS G44 n) Try.f44.ntmps H44 n b44 [.r,.r] (kRet TT [(.val false (.seq 3 ki))] [(false,.val ki)] Try.f44.results.toList)))=slices_Min_int_int_j0 n a0:=by
  refine Eq.trans (b:=slices_Min_int_int_j0_step n (fun (_:List Int) m v1_1 v1_2=>(loopAt (opE TT OVS NTS DFS MTS G44 n) Try.f44.ntmps H44 n b44 [.r,.r,.r,.l,.r,.b] (kRet TT [(.val false (.seq 3 ki))] [(false,.val ki)] Try.f44.results.toList) m (st44_0 a0 v1_1 v1_2))) a0) (by kernel_rfl) ?_
  try rw [show (fun (_:List Int) m v1_1 v1_2=>(loopAt (opE TT OVS NTS DFS MTS G44 n) Try.f44.ntmps H44 n b44 [.r,.r,.r,.l,.r,.b] (kRet TT [(.val false (.seq 3 ki))] [(false,.val ki)] Try.f44.results.toList) m (st44_0 a0 v1_1 v1_2)))=(fun (_:List Int) m v1_1 v1_2=>slices_Min_int_int_l1 n a0 m v1_1 v1_2) from funext fun _=>funext fun m=>funext fun v1_1=>funext fun v1_2=>slices_Min_int_int_l1_ok n a0 m v1_1 v1_2]
  first | rfl | kernel_rfl
theorem slices_Min_int_int_eq (n:Nat) (x:DPs [(.val false (.seq 3 ki))]):funE TT [(.val false (.seq 3 ki))] [(false,.val ki)] (opE TT OVS NTS DFS MTS G44 n) H44 Try.f44.ntmps Try.f44.results.toList b44 n x=slices_Min_int_int n x.1:=by
 refine Eq.trans (b:=slices_Min_int_int_h n (fun a0=>(jnR (codeE (opE TT OVS NTS DFS MTS G44 n) Try.f44.ntmps H44 n (codeAt b44 [.r,.r])) ({ env:=[(nat_lit 0,vS (nat_lit 3) ki a0)],heap:=nl (Nat×Option HV),next:=nat_lit 0,pins:=[] }) (kAt (opE TT OVS NTS DFS MTS G44 n) Try.f44.ntmps H44 n b44 [.r,.r] (kRet TT [(.val false (.seq 3 ki))] [(false,.val ki)] Try.f44.results.toList)))) x.1) (by kernel_rfl) ?_
 try rw [show (fun a0=>(jnR (codeE (opE TT OVS NTS DFS MTS G44 n) Try.f44.ntmps H44 n (codeAt b44 [.r,.r])) ({ env:=[(nat_lit 0,vS (nat_lit 3) ki a0)],heap:=nl (Nat×Option HV),next:=nat_lit 0,pins:=[] }) (kAt (opE TT OVS NTS DFS MTS G44 n) Try.f44.ntmps H44 n b44 [.r,.r] (kRet TT [(.val false (.seq 3 ki))] [(false,.val ki)] Try.f44.results.toList))))=(fun a0=>slices_Min_int_int_j0 n a0) from funext fun a0=>slices_Min_int_int_j0_ok n a0]
 first | rfl | kernel_rfl
def c44:Con:=⟨[(.val false (.seq 3 ki))],[(false,.val ki)],fun n x=>slices_Min_int_int n x.1⟩
theorem c44_ok:ConOK Try.prog 44 c44:=funE_ok TT_ok mixed Try.func44 (body:=b44) rfl rfl (by decide +kernel) (fun n=>opE_ok TT_ok OVS_ok NTS DFS MTS_ok (G:=G44) (GOK.nil) n) (H:=H44) fun n x y h=>(slices_Min_int_int_eq n x).trans h
def st45_0 (a0:List (tI)) (a1:List (tI)) (v0_3:Int):LS:=({ env:=[(nat_lit 0,vS (nat_lit 44) kI a0),(nat_lit 1,vS (nat_lit 44) kI a1),(nat_lit 12,vI (a0.length:Int)),(nat_lit 13,vI v0_3)],heap:=nl (Nat×Option HV),next:=nat_lit 0,pins:=[] })
def b45:Go.Code:=Try.f45.body.getD .skip
def H45:HL:=[(4,[0,1,12,13],[])]
def G45:List (Nat×Con):=[]
def slices_Equal_api_Item_l0_step (n:Nat) (a0:List (tI)) (a1:List (tI)) (ih0:(Int)→Option Bool) (v0_3:Int):Option Bool :=
 bif decide (v0_3 < (a0.length:Int)) then if (0:Int)≤v0_3∧v0_3 < (a0.length:Int) then if (0:Int)≤v0_3∧v0_3 < (a1.length:Int) then bif !((a0.getD v0_3.toNat ((0:Int),(0:Int),(0:Int),(0:Int))).fst == (a1.getD v0_3.toNat ((0:Int),(0:Int),(0:Int),(0:Int))).fst&&((a0.getD v0_3.toNat ((0:Int),(0:Int),(0:Int),(0:Int))).snd.fst == (a1.getD v0_3.toNat ((0:Int),(0:Int),(0:Int),(0:Int))).snd.fst&&((a0.getD v0_3.toNat ((0:Int),(0:Int),(0:Int),(0:Int))).snd.snd.fst == (a1.getD v0_3.toNat ((0:Int),(0:Int),(0:Int),(0:Int))).snd.snd.fst&&((a0.getD v0_3.toNat ((0:Int),(0:Int),(0:Int),(0:Int))).snd.snd.snd == (a1.getD v0_3.toNat ((0:Int),(0:Int),(0:Int),(0:Int))).snd.snd.snd&&true)))) then some false else ih0 (i64.wrap (v0_3 + (1:Int))) else none else none else some true
def slices_Equal_api_Item_l0 (n:Nat) (a0:List (tI)) (a1:List (tI)):Nat→(Int)→Option Bool
 | 0,_=>none
 | m0 + 1,v0_3=>slices_Equal_api_Item_l0_step n a0 a1 (slices_Equal_api_Item_l0 n a0 a1 m0) v0_3
def slices_Equal_api_Item_h (n:Nat) (h0:(List (tI))→(List (tI))→Nat→(Int)→Option Bool) (a0:List (tI)) (a1:List (tI)):Option Bool :=
 bif (a0.length:Int) != (a1.length:Int) then some false else h0 a0 a1 n (0:Int)
def slices_Equal_api_Item (n:Nat) (a0:List (tI)) (a1:List (tI)):Option Bool:=slices_Equal_api_Item_h n (fun a0 a1 m v0_3=>slices_Equal_api_Item_l0 n a0 a1 m v0_3) a0 a1
theorem slices_Equal_api_Item_l0_ok (n:Nat) (a0:List (tI)) (a1:List (tI)):∀ (m0:Nat) (v0_3:Int),(loopAt (opE TT OVS NTS DFS MTS G45 n) Try.f45.ntmps H45 n b45 [.r,.r,.l,.r,.b] (kRet TT [(.val false (.seq 44 kI)),(.val false (.seq 44 kI))] [(false,.val .bool)] Try.f45.results.toList) m0 (st45_0 a0 a1 v0_3))=slices_Equal_api_Item_l0 n a0 a1 m0 v0_3:=by
 intro m0
 induction m0 with
 | zero=>intros; kernel_rfl
 | succ m0 ih =>
  intro v0_3
  refine Eq.trans (b:=slices_Equal_api_Item_l0_step n a0 a1 (fun v0_3=>(loopAt (opE TT OVS NTS DFS MTS G45 n) Try.f45.ntmps H45 n b45 [.r,.r,.l,.r,.b] (kRet TT [(.val false (.seq 44 kI)),(.val false (.seq 44 kI))] [(false,.val .bool)] Try.f45.results.toList) m0 (st45_0 a0 a1 v0_3))) v0_3) (by kernel_rfl) ?_
  rw [show (fun v0_3=>(loopAt (opE TT OVS NTS DFS MTS G45 n) Try.f45.ntmps H45 n b45 [.r,.r,.l,.r,.b] (kRet TT [(.val false (.seq 44 kI)),(.val false (.seq 44 kI))] [(false,.val .bool)] Try.f45.results.toList) m0 (st45_0 a0 a1 v0_3)))=slices_Equal_api_Item_l0 n a0 a1 m0 from funext fun v0_3=>ih v0_3]
  first | rfl | kernel_rfl
theorem slices_Equal_api_Item_eq (n:Nat) (x:DPs [(.val false (.seq 44 kI)),(.val false (.seq 44 kI))]):funE TT [(.val false (.seq 44 kI)),(.val false (.seq 44 kI))] [(false,.val .bool)] (opE TT OVS NTS DFS MTS G45 n) H45 Try.f45.ntmps Try.f45.results.toList b45 n x=slices_Equal_api_Item n x.1 x.2.1:=by
 refine Eq.trans (b:=slices_Equal_api_Item_h n (fun a0 a1 m v0_3=>(loopAt (opE TT OVS NTS DFS MTS G45 n) Try.f45.ntmps H45 n b45 [.r,.r,.l,.r,.b] (kRet TT [(.val false (.seq 44 kI)),(.val false (.seq 44 kI))] [(false,.val .bool)] Try.f45.results.toList) m (st45_0 a0 a1 v0_3))) x.1 x.2.1) (by kernel_rfl) ?_
 try rw [show (fun a0 a1 m v0_3=>(loopAt (opE TT OVS NTS DFS MTS G45 n) Try.f45.ntmps H45 n b45 [.r,.r,.l,.r,.b] (kRet TT [(.val false (.seq 44 kI)),(.val false (.seq 44 kI))] [(false,.val .bool)] Try.f45.results.toList) m (st45_0 a0 a1 v0_3)))=(fun a0 a1 m v0_3=>slices_Equal_api_Item_l0 n a0 a1 m v0_3) from funext fun a0=>funext fun a1=>funext fun m=>funext fun v0_3=>slices_Equal_api_Item_l0_ok n a0 a1 m v0_3]
 first | rfl | kernel_rfl
def c45:Con:=⟨[(.val false (.seq 44 kI)),(.val false (.seq 44 kI))],[(false,.val .bool)],fun n x=>slices_Equal_api_Item n x.1 x.2.1⟩
theorem c45_ok:ConOK Try.prog 45 c45:=funE_ok TT_ok mixed Try.func45 (body:=b45) rfl rfl (by decide +kernel) (fun n=>opE_ok TT_ok OVS_ok NTS DFS MTS_ok (G:=G45) (GOK.nil) n) (H:=H45) fun n x y h=>(slices_Equal_api_Item_eq n x).trans h
def b40:Go.Code:=Try.f40.body.getD .skip
def H40:HL:=[]
def G40:List (Nat×Con):=[]
def series_IdMay (n:Nat) (a0:Int):Option Bool :=
 bif decide (a0≥(0:Int)) then some (decide (a0≤(1048575:Int))) else some false
theorem series_IdMay_eq (n:Nat) (x:DPs [(.val false ki)]):funE TT [(.val false ki)] [(false,.val .bool)] (opE TT OVS NTS DFS MTS G40 n) H40 Try.f40.ntmps Try.f40.results.toList b40 n x=series_IdMay n x.1:=by
 kernel_rfl
def c40:Con:=⟨[(.val false ki)],[(false,.val .bool)],fun n x=>series_IdMay n x.1⟩
theorem c40_ok:ConOK Try.prog 40 c40:=funE_ok TT_ok mixed Try.func40 (body:=b40) rfl rfl (by decide +kernel) (fun n=>opE_ok TT_ok OVS_ok NTS DFS MTS_ok (G:=G40) (GOK.nil) n) (H:=H40) fun n x y h=>(series_IdMay_eq n x).trans h
def st23_0 (a0:(tC)×Int×List Int×List Int×Int×List (tI)×ByteArray×Int) (v0_3:Int):LS:=({ env:=[(nat_lit 0,some (AV.sv false [CV.iptr (((Ty.seq (nat_lit 50) kQ).pair kI).pair (ki.pair ((Ty.seq (nat_lit 3) ki).pair ((Ty.seq (nat_lit 3) ki).pair (ki.pair ((Ty.seq (nat_lit 44) kI).pair (Ty.str.pair ki))))))) a0 (nat_lit 0)])),(nat_lit 19,vS (nat_lit 3) ki a0.snd.snd.snd.fst),(nat_lit 20,vI (a0.snd.snd.snd.fst.length:Int)),(nat_lit 21,vI v0_3)],heap:=nl (Nat×Option HV),next:=nat_lit 0,pins:=[] })
def b23:Go.Code:=Try.f23.body.getD .skip
def H23:HL:=[(4,[0,19,20,21],[])]
def G23 (F40:CT c40) (F41:CT c41):List (Nat×Con):=[(40,⟨c40.ps,c40.rs,F40⟩),(41,⟨c41.ps,c41.rs,F41⟩)]
def check_names_l0_step (n:Nat) (F40:CT c40) (F41:CT c41) (a0:(tC)×Int×List Int×List Int×Int×List (tI)×ByteArray×Int) (ih0:(Int)→Option Bool) (v0_3:Int):Option Bool :=
 bif decide (v0_3 < (a0.snd.snd.snd.fst.length:Int)) then if (0:Int)≤v0_3∧v0_3 < (a0.snd.snd.snd.fst.length:Int) then Option.bind (α:=Bool) (F40 n (a0.snd.snd.snd.fst.getD v0_3.toNat (0:Int),())) fun r0↦bif !r0 then some false else if (0:Int)≤(0:Int)∧(0:Int)≤v0_3∧v0_3≤(a0.snd.snd.snd.fst.length:Int) then Option.bind (α:=Bool) (F41 n (List.drop (Int.toNat (0:Int)) (List.take v0_3.toNat a0.snd.snd.snd.fst),a0.snd.snd.snd.fst.getD v0_3.toNat (0:Int),())) fun r1↦bif r1 then some false else ih0 (i64.wrap (v0_3 + (1:Int))) else none else none else some true
def check_names_l0 (n:Nat) (F40:CT c40) (F41:CT c41) (a0:(tC)×Int×List Int×List Int×Int×List (tI)×ByteArray×Int):Nat→(Int)→Option Bool
 | 0,_=>none
 | m0 + 1,v0_3=>check_names_l0_step n F40 F41 a0 (check_names_l0 n F40 F41 a0 m0) v0_3
def check_names_h (n:Nat) (F40:CT c40) (F41:CT c41) (h0:((tC)×Int×List Int×List Int×Int×List (tI)×ByteArray×Int)→Nat→(Int)→Option Bool) (a0:(tC)×Int×List Int×List Int×Int×List (tI)×ByteArray×Int):Option Bool :=
 bif decide ((a0.snd.snd.snd.fst.length:Int) > a0.fst.snd.snd.snd.fst) then some false else h0 a0 n (0:Int)
def check_names_g (n:Nat) (F40:CT c40) (F41:CT c41) (a0:(tC)×Int×List Int×List Int×Int×List (tI)×ByteArray×Int):Option Bool:=check_names_h n F40 F41 (fun a0 m v0_3=>check_names_l0 n F40 F41 a0 m v0_3) a0
theorem check_names_l0_ok (n:Nat) (F40:CT c40) (F41:CT c41) (a0:(tC)×Int×List Int×List Int×Int×List (tI)×ByteArray×Int):∀ (m0:Nat) (v0_3:Int),(loopAt (opE TT OVS NTS DFS MTS (G23 F40 F41) n) Try.f23.ntmps H23 n b23 [.r,.r,.l,.r,.b] (kRet TT [(.iref (.pair (.pair (.seq 50 kQ) kI) (.pair ki (.pair (.seq 3 ki) (.pair (.seq 3 ki) (.pair ki (.pair (.seq 44 kI) (.pair .str ki))))))))] [(false,.val .bool)] Try.f23.results.toList) m0 (st23_0 a0 v0_3))=check_names_l0 n F40 F41 a0 m0 v0_3:=by
 intro m0
 induction m0 with
 | zero=>intros; kernel_rfl
 | succ m0 ih =>
  intro v0_3
  refine Eq.trans (b:=check_names_l0_step n F40 F41 a0 (fun v0_3=>(loopAt (opE TT OVS NTS DFS MTS (G23 F40 F41) n) Try.f23.ntmps H23 n b23 [.r,.r,.l,.r,.b] (kRet TT [(.iref (.pair (.pair (.seq 50 kQ) kI) (.pair ki (.pair (.seq 3 ki) (.pair (.seq 3 ki) (.pair ki (.pair (.seq 44 kI) (.pair .str ki))))))))] [(false,.val .bool)] Try.f23.results.toList) m0 (st23_0 a0 v0_3))) v0_3) (by kernel_rfl) ?_
  rw [show (fun v0_3=>(loopAt (opE TT OVS NTS DFS MTS (G23 F40 F41) n) Try.f23.ntmps H23 n b23 [.r,.r,.l,.r,.b] (kRet TT [(.iref (.pair (.pair (.seq 50 kQ) kI) (.pair ki (.pair (.seq 3 ki) (.pair (.seq 3 ki) (.pair ki (.pair (.seq 44 kI) (.pair .str ki))))))))] [(false,.val .bool)] Try.f23.results.toList) m0 (st23_0 a0 v0_3)))=check_names_l0 n F40 F41 a0 m0 from funext fun v0_3=>ih v0_3]
  first | rfl | kernel_rfl
theorem check_names_eq (n:Nat) (F40:CT c40) (F41:CT c41) (x:DPs [(.iref (.pair (.pair (.seq 50 kQ) kI) (.pair ki (.pair (.seq 3 ki) (.pair (.seq 3 ki) (.pair ki (.pair (.seq 44 kI) (.pair .str ki))))))))]):funE TT [(.iref (.pair (.pair (.seq 50 kQ) kI) (.pair ki (.pair (.seq 3 ki) (.pair (.seq 3 ki) (.pair ki (.pair (.seq 44 kI) (.pair .str ki))))))))] [(false,.val .bool)] (opE TT OVS NTS DFS MTS (G23 F40 F41) n) H23 Try.f23.ntmps Try.f23.results.toList b23 n x=check_names_g n F40 F41 x.1:=by
 refine Eq.trans (b:=check_names_h n F40 F41 (fun a0 m v0_3=>(loopAt (opE TT OVS NTS DFS MTS (G23 F40 F41) n) Try.f23.ntmps H23 n b23 [.r,.r,.l,.r,.b] (kRet TT [(.iref (.pair (.pair (.seq 50 kQ) kI) (.pair ki (.pair (.seq 3 ki) (.pair (.seq 3 ki) (.pair ki (.pair (.seq 44 kI) (.pair .str ki))))))))] [(false,.val .bool)] Try.f23.results.toList) m (st23_0 a0 v0_3))) x.1) (by kernel_rfl) ?_
 try rw [show (fun a0 m v0_3=>(loopAt (opE TT OVS NTS DFS MTS (G23 F40 F41) n) Try.f23.ntmps H23 n b23 [.r,.r,.l,.r,.b] (kRet TT [(.iref (.pair (.pair (.seq 50 kQ) kI) (.pair ki (.pair (.seq 3 ki) (.pair (.seq 3 ki) (.pair ki (.pair (.seq 44 kI) (.pair .str ki))))))))] [(false,.val .bool)] Try.f23.results.toList) m (st23_0 a0 v0_3)))=(fun a0 m v0_3=>check_names_l0 n F40 F41 a0 m v0_3) from funext fun a0=>funext fun m=>funext fun v0_3=>check_names_l0_ok n F40 F41 a0 m v0_3]
 first | rfl | kernel_rfl
def check_names (n:Nat) (a0:(tC)×Int×List Int×List Int×Int×List (tI)×ByteArray×Int):Option Bool:=check_names_g n c40.F c41.F a0
def c23:Con:=⟨[(.iref (.pair (.pair (.seq 50 kQ) kI) (.pair ki (.pair (.seq 3 ki) (.pair (.seq 3 ki) (.pair ki (.pair (.seq 44 kI) (.pair .str ki))))))))],[(false,.val .bool)],fun n x=>check_names n x.1⟩
theorem c23_ok:ConOK Try.prog 23 c23:=funE_ok TT_ok mixed Try.func23 (body:=b23) rfl rfl (by decide +kernel) (fun n=>opE_ok TT_ok OVS_ok NTS DFS MTS_ok (G:=G23 c40.F c41.F) (GOK.cons c40_ok (GOK.cons c41_ok (GOK.nil))) n) (H:=H23) fun n x y h=>(check_names_eq n c40.F c41.F x).trans h
def st19_0 (v0_0:ByteArray) (u2_1:Int) (v0_2:Int) (v0_3:Int) (v1_4:Int):LS:=({ env:=[(nat_lit 0,some (AV.sv false [CV.lit (Value.string v0_0)])),(nat_lit 3,vI u2_1),(nat_lit 7,vI v0_2),(nat_lit 8,vI v0_3),(nat_lit 18,vI v1_4)],heap:=nl (Nat×Option HV),next:=nat_lit 0,pins:=[] })
def st19_1 (v0_0:ByteArray) (v1_1:Int) (v0_2:Int) (v0_3:Int) (v1_4:Int):LS:=({ env:=[(nat_lit 0,some (AV.sv false [CV.lit (Value.string v0_0)])),(nat_lit 3,vI v1_1),(nat_lit 7,vI v0_2),(nat_lit 8,vI v0_3),(nat_lit 18,vI v1_4)],heap:=nl (Nat×Option HV),next:=nat_lit 0,pins:=[] })
def st19_2 (v0_0:ByteArray) (v0_1:Int) (v0_2:Int) (v0_3:Int):LS:=({ env:=[(nat_lit 0,some (AV.sv false [CV.lit (Value.string v0_0)])),(nat_lit 3,vI v0_1),(nat_lit 7,vI v0_2),(nat_lit 8,vI v0_3)],heap:=nl (Nat×Option HV),next:=nat_lit 0,pins:=[] })
def b19:Go.Code:=Try.f19.body.getD .skip
def H19:HL:=[(3,[0,3,7,8],[]),(7,[0,3,7,8,18],[]),(1000012,[0,3,7,8,18],[])]
def G19:List (Nat×Con):=[]
def frame_Sum_j2_step (n:Nat) (v0_0:ByteArray) (v0_2:Int) (v0_3:Int) (v1_4:Int) (ih1:(Int)→(Int)→Option Int) (u2_1:Int):Option Int :=
 ih1 u2_1 (i64.wrap (v1_4 + (1:Int)))
def frame_Sum_j2 (n:Nat) (v0_0:ByteArray) (v0_2:Int) (v0_3:Int) (v1_4:Int) (ih1:(Int)→(Int)→Option Int) (u2_1:Int):Option Int:=frame_Sum_j2_step n v0_0 v0_2 v0_3 v1_4 ih1 u2_1
def frame_Sum_l1_step (n:Nat) (h2:(ByteArray)→(Int)→(Int)→(Int)→(Int)→Option Int) (v0_0:ByteArray) (v0_2:Int) (v0_3:Int) (ih0:(ByteArray)→(Int)→(Int)→(Int)→Option Int) (ih1:(Int)→(Int)→Option Int) (v1_1:Int) (v1_4:Int):Option Int :=
 bif decide (v1_4 < (8:Int)) then bif i64.wrap ((BitVec.ofInt i64.bits v1_1 &&& BitVec.ofInt i64.bits (32768:Int)).toNat:Int) != (0:Int) then h2 v0_0 v0_2 v0_3 v1_4 (i64.wrap ((BitVec.ofInt i64.bits ((i64.wrap (v1_1 * (2:Int) ^ Min.min (Int.toNat (1:Int)) i64.bits)).tmod (65536:Int)) ^^^ BitVec.ofInt i64.bits (4129:Int)).toNat:Int)) else h2 v0_0 v0_2 v0_3 v1_4 ((i64.wrap (v1_1 * (2:Int) ^ Min.min (Int.toNat (1:Int)) i64.bits)).tmod (65536:Int)) else ih0 v0_0 v1_1 v0_2 (i64.wrap (v0_3 + (1:Int)))
def frame_Sum_l1 (n:Nat) (v0_0:ByteArray) (v0_2:Int) (v0_3:Int) (ih0:(ByteArray)→(Int)→(Int)→(Int)→Option Int):Nat→(Int)→(Int)→Option Int
 | 0,_,_=>none
 | m1 + 1,v1_1,v1_4=>frame_Sum_l1_step n (fun (_:ByteArray) (_:Int) (_:Int) v1_4 u2_1=>frame_Sum_j2 n v0_0 v0_2 v0_3 v1_4 (frame_Sum_l1 n v0_0 v0_2 v0_3 ih0 m1) u2_1) v0_0 v0_2 v0_3 ih0 (frame_Sum_l1 n v0_0 v0_2 v0_3 ih0 m1) v1_1 v1_4
def frame_Sum_l0_step (n:Nat) (h1:(ByteArray)→(Int)→(Int)→Nat→(Int)→(Int)→Option Int) (ih0:(ByteArray)→(Int)→(Int)→(Int)→Option Int) (v0_0:ByteArray) (v0_1:Int) (v0_2:Int) (v0_3:Int):Option Int :=
 bif decide (v0_3 < v0_2) then if (0:Int)≤v0_3∧v0_3 < (v0_0.size:Int) then h1 v0_0 v0_2 v0_3 n (i64.wrap ((BitVec.ofInt i64.bits v0_1 ^^^ BitVec.ofInt i64.bits (i64.wrap (i64.wrap ((v0_0.data.getD v0_3.toNat (0:UInt8)).toNat:Int) * (2:Int) ^ Min.min (Int.toNat (8:Int)) i64.bits))).toNat:Int)) (0:Int) else none else some v0_1
def frame_Sum_l0 (n:Nat):Nat→(ByteArray)→(Int)→(Int)→(Int)→Option Int
 | 0,_,_,_,_=>none
 | m0 + 1,v0_0,v0_1,v0_2,v0_3=>frame_Sum_l0_step n (fun v0_0 v0_2 v0_3 m v1_1 v1_4=>frame_Sum_l1 n v0_0 v0_2 v0_3 (frame_Sum_l0 n m0) m v1_1 v1_4) (frame_Sum_l0 n m0) v0_0 v0_1 v0_2 v0_3
def frame_Sum_h (n:Nat) (h0:Nat→(ByteArray)→(Int)→(Int)→(Int)→Option Int) (a0:ByteArray):Option Int :=
 h0 n a0 (65535:Int) (a0.size:Int) (0:Int)
def frame_Sum (n:Nat) (a0:ByteArray):Option Int:=frame_Sum_h n (fun m v0_0 v0_1 v0_2 v0_3=>frame_Sum_l0 n m v0_0 v0_1 v0_2 v0_3) a0
theorem frame_Sum_j2_ok (n:Nat) (v0_0:ByteArray) (v0_2:Int) (v0_3:Int) (v1_4:Int) (m0:Nat) (m1:Nat) (u2_1:Int):(jnR (codeE (opE TT OVS NTS DFS MTS G19 n) Try.f19.ntmps H19 n (codeAt b19 [.r,.r,.l,.r,.b,.loop m0,.r,.r,.l,.b,.r,.r,.r,.b,.loop m1,.r,.r,.r])) (st19_0 v0_0 u2_1 v0_2 v0_3 v1_4) (kAt (opE TT OVS NTS DFS MTS G19 n) Try.f19.ntmps H19 n b19 [.r,.r,.l,.r,.b,.loop m0,.r,.r,.l,.b,.r,.r,.r,.b,.loop m1,.r,.r,.r] (kRet TT [(.val false .str)] [(false,.val ki)] Try.f19.results.toList)))=frame_Sum_j2 n v0_0 v0_2 v0_3 v1_4 (fun v1_1 v1_4=>(loopAt (opE TT OVS NTS DFS MTS G19 n) Try.f19.ntmps H19 n b19 [.r,.r,.l,.r,.b,.loop m0,.r,.r,.l,.b,.r,.r,.r,.b] (kRet TT [(.val false .str)] [(false,.val ki)] Try.f19.results.toList) m1 (st19_1 v0_0 v1_1 v0_2 v0_3 v1_4))) u2_1:=by
  refine Eq.trans (b:=frame_Sum_j2_step n v0_0 v0_2 v0_3 v1_4 (fun v1_1 v1_4=>(loopAt (opE TT OVS NTS DFS MTS G19 n) Try.f19.ntmps H19 n b19 [.r,.r,.l,.r,.b,.loop m0,.r,.r,.l,.b,.r,.r,.r,.b] (kRet TT [(.val false .str)] [(false,.val ki)] Try.f19.results.toList) m1 (st19_1 v0_0 v1_1 v0_2 v0_3 v1_4))) u2_1) (by kernel_rfl) ?_
  first | rfl | kernel_rfl
theorem frame_Sum_l1_ok (n:Nat) (v0_0:ByteArray) (v0_2:Int) (v0_3:Int) (m0:Nat):∀ (m1:Nat) (v1_1:Int) (v1_4:Int),(loopAt (opE TT OVS NTS DFS MTS G19 n) Try.f19.ntmps H19 n b19 [.r,.r,.l,.r,.b,.loop m0,.r,.r,.l,.b,.r,.r,.r,.b] (kRet TT [(.val false .str)] [(false,.val ki)] Try.f19.results.toList) m1 (st19_1 v0_0 v1_1 v0_2 v0_3 v1_4))=frame_Sum_l1 n v0_0 v0_2 v0_3 (fun v0_0 v0_1 v0_2 v0_3=>(loopAt (opE TT OVS NTS DFS MTS G19 n) Try.f19.ntmps H19 n b19 [.r,.r,.l,.r,.b] (kRet TT [(.val false .str)] [(false,.val ki)] Try.f19.results.toList) m0 (st19_2 v0_0 v0_1 v0_2 v0_3))) m1 v1_1 v1_4:=by
 intro m1
 induction m1 with
 | zero=>intros; kernel_rfl
 | succ m1 ih =>
  intro v1_1 v1_4
  refine Eq.trans (b:=frame_Sum_l1_step n (fun (_:ByteArray) (_:Int) (_:Int) v1_4 u2_1=>(jnR (codeE (opE TT OVS NTS DFS MTS G19 n) Try.f19.ntmps H19 n (codeAt b19 [.r,.r,.l,.r,.b,.loop m0,.r,.r,.l,.b,.r,.r,.r,.b,.loop m1,.r,.r,.r])) (st19_0 v0_0 u2_1 v0_2 v0_3 v1_4) (kAt (opE TT OVS NTS DFS MTS G19 n) Try.f19.ntmps H19 n b19 [.r,.r,.l,.r,.b,.loop m0,.r,.r,.l,.b,.r,.r,.r,.b,.loop m1,.r,.r,.r] (kRet TT [(.val false .str)] [(false,.val ki)] Try.f19.results.toList)))) v0_0 v0_2 v0_3 (fun v0_0 v0_1 v0_2 v0_3=>(loopAt (opE TT OVS NTS DFS MTS G19 n) Try.f19.ntmps H19 n b19 [.r,.r,.l,.r,.b] (kRet TT [(.val false .str)] [(false,.val ki)] Try.f19.results.toList) m0 (st19_2 v0_0 v0_1 v0_2 v0_3))) (fun v1_1 v1_4=>(loopAt (opE TT OVS NTS DFS MTS G19 n) Try.f19.ntmps H19 n b19 [.r,.r,.l,.r,.b,.loop m0,.r,.r,.l,.b,.r,.r,.r,.b] (kRet TT [(.val false .str)] [(false,.val ki)] Try.f19.results.toList) m1 (st19_1 v0_0 v1_1 v0_2 v0_3 v1_4))) v1_1 v1_4) (by kernel_rfl) ?_
  try rw [show (fun (_:ByteArray) (_:Int) (_:Int) v1_4 u2_1=>(jnR (codeE (opE TT OVS NTS DFS MTS G19 n) Try.f19.ntmps H19 n (codeAt b19 [.r,.r,.l,.r,.b,.loop m0,.r,.r,.l,.b,.r,.r,.r,.b,.loop m1,.r,.r,.r])) (st19_0 v0_0 u2_1 v0_2 v0_3 v1_4) (kAt (opE TT OVS NTS DFS MTS G19 n) Try.f19.ntmps H19 n b19 [.r,.r,.l,.r,.b,.loop m0,.r,.r,.l,.b,.r,.r,.r,.b,.loop m1,.r,.r,.r] (kRet TT [(.val false .str)] [(false,.val ki)] Try.f19.results.toList))))=(fun (_:ByteArray) (_:Int) (_:Int) v1_4 u2_1=>frame_Sum_j2 n v0_0 v0_2 v0_3 v1_4 (fun v1_1 v1_4=>(loopAt (opE TT OVS NTS DFS MTS G19 n) Try.f19.ntmps H19 n b19 [.r,.r,.l,.r,.b,.loop m0,.r,.r,.l,.b,.r,.r,.r,.b] (kRet TT [(.val false .str)] [(false,.val ki)] Try.f19.results.toList) m1 (st19_1 v0_0 v1_1 v0_2 v0_3 v1_4))) u2_1) from funext fun _=>funext fun _=>funext fun _=>funext fun v1_4=>funext fun u2_1=>frame_Sum_j2_ok n v0_0 v0_2 v0_3 v1_4 m0 m1 u2_1]
  rw [show (fun v1_1 v1_4=>(loopAt (opE TT OVS NTS DFS MTS G19 n) Try.f19.ntmps H19 n b19 [.r,.r,.l,.r,.b,.loop m0,.r,.r,.l,.b,.r,.r,.r,.b] (kRet TT [(.val false .str)] [(false,.val ki)] Try.f19.results.toList) m1 (st19_1 v0_0 v1_1 v0_2 v0_3 v1_4)))=frame_Sum_l1 n v0_0 v0_2 v0_3 (fun v0_0 v0_1 v0_2 v0_3=>(loopAt (opE TT OVS NTS DFS MTS G19 n) Try.f19.ntmps H19 n b19 [.r,.r,.l,.r,.b] (kRet TT [(.val false .str)] [(false,.val ki)] Try.f19.results.toList) m0 (st19_2 v0_0 v0_1 v0_2 v0_3))) m1 from funext fun v1_1=>funext fun v1_4=>ih v1_1 v1_4]
  first | rfl | kernel_rfl
theorem frame_Sum_l0_ok (n:Nat):∀ (m0:Nat) (v0_0:ByteArray) (v0_1:Int) (v0_2:Int) (v0_3:Int),(loopAt (opE TT OVS NTS DFS MTS G19 n) Try.f19.ntmps H19 n b19 [.r,.r,.l,.r,.b] (kRet TT [(.val false .str)] [(false,.val ki)] Try.f19.results.toList) m0 (st19_2 v0_0 v0_1 v0_2 v0_3))=frame_Sum_l0 n m0 v0_0 v0_1 v0_2 v0_3:=by
 intro m0
 induction m0 with
 | zero=>intros; kernel_rfl
 | succ m0 ih =>
  intro v0_0 v0_1 v0_2 v0_3
  refine Eq.trans (b:=frame_Sum_l0_step n (fun v0_0 v0_2 v0_3 m v1_1 v1_4=>(loopAt (opE TT OVS NTS DFS MTS G19 n) Try.f19.ntmps H19 n b19 [.r,.r,.l,.r,.b,.loop m0,.r,.r,.l,.b,.r,.r,.r,.b] (kRet TT [(.val false .str)] [(false,.val ki)] Try.f19.results.toList) m (st19_1 v0_0 v1_1 v0_2 v0_3 v1_4))) (fun v0_0 v0_1 v0_2 v0_3=>(loopAt (opE TT OVS NTS DFS MTS G19 n) Try.f19.ntmps H19 n b19 [.r,.r,.l,.r,.b] (kRet TT [(.val false .str)] [(false,.val ki)] Try.f19.results.toList) m0 (st19_2 v0_0 v0_1 v0_2 v0_3))) v0_0 v0_1 v0_2 v0_3) (by kernel_rfl) ?_
  try rw [show (fun v0_0 v0_2 v0_3 m v1_1 v1_4=>(loopAt (opE TT OVS NTS DFS MTS G19 n) Try.f19.ntmps H19 n b19 [.r,.r,.l,.r,.b,.loop m0,.r,.r,.l,.b,.r,.r,.r,.b] (kRet TT [(.val false .str)] [(false,.val ki)] Try.f19.results.toList) m (st19_1 v0_0 v1_1 v0_2 v0_3 v1_4)))=(fun v0_0 v0_2 v0_3 m v1_1 v1_4=>frame_Sum_l1 n v0_0 v0_2 v0_3 (fun v0_0 v0_1 v0_2 v0_3=>(loopAt (opE TT OVS NTS DFS MTS G19 n) Try.f19.ntmps H19 n b19 [.r,.r,.l,.r,.b] (kRet TT [(.val false .str)] [(false,.val ki)] Try.f19.results.toList) m0 (st19_2 v0_0 v0_1 v0_2 v0_3))) m v1_1 v1_4) from funext fun v0_0=>funext fun v0_2=>funext fun v0_3=>funext fun m=>funext fun v1_1=>funext fun v1_4=>frame_Sum_l1_ok n v0_0 v0_2 v0_3 m0 m v1_1 v1_4]
  rw [show (fun v0_0 v0_1 v0_2 v0_3=>(loopAt (opE TT OVS NTS DFS MTS G19 n) Try.f19.ntmps H19 n b19 [.r,.r,.l,.r,.b] (kRet TT [(.val false .str)] [(false,.val ki)] Try.f19.results.toList) m0 (st19_2 v0_0 v0_1 v0_2 v0_3)))=frame_Sum_l0 n m0 from funext fun v0_0=>funext fun v0_1=>funext fun v0_2=>funext fun v0_3=>ih v0_0 v0_1 v0_2 v0_3]
  first | rfl | kernel_rfl
theorem frame_Sum_eq (n:Nat) (x:DPs [(.val false .str)]):funE TT [(.val false .str)] [(false,.val ki)] (opE TT OVS NTS DFS MTS G19 n) H19 Try.f19.ntmps Try.f19.results.toList b19 n x=frame_Sum n x.1:=by
 refine Eq.trans (b:=frame_Sum_h n (fun m v0_0 v0_1 v0_2 v0_3=>(loopAt (opE TT OVS NTS DFS MTS G19 n) Try.f19.ntmps H19 n b19 [.r,.r,.l,.r,.b] (kRet TT [(.val false .str)] [(false,.val ki)] Try.f19.results.toList) m (st19_2 v0_0 v0_1 v0_2 v0_3))) x.1) (by kernel_rfl) ?_
 try rw [show (fun m v0_0 v0_1 v0_2 v0_3=>(loopAt (opE TT OVS NTS DFS MTS G19 n) Try.f19.ntmps H19 n b19 [.r,.r,.l,.r,.b] (kRet TT [(.val false .str)] [(false,.val ki)] Try.f19.results.toList) m (st19_2 v0_0 v0_1 v0_2 v0_3)))=(fun m v0_0 v0_1 v0_2 v0_3=>frame_Sum_l0 n m v0_0 v0_1 v0_2 v0_3) from funext fun m=>funext fun v0_0=>funext fun v0_1=>funext fun v0_2=>funext fun v0_3=>frame_Sum_l0_ok n m v0_0 v0_1 v0_2 v0_3]
 first | rfl | kernel_rfl
def c19:Con:=⟨[(.val false .str)],[(false,.val ki)],fun n x=>frame_Sum n x.1⟩
theorem c19_ok:ConOK Try.prog 19 c19:=funE_ok TT_ok mixed Try.func19 (body:=b19) rfl rfl (by decide +kernel) (fun n=>opE_ok TT_ok OVS_ok NTS DFS MTS_ok (G:=G19) (GOK.nil) n) (H:=H19) fun n x y h=>(frame_Sum_eq n x).trans h
def b18:Go.Code:=Try.f18.body.getD .skip
def H18:HL:=[]
def G18:List (Nat×Con):=[]
def frame_Two (n:Nat) (a0:Int):Option ByteArray :=
 some (ofB (((List.replicate (2:Nat) (0:Int)).set (0:Nat) (u8.wrap (a0.fdiv ((2:Int) ^ Min.min (Int.toNat (8:Int)) i64.bits)))).set (1:Nat) (u8.wrap a0)))
theorem frame_Two_eq (n:Nat) (x:DPs [(.val false ki)]):funE TT [(.val false ki)] [(false,.val .str)] (opE TT OVS NTS DFS MTS G18 n) H18 Try.f18.ntmps Try.f18.results.toList b18 n x=frame_Two n x.1:=by
 kernel_rfl
def c18:Con:=⟨[(.val false ki)],[(false,.val .str)],fun n x=>frame_Two n x.1⟩
theorem c18_ok:ConOK Try.prog 18 c18:=funE_ok TT_ok mixed Try.func18 (body:=b18) rfl rfl (by decide +kernel) (fun n=>opE_ok TT_ok OVS_ok NTS DFS MTS_ok (G:=G18) (GOK.nil) n) (H:=H18) fun n x y h=>(frame_Two_eq n x).trans h
def b36:Go.Code:=Try.f36.body.getD .skip
def H36:HL:=[]
def G36 (F19:CT c19) (F18:CT c18):List (Nat×Con):=[(19,⟨c19.ps,c19.rs,F19⟩),(18,⟨c18.ps,c18.rs,F18⟩)]
def frame_Get_g (n:Nat) (F19:CT c19) (F18:CT c18) (a0:ByteArray) (a1:Int):Option (ByteArray×Int×Int) :=
 bif decide (a1 < (0:Int)) then some ((ByteArray.mk #[]),(0:Int),(800:Int)) else bif decide (a1 > (a0.size:Int)) then some ((ByteArray.mk #[]),(0:Int),(800:Int)) else if (0:Int)≤a1∧a1≤(a0.size:Int)∧(a0.size:Int)≤(a0.size:Int) then bif decide (((subS a0 a1.toNat (a0.size:Int).toNat).size:Int) > (0:Int)) then if (0:Int)≤(0:Int)∧(0:Int) < ((subS a0 a1.toNat (a0.size:Int).toNat).size:Int) then bif (((subS a0 a1.toNat (a0.size:Int).toNat).data.getD (Int.toNat (0:Int)) (0:UInt8)).toNat:Int) != (181:Int) then some ((ByteArray.mk #[]),(0:Int),(800:Int)) else bif decide (((subS a0 a1.toNat (a0.size:Int).toNat).size:Int) > (1:Int)) then if (0:Int)≤(1:Int)∧(1:Int) < ((subS a0 a1.toNat (a0.size:Int).toNat).size:Int) then bif decide ((((subS a0 a1.toNat (a0.size:Int).toNat).data.getD (Int.toNat (1:Int)) (0:UInt8)).toNat:Int) < (1:Int)) then some ((ByteArray.mk #[]),(0:Int),(800:Int)) else if (0:Int)≤(1:Int)∧(1:Int) < ((subS a0 a1.toNat (a0.size:Int).toNat).size:Int) then bif decide ((((subS a0 a1.toNat (a0.size:Int).toNat).data.getD (Int.toNat (1:Int)) (0:UInt8)).toNat:Int) > (60:Int)) then some ((ByteArray.mk #[]),(0:Int),(800:Int)) else bif decide (((subS a0 a1.toNat (a0.size:Int).toNat).size:Int) < (2:Int)) then some ((ByteArray.mk #[]),(0:Int),(801:Int)) else if (0:Int)≤(1:Int)∧(1:Int) < ((subS a0 a1.toNat (a0.size:Int).toNat).size:Int) then bif decide (((subS a0 a1.toNat (a0.size:Int).toNat).size:Int) < i64.wrap (i64.wrap ((2:Int) + i64.wrap (((subS a0 a1.toNat (a0.size:Int).toNat).data.getD (Int.toNat (1:Int)) (0:UInt8)).toNat:Int)) + (2:Int))) then some ((ByteArray.mk #[]),(0:Int),(801:Int)) else if (0:Int)≤(1:Int)∧(1:Int) < ((subS a0 a1.toNat (a0.size:Int).toNat).size:Int) then if (0:Int)≤(1:Int)∧(1:Int)≤i64.wrap ((2:Int) + i64.wrap (((subS a0 a1.toNat (a0.size:Int).toNat).data.getD (Int.toNat (1:Int)) (0:UInt8)).toNat:Int))∧i64.wrap ((2:Int) + i64.wrap (((subS a0 a1.toNat (a0.size:Int).toNat).data.getD (Int.toNat (1:Int)) (0:UInt8)).toNat:Int))≤((subS a0 a1.toNat (a0.size:Int).toNat).size:Int) then Option.bind (α:=Int) (F19 n (subS (subS a0 a1.toNat (a0.size:Int).toNat) (Int.toNat (1:Int)) (i64.wrap ((2:Int) + i64.wrap (((subS a0 a1.toNat (a0.size:Int).toNat).data.getD (Int.toNat (1:Int)) (0:UInt8)).toNat:Int))).toNat,())) fun r0↦Option.bind (α:=ByteArray) (F18 n (r0,())) fun r1↦if (0:Int)≤i64.wrap ((2:Int) + i64.wrap (((subS a0 a1.toNat (a0.size:Int).toNat).data.getD (Int.toNat (1:Int)) (0:UInt8)).toNat:Int))∧i64.wrap ((2:Int) + i64.wrap (((subS a0 a1.toNat (a0.size:Int).toNat).data.getD (Int.toNat (1:Int)) (0:UInt8)).toNat:Int))≤i64.wrap (i64.wrap ((2:Int) + i64.wrap (((subS a0 a1.toNat (a0.size:Int).toNat).data.getD (Int.toNat (1:Int)) (0:UInt8)).toNat:Int)) + (2:Int))∧i64.wrap (i64.wrap ((2:Int) + i64.wrap (((subS a0 a1.toNat (a0.size:Int).toNat).data.getD (Int.toNat (1:Int)) (0:UInt8)).toNat:Int)) + (2:Int))≤((subS a0 a1.toNat (a0.size:Int).toNat).size:Int) then bif !eqS r1 (subS (subS a0 a1.toNat (a0.size:Int).toNat) (i64.wrap ((2:Int) + i64.wrap (((subS a0 a1.toNat (a0.size:Int).toNat).data.getD (Int.toNat (1:Int)) (0:UInt8)).toNat:Int))).toNat (i64.wrap (i64.wrap ((2:Int) + i64.wrap (((subS a0 a1.toNat (a0.size:Int).toNat).data.getD (Int.toNat (1:Int)) (0:UInt8)).toNat:Int)) + (2:Int))).toNat) then some ((ByteArray.mk #[]),(0:Int),(800:Int)) else if (0:Int)≤(2:Int)∧(2:Int)≤i64.wrap ((2:Int) + i64.wrap (((subS a0 a1.toNat (a0.size:Int).toNat).data.getD (Int.toNat (1:Int)) (0:UInt8)).toNat:Int))∧i64.wrap ((2:Int) + i64.wrap (((subS a0 a1.toNat (a0.size:Int).toNat).data.getD (Int.toNat (1:Int)) (0:UInt8)).toNat:Int))≤((subS a0 a1.toNat (a0.size:Int).toNat).size:Int) then some (subS (subS a0 a1.toNat (a0.size:Int).toNat) (Int.toNat (2:Int)) (i64.wrap ((2:Int) + i64.wrap (((subS a0 a1.toNat (a0.size:Int).toNat).data.getD (Int.toNat (1:Int)) (0:UInt8)).toNat:Int))).toNat,i64.wrap (i64.wrap (a1 + i64.wrap ((2:Int) + i64.wrap (((subS a0 a1.toNat (a0.size:Int).toNat).data.getD (Int.toNat (1:Int)) (0:UInt8)).toNat:Int))) + (2:Int)),(0:Int)) else none else none else none else none else none else none else none else bif decide (((subS a0 a1.toNat (a0.size:Int).toNat).size:Int) < (2:Int)) then some ((ByteArray.mk #[]),(0:Int),(801:Int)) else if (0:Int)≤(1:Int)∧(1:Int) < ((subS a0 a1.toNat (a0.size:Int).toNat).size:Int) then bif decide (((subS a0 a1.toNat (a0.size:Int).toNat).size:Int) < i64.wrap (i64.wrap ((2:Int) + i64.wrap (((subS a0 a1.toNat (a0.size:Int).toNat).data.getD (Int.toNat (1:Int)) (0:UInt8)).toNat:Int)) + (2:Int))) then some ((ByteArray.mk #[]),(0:Int),(801:Int)) else if (0:Int)≤(1:Int)∧(1:Int) < ((subS a0 a1.toNat (a0.size:Int).toNat).size:Int) then if (0:Int)≤(1:Int)∧(1:Int)≤i64.wrap ((2:Int) + i64.wrap (((subS a0 a1.toNat (a0.size:Int).toNat).data.getD (Int.toNat (1:Int)) (0:UInt8)).toNat:Int))∧i64.wrap ((2:Int) + i64.wrap (((subS a0 a1.toNat (a0.size:Int).toNat).data.getD (Int.toNat (1:Int)) (0:UInt8)).toNat:Int))≤((subS a0 a1.toNat (a0.size:Int).toNat).size:Int) then Option.bind (α:=Int) (F19 n (subS (subS a0 a1.toNat (a0.size:Int).toNat) (Int.toNat (1:Int)) (i64.wrap ((2:Int) + i64.wrap (((subS a0 a1.toNat (a0.size:Int).toNat).data.getD (Int.toNat (1:Int)) (0:UInt8)).toNat:Int))).toNat,())) fun r2↦Option.bind (α:=ByteArray) (F18 n (r2,())) fun r3↦if (0:Int)≤i64.wrap ((2:Int) + i64.wrap (((subS a0 a1.toNat (a0.size:Int).toNat).data.getD (Int.toNat (1:Int)) (0:UInt8)).toNat:Int))∧i64.wrap ((2:Int) + i64.wrap (((subS a0 a1.toNat (a0.size:Int).toNat).data.getD (Int.toNat (1:Int)) (0:UInt8)).toNat:Int))≤i64.wrap (i64.wrap ((2:Int) + i64.wrap (((subS a0 a1.toNat (a0.size:Int).toNat).data.getD (Int.toNat (1:Int)) (0:UInt8)).toNat:Int)) + (2:Int))∧i64.wrap (i64.wrap ((2:Int) + i64.wrap (((subS a0 a1.toNat (a0.size:Int).toNat).data.getD (Int.toNat (1:Int)) (0:UInt8)).toNat:Int)) + (2:Int))≤((subS a0 a1.toNat (a0.size:Int).toNat).size:Int) then bif !eqS r3 (subS (subS a0 a1.toNat (a0.size:Int).toNat) (i64.wrap ((2:Int) + i64.wrap (((subS a0 a1.toNat (a0.size:Int).toNat).data.getD (Int.toNat (1:Int)) (0:UInt8)).toNat:Int))).toNat (i64.wrap (i64.wrap ((2:Int) + i64.wrap (((subS a0 a1.toNat (a0.size:Int).toNat).data.getD (Int.toNat (1:Int)) (0:UInt8)).toNat:Int)) + (2:Int))).toNat) then some ((ByteArray.mk #[]),(0:Int),(800:Int)) else if (0:Int)≤(2:Int)∧(2:Int)≤i64.wrap ((2:Int) + i64.wrap (((subS a0 a1.toNat (a0.size:Int).toNat).data.getD (Int.toNat (1:Int)) (0:UInt8)).toNat:Int))∧i64.wrap ((2:Int) + i64.wrap (((subS a0 a1.toNat (a0.size:Int).toNat).data.getD (Int.toNat (1:Int)) (0:UInt8)).toNat:Int))≤((subS a0 a1.toNat (a0.size:Int).toNat).size:Int) then some (subS (subS a0 a1.toNat (a0.size:Int).toNat) (Int.toNat (2:Int)) (i64.wrap ((2:Int) + i64.wrap (((subS a0 a1.toNat (a0.size:Int).toNat).data.getD (Int.toNat (1:Int)) (0:UInt8)).toNat:Int))).toNat,i64.wrap (i64.wrap (a1 + i64.wrap ((2:Int) + i64.wrap (((subS a0 a1.toNat (a0.size:Int).toNat).data.getD (Int.toNat (1:Int)) (0:UInt8)).toNat:Int))) + (2:Int)),(0:Int)) else none else none else none else none else none else none else bif decide (((subS a0 a1.toNat (a0.size:Int).toNat).size:Int) > (1:Int)) then if (0:Int)≤(1:Int)∧(1:Int) < ((subS a0 a1.toNat (a0.size:Int).toNat).size:Int) then bif decide ((((subS a0 a1.toNat (a0.size:Int).toNat).data.getD (Int.toNat (1:Int)) (0:UInt8)).toNat:Int) < (1:Int)) then some ((ByteArray.mk #[]),(0:Int),(800:Int)) else if (0:Int)≤(1:Int)∧(1:Int) < ((subS a0 a1.toNat (a0.size:Int).toNat).size:Int) then bif decide ((((subS a0 a1.toNat (a0.size:Int).toNat).data.getD (Int.toNat (1:Int)) (0:UInt8)).toNat:Int) > (60:Int)) then some ((ByteArray.mk #[]),(0:Int),(800:Int)) else bif decide (((subS a0 a1.toNat (a0.size:Int).toNat).size:Int) < (2:Int)) then some ((ByteArray.mk #[]),(0:Int),(801:Int)) else if (0:Int)≤(1:Int)∧(1:Int) < ((subS a0 a1.toNat (a0.size:Int).toNat).size:Int) then bif decide (((subS a0 a1.toNat (a0.size:Int).toNat).size:Int) < i64.wrap (i64.wrap ((2:Int) + i64.wrap (((subS a0 a1.toNat (a0.size:Int).toNat).data.getD (Int.toNat (1:Int)) (0:UInt8)).toNat:Int)) + (2:Int))) then some ((ByteArray.mk #[]),(0:Int),(801:Int)) else if (0:Int)≤(1:Int)∧(1:Int) < ((subS a0 a1.toNat (a0.size:Int).toNat).size:Int) then if (0:Int)≤(1:Int)∧(1:Int)≤i64.wrap ((2:Int) + i64.wrap (((subS a0 a1.toNat (a0.size:Int).toNat).data.getD (Int.toNat (1:Int)) (0:UInt8)).toNat:Int))∧i64.wrap ((2:Int) + i64.wrap (((subS a0 a1.toNat (a0.size:Int).toNat).data.getD (Int.toNat (1:Int)) (0:UInt8)).toNat:Int))≤((subS a0 a1.toNat (a0.size:Int).toNat).size:Int) then Option.bind (α:=Int) (F19 n (subS (subS a0 a1.toNat (a0.size:Int).toNat) (Int.toNat (1:Int)) (i64.wrap ((2:Int) + i64.wrap (((subS a0 a1.toNat (a0.size:Int).toNat).data.getD (Int.toNat (1:Int)) (0:UInt8)).toNat:Int))).toNat,())) fun r4↦Option.bind (α:=ByteArray) (F18 n (r4,())) fun r5↦if (0:Int)≤i64.wrap ((2:Int) + i64.wrap (((subS a0 a1.toNat (a0.size:Int).toNat).data.getD (Int.toNat (1:Int)) (0:UInt8)).toNat:Int))∧i64.wrap ((2:Int) + i64.wrap (((subS a0 a1.toNat (a0.size:Int).toNat).data.getD (Int.toNat (1:Int)) (0:UInt8)).toNat:Int))≤i64.wrap (i64.wrap ((2:Int) + i64.wrap (((subS a0 a1.toNat (a0.size:Int).toNat).data.getD (Int.toNat (1:Int)) (0:UInt8)).toNat:Int)) + (2:Int))∧i64.wrap (i64.wrap ((2:Int) + i64.wrap (((subS a0 a1.toNat (a0.size:Int).toNat).data.getD (Int.toNat (1:Int)) (0:UInt8)).toNat:Int)) + (2:Int))≤((subS a0 a1.toNat (a0.size:Int).toNat).size:Int) then bif !eqS r5 (subS (subS a0 a1.toNat (a0.size:Int).toNat) (i64.wrap ((2:Int) + i64.wrap (((subS a0 a1.toNat (a0.size:Int).toNat).data.getD (Int.toNat (1:Int)) (0:UInt8)).toNat:Int))).toNat (i64.wrap (i64.wrap ((2:Int) + i64.wrap (((subS a0 a1.toNat (a0.size:Int).toNat).data.getD (Int.toNat (1:Int)) (0:UInt8)).toNat:Int)) + (2:Int))).toNat) then some ((ByteArray.mk #[]),(0:Int),(800:Int)) else if (0:Int)≤(2:Int)∧(2:Int)≤i64.wrap ((2:Int) + i64.wrap (((subS a0 a1.toNat (a0.size:Int).toNat).data.getD (Int.toNat (1:Int)) (0:UInt8)).toNat:Int))∧i64.wrap ((2:Int) + i64.wrap (((subS a0 a1.toNat (a0.size:Int).toNat).data.getD (Int.toNat (1:Int)) (0:UInt8)).toNat:Int))≤((subS a0 a1.toNat (a0.size:Int).toNat).size:Int) then some (subS (subS a0 a1.toNat (a0.size:Int).toNat) (Int.toNat (2:Int)) (i64.wrap ((2:Int) + i64.wrap (((subS a0 a1.toNat (a0.size:Int).toNat).data.getD (Int.toNat (1:Int)) (0:UInt8)).toNat:Int))).toNat,i64.wrap (i64.wrap (a1 + i64.wrap ((2:Int) + i64.wrap (((subS a0 a1.toNat (a0.size:Int).toNat).data.getD (Int.toNat (1:Int)) (0:UInt8)).toNat:Int))) + (2:Int)),(0:Int)) else none else none else none else none else none else none else none else bif decide (((subS a0 a1.toNat (a0.size:Int).toNat).size:Int) < (2:Int)) then some ((ByteArray.mk #[]),(0:Int),(801:Int)) else if (0:Int)≤(1:Int)∧(1:Int) < ((subS a0 a1.toNat (a0.size:Int).toNat).size:Int) then bif decide (((subS a0 a1.toNat (a0.size:Int).toNat).size:Int) < i64.wrap (i64.wrap ((2:Int) + i64.wrap (((subS a0 a1.toNat (a0.size:Int).toNat).data.getD (Int.toNat (1:Int)) (0:UInt8)).toNat:Int)) + (2:Int))) then some ((ByteArray.mk #[]),(0:Int),(801:Int)) else if (0:Int)≤(1:Int)∧(1:Int) < ((subS a0 a1.toNat (a0.size:Int).toNat).size:Int) then if (0:Int)≤(1:Int)∧(1:Int)≤i64.wrap ((2:Int) + i64.wrap (((subS a0 a1.toNat (a0.size:Int).toNat).data.getD (Int.toNat (1:Int)) (0:UInt8)).toNat:Int))∧i64.wrap ((2:Int) + i64.wrap (((subS a0 a1.toNat (a0.size:Int).toNat).data.getD (Int.toNat (1:Int)) (0:UInt8)).toNat:Int))≤((subS a0 a1.toNat (a0.size:Int).toNat).size:Int) then Option.bind (α:=Int) (F19 n (subS (subS a0 a1.toNat (a0.size:Int).toNat) (Int.toNat (1:Int)) (i64.wrap ((2:Int) + i64.wrap (((subS a0 a1.toNat (a0.size:Int).toNat).data.getD (Int.toNat (1:Int)) (0:UInt8)).toNat:Int))).toNat,())) fun r6↦Option.bind (α:=ByteArray) (F18 n (r6,())) fun r7↦if (0:Int)≤i64.wrap ((2:Int) + i64.wrap (((subS a0 a1.toNat (a0.size:Int).toNat).data.getD (Int.toNat (1:Int)) (0:UInt8)).toNat:Int))∧i64.wrap ((2:Int) + i64.wrap (((subS a0 a1.toNat (a0.size:Int).toNat).data.getD (Int.toNat (1:Int)) (0:UInt8)).toNat:Int))≤i64.wrap (i64.wrap ((2:Int) + i64.wrap (((subS a0 a1.toNat (a0.size:Int).toNat).data.getD (Int.toNat (1:Int)) (0:UInt8)).toNat:Int)) + (2:Int))∧i64.wrap (i64.wrap ((2:Int) + i64.wrap (((subS a0 a1.toNat (a0.size:Int).toNat).data.getD (Int.toNat (1:Int)) (0:UInt8)).toNat:Int)) + (2:Int))≤((subS a0 a1.toNat (a0.size:Int).toNat).size:Int) then bif !eqS r7 (subS (subS a0 a1.toNat (a0.size:Int).toNat) (i64.wrap ((2:Int) + i64.wrap (((subS a0 a1.toNat (a0.size:Int).toNat).data.getD (Int.toNat (1:Int)) (0:UInt8)).toNat:Int))).toNat (i64.wrap (i64.wrap ((2:Int) + i64.wrap (((subS a0 a1.toNat (a0.size:Int).toNat).data.getD (Int.toNat (1:Int)) (0:UInt8)).toNat:Int)) + (2:Int))).toNat) then some ((ByteArray.mk #[]),(0:Int),(800:Int)) else if (0:Int)≤(2:Int)∧(2:Int)≤i64.wrap ((2:Int) + i64.wrap (((subS a0 a1.toNat (a0.size:Int).toNat).data.getD (Int.toNat (1:Int)) (0:UInt8)).toNat:Int))∧i64.wrap ((2:Int) + i64.wrap (((subS a0 a1.toNat (a0.size:Int).toNat).data.getD (Int.toNat (1:Int)) (0:UInt8)).toNat:Int))≤((subS a0 a1.toNat (a0.size:Int).toNat).size:Int) then some (subS (subS a0 a1.toNat (a0.size:Int).toNat) (Int.toNat (2:Int)) (i64.wrap ((2:Int) + i64.wrap (((subS a0 a1.toNat (a0.size:Int).toNat).data.getD (Int.toNat (1:Int)) (0:UInt8)).toNat:Int))).toNat,i64.wrap (i64.wrap (a1 + i64.wrap ((2:Int) + i64.wrap (((subS a0 a1.toNat (a0.size:Int).toNat).data.getD (Int.toNat (1:Int)) (0:UInt8)).toNat:Int))) + (2:Int)),(0:Int)) else none else none else none else none else none else none
theorem frame_Get_eq (n:Nat) (F19:CT c19) (F18:CT c18) (x:DPs [(.val false .str),(.val false ki)]):funE TT [(.val false .str),(.val false ki)] [(false,.val .str),(false,.val ki),(false,.val ki)] (opE TT OVS NTS DFS MTS (G36 F19 F18) n) H36 Try.f36.ntmps Try.f36.results.toList b36 n x=frame_Get_g n F19 F18 x.1 x.2.1:=by
 kernel_rfl
def frame_Get (n:Nat) (a0:ByteArray) (a1:Int):Option (ByteArray×Int×Int):=frame_Get_g n c19.F c18.F a0 a1
def c36:Con:=⟨[(.val false .str),(.val false ki)],[(false,.val .str),(false,.val ki),(false,.val ki)],fun n x=>frame_Get n x.1 x.2.1⟩
theorem c36_ok:ConOK Try.prog 36 c36:=funE_ok TT_ok mixed Try.func36 (body:=b36) rfl rfl (by decide +kernel) (fun n=>opE_ok TT_ok OVS_ok NTS DFS MTS_ok (G:=G36 c19.F c18.F) (GOK.cons c19_ok (GOK.cons c18_ok (GOK.nil))) n) (H:=H36) fun n x y h=>(frame_Get_eq n c19.F c18.F x).trans h
def st15_0 (v0_0:Int) (v0_1:List Int):LS:=({ env:=[(nat_lit 3,some (AV.sv false [CV.lit (Value.int u64 v0_0)])),(nat_lit 4,vO (nat_lit 0))],heap:=[(nat_lit 0,some (HV.row (nat_lit 5) (Ty.int u8) v0_1))],next:=nat_lit 1,pins:=[] })
def b15:Go.Code:=Try.f15.body.getD .skip
def H15:HL:=[(3,[3,4],[⟨4,false,0,5,Ty.int u8,false,false⟩])]
def G15:List (Nat×Con):=[]
def varint_Put_l0_step (n:Nat) (ih0:(Int)→(List Int)→Option ByteArray) (v0_0:Int) (v0_1:List Int):Option ByteArray :=
 bif decide (v0_0≥(128:Int)) then if (v0_1.length + ((List.replicate (1:Nat) (0:Int)).set (0:Nat) (u8.wrap ((BitVec.ofInt u8.bits (u8.wrap v0_0) ||| BitVec.ofInt u8.bits (128:Int)).toNat:Int))).length) * (1:Nat)≤(140737488355328:Nat)∧(0:Nat) < (1:Nat) then ih0 (v0_0.fdiv ((2:Int) ^ Min.min (Int.toNat (7:Int)) u64.bits)) (v0_1++(List.replicate (1:Nat) (0:Int)).set (0:Nat) (u8.wrap ((BitVec.ofInt u8.bits (u8.wrap v0_0) ||| BitVec.ofInt u8.bits (128:Int)).toNat:Int))) else none else if (v0_1.length + ((List.replicate (1:Nat) (0:Int)).set (0:Nat) (u8.wrap v0_0)).length) * (1:Nat)≤(140737488355328:Nat)∧(0:Nat) < (1:Nat) then some (ofB (v0_1++(List.replicate (1:Nat) (0:Int)).set (0:Nat) (u8.wrap v0_0))) else none
def varint_Put_l0 (n:Nat):Nat→(Int)→(List Int)→Option ByteArray
 | 0,_,_=>none
 | m0 + 1,v0_0,v0_1=>varint_Put_l0_step n (varint_Put_l0 n m0) v0_0 v0_1
def varint_Put_h (n:Nat) (h0:Nat→(Int)→(List Int)→Option ByteArray) (a0:Int):Option ByteArray :=
 h0 n (u64.wrap ((BitVec.ofInt u64.bits (u64.wrap (u64.wrap a0 * (2:Int) ^ Min.min (Int.toNat (1:Int)) u64.bits)) ^^^ BitVec.ofInt u64.bits (u64.wrap (a0.fdiv ((2:Int) ^ Min.min (Int.toNat (63:Int)) i64.bits)))).toNat:Int)) (nl Int)
def varint_Put (n:Nat) (a0:Int):Option ByteArray:=varint_Put_h n (fun m v0_0 v0_1=>varint_Put_l0 n m v0_0 v0_1) a0
theorem varint_Put_l0_ok (n:Nat):∀ (m0:Nat) (v0_0:Int) (v0_1:List Int),(loopAt (opE TT OVS NTS DFS MTS G15 n) Try.f15.ntmps H15 n b15 [.r,.r,.r,.l,.b] (kRet TT [(.val false ki)] [(false,.val .str)] Try.f15.results.toList) m0 (st15_0 v0_0 v0_1))=varint_Put_l0 n m0 v0_0 v0_1:=by
 intro m0
 induction m0 with
 | zero=>intros; kernel_rfl
 | succ m0 ih =>
  intro v0_0 v0_1
  refine Eq.trans (b:=varint_Put_l0_step n (fun v0_0 v0_1=>(loopAt (opE TT OVS NTS DFS MTS G15 n) Try.f15.ntmps H15 n b15 [.r,.r,.r,.l,.b] (kRet TT [(.val false ki)] [(false,.val .str)] Try.f15.results.toList) m0 (st15_0 v0_0 v0_1))) v0_0 v0_1) (by kernel_rfl) ?_
  rw [show (fun v0_0 v0_1=>(loopAt (opE TT OVS NTS DFS MTS G15 n) Try.f15.ntmps H15 n b15 [.r,.r,.r,.l,.b] (kRet TT [(.val false ki)] [(false,.val .str)] Try.f15.results.toList) m0 (st15_0 v0_0 v0_1)))=varint_Put_l0 n m0 from funext fun v0_0=>funext fun v0_1=>ih v0_0 v0_1]
  first | rfl | kernel_rfl
theorem varint_Put_eq (n:Nat) (x:DPs [(.val false ki)]):funE TT [(.val false ki)] [(false,.val .str)] (opE TT OVS NTS DFS MTS G15 n) H15 Try.f15.ntmps Try.f15.results.toList b15 n x=varint_Put n x.1:=by
 refine Eq.trans (b:=varint_Put_h n (fun m v0_0 v0_1=>(loopAt (opE TT OVS NTS DFS MTS G15 n) Try.f15.ntmps H15 n b15 [.r,.r,.r,.l,.b] (kRet TT [(.val false ki)] [(false,.val .str)] Try.f15.results.toList) m (st15_0 v0_0 v0_1))) x.1) (by kernel_rfl) ?_
 try rw [show (fun m v0_0 v0_1=>(loopAt (opE TT OVS NTS DFS MTS G15 n) Try.f15.ntmps H15 n b15 [.r,.r,.r,.l,.b] (kRet TT [(.val false ki)] [(false,.val .str)] Try.f15.results.toList) m (st15_0 v0_0 v0_1)))=(fun m v0_0 v0_1=>varint_Put_l0 n m v0_0 v0_1) from funext fun m=>funext fun v0_0=>funext fun v0_1=>varint_Put_l0_ok n m v0_0 v0_1]
 first | rfl | kernel_rfl
def c15:Con:=⟨[(.val false ki)],[(false,.val .str)],fun n x=>varint_Put n x.1⟩
theorem c15_ok:ConOK Try.prog 15 c15:=funE_ok TT_ok mixed Try.func15 (body:=b15) rfl rfl (by decide +kernel) (fun n=>opE_ok TT_ok OVS_ok NTS DFS MTS_ok (G:=G15) (GOK.nil) n) (H:=H15) fun n x y h=>(varint_Put_eq n x).trans h
def st16_0 (v0_0:ByteArray) (a0:List Int) (v0_3:Int):LS:=({ env:=[(nat_lit 3,some (AV.sv false [CV.lit (Value.string v0_0)])),(nat_lit 6,vS (nat_lit 3) ki a0),(nat_lit 7,vI (a0.length:Int)),(nat_lit 8,vI v0_3)],heap:=nl (Nat×Option HV),next:=nat_lit 0,pins:=[] })
def b16:Go.Code:=Try.f16.body.getD .skip
def H16:HL:=[(3,[3,6,7,8],[])]
def G16 (F15:CT c15):List (Nat×Con):=[(15,⟨c15.ps,c15.rs,F15⟩)]
def varint_All_l0_step (n:Nat) (F15:CT c15) (a0:List Int) (ih0:(ByteArray)→(Int)→Option ByteArray) (v0_0:ByteArray) (v0_3:Int):Option ByteArray :=
 bif decide (v0_3 < (a0.length:Int)) then if (0:Int)≤v0_3∧v0_3 < (a0.length:Int) then Option.bind (α:=ByteArray) (F15 n (a0.getD v0_3.toNat (0:Int),())) fun r0↦bif decide (v0_0.size + r0.size≤(9223372036854775807:Nat)) then ih0 (catS v0_0 r0) (i64.wrap (v0_3 + (1:Int))) else none else none else some v0_0
def varint_All_l0 (n:Nat) (F15:CT c15) (a0:List Int):Nat→(ByteArray)→(Int)→Option ByteArray
 | 0,_,_=>none
 | m0 + 1,v0_0,v0_3=>varint_All_l0_step n F15 a0 (varint_All_l0 n F15 a0 m0) v0_0 v0_3
def varint_All_h (n:Nat) (F15:CT c15) (h0:(List Int)→Nat→(ByteArray)→(Int)→Option ByteArray) (a0:List Int):Option ByteArray :=
 h0 a0 n (ByteArray.mk #[]) (0:Int)
def varint_All_g (n:Nat) (F15:CT c15) (a0:List Int):Option ByteArray:=varint_All_h n F15 (fun a0 m v0_0 v0_3=>varint_All_l0 n F15 a0 m v0_0 v0_3) a0
theorem varint_All_l0_ok (n:Nat) (F15:CT c15) (a0:List Int):∀ (m0:Nat) (v0_0:ByteArray) (v0_3:Int),(loopAt (opE TT OVS NTS DFS MTS (G16 F15) n) Try.f16.ntmps H16 n b16 [.r,.r,.l,.r,.b] (kRet TT [(.val false (.seq 3 ki))] [(false,.val .str)] Try.f16.results.toList) m0 (st16_0 v0_0 a0 v0_3))=varint_All_l0 n F15 a0 m0 v0_0 v0_3:=by
 intro m0
 induction m0 with
 | zero=>intros; kernel_rfl
 | succ m0 ih =>
  intro v0_0 v0_3
  refine Eq.trans (b:=varint_All_l0_step n F15 a0 (fun v0_0 v0_3=>(loopAt (opE TT OVS NTS DFS MTS (G16 F15) n) Try.f16.ntmps H16 n b16 [.r,.r,.l,.r,.b] (kRet TT [(.val false (.seq 3 ki))] [(false,.val .str)] Try.f16.results.toList) m0 (st16_0 v0_0 a0 v0_3))) v0_0 v0_3) (by kernel_rfl) ?_
  rw [show (fun v0_0 v0_3=>(loopAt (opE TT OVS NTS DFS MTS (G16 F15) n) Try.f16.ntmps H16 n b16 [.r,.r,.l,.r,.b] (kRet TT [(.val false (.seq 3 ki))] [(false,.val .str)] Try.f16.results.toList) m0 (st16_0 v0_0 a0 v0_3)))=varint_All_l0 n F15 a0 m0 from funext fun v0_0=>funext fun v0_3=>ih v0_0 v0_3]
  first | rfl | kernel_rfl
theorem varint_All_eq (n:Nat) (F15:CT c15) (x:DPs [(.val false (.seq 3 ki))]):funE TT [(.val false (.seq 3 ki))] [(false,.val .str)] (opE TT OVS NTS DFS MTS (G16 F15) n) H16 Try.f16.ntmps Try.f16.results.toList b16 n x=varint_All_g n F15 x.1:=by
 refine Eq.trans (b:=varint_All_h n F15 (fun a0 m v0_0 v0_3=>(loopAt (opE TT OVS NTS DFS MTS (G16 F15) n) Try.f16.ntmps H16 n b16 [.r,.r,.l,.r,.b] (kRet TT [(.val false (.seq 3 ki))] [(false,.val .str)] Try.f16.results.toList) m (st16_0 v0_0 a0 v0_3))) x.1) (by kernel_rfl) ?_
 try rw [show (fun a0 m v0_0 v0_3=>(loopAt (opE TT OVS NTS DFS MTS (G16 F15) n) Try.f16.ntmps H16 n b16 [.r,.r,.l,.r,.b] (kRet TT [(.val false (.seq 3 ki))] [(false,.val .str)] Try.f16.results.toList) m (st16_0 v0_0 a0 v0_3)))=(fun a0 m v0_0 v0_3=>varint_All_l0 n F15 a0 m v0_0 v0_3) from funext fun a0=>funext fun m=>funext fun v0_0=>funext fun v0_3=>varint_All_l0_ok n F15 a0 m v0_0 v0_3]
 first | rfl | kernel_rfl
def varint_All (n:Nat) (a0:List Int):Option ByteArray:=varint_All_g n c15.F a0
def c16:Con:=⟨[(.val false (.seq 3 ki))],[(false,.val .str)],fun n x=>varint_All n x.1⟩
theorem c16_ok:ConOK Try.prog 16 c16:=funE_ok TT_ok mixed Try.func16 (body:=b16) rfl rfl (by decide +kernel) (fun n=>opE_ok TT_ok OVS_ok NTS DFS MTS_ok (G:=G16 c15.F) (GOK.cons c15_ok (GOK.nil)) n) (H:=H16) fun n x y h=>(varint_All_eq n c15.F x).trans h
def b17:Go.Code:=Try.f17.body.getD .skip
def H17:HL:=[]
def G17 (F15:CT c15) (F16:CT c16):List (Nat×Con):=[(15,⟨c15.ps,c15.rs,F15⟩),(16,⟨c16.ps,c16.rs,F16⟩)]
def check_row_g (n:Nat) (F15:CT c15) (F16:CT c16) (a0:List Int):Option ByteArray :=
 Option.bind (α:=ByteArray) (F15 n ((a0.length:Int),())) fun r0↦Option.bind (α:=ByteArray) (F16 n (a0,())) fun r1↦bif decide (r0.size + r1.size≤(9223372036854775807:Nat)) then some (catS r0 r1) else none
theorem check_row_eq (n:Nat) (F15:CT c15) (F16:CT c16) (x:DPs [(.val false (.seq 3 ki))]):funE TT [(.val false (.seq 3 ki))] [(false,.val .str)] (opE TT OVS NTS DFS MTS (G17 F15 F16) n) H17 Try.f17.ntmps Try.f17.results.toList b17 n x=check_row_g n F15 F16 x.1:=by
 kernel_rfl
def check_row (n:Nat) (a0:List Int):Option ByteArray:=check_row_g n c15.F c16.F a0
def c17:Con:=⟨[(.val false (.seq 3 ki))],[(false,.val .str)],fun n x=>check_row n x.1⟩
theorem c17_ok:ConOK Try.prog 17 c17:=funE_ok TT_ok mixed Try.func17 (body:=b17) rfl rfl (by decide +kernel) (fun n=>opE_ok TT_ok OVS_ok NTS DFS MTS_ok (G:=G17 c15.F c16.F) (GOK.cons c15_ok (GOK.cons c16_ok (GOK.nil))) n) (H:=H17) fun n x y h=>(check_row_eq n c15.F c16.F x).trans h
def st79_0 (a0:ByteArray) (v0_2:Int):LS:=({ env:=[(nat_lit 0,some (AV.sv false [CV.lit (Value.string a0)])),(nat_lit 6,vI (if (10:Int) < (a0.size:Int) then (10:Int) else (a0.size:Int))),(nat_lit 7,vI v0_2)],heap:=nl (Nat×Option HV),next:=nat_lit 0,pins:=[] })
def b79:Go.Code:=Try.f79.body.getD .skip
def H79:HL:=[(2,[0,6,7],[])]
def G79:List (Nat×Con):=[]
def varint_ends_l0_step (n:Nat) (a0:ByteArray) (ih0:(Int)→Option Int) (v0_2:Int):Option Int :=
 bif decide (v0_2 < if (10:Int) < (a0.size:Int) then (10:Int) else (a0.size:Int)) then if (0:Int)≤v0_2∧v0_2 < (a0.size:Int) then bif decide (((a0.data.getD v0_2.toNat (0:UInt8)).toNat:Int) < (128:Int)) then some (i64.wrap (v0_2 + (1:Int))) else ih0 (i64.wrap (v0_2 + (1:Int))) else none else some (0:Int)
def varint_ends_l0 (n:Nat) (a0:ByteArray):Nat→(Int)→Option Int
 | 0,_=>none
 | m0 + 1,v0_2=>varint_ends_l0_step n a0 (varint_ends_l0 n a0 m0) v0_2
def varint_ends_h (n:Nat) (h0:(ByteArray)→Nat→(Int)→Option Int) (a0:ByteArray):Option Int :=
 h0 a0 n (0:Int)
def varint_ends (n:Nat) (a0:ByteArray):Option Int:=varint_ends_h n (fun a0 m v0_2=>varint_ends_l0 n a0 m v0_2) a0
theorem varint_ends_l0_ok (n:Nat) (a0:ByteArray):∀ (m0:Nat) (v0_2:Int),(loopAt (opE TT OVS NTS DFS MTS G79 n) Try.f79.ntmps H79 n b79 [.r,.l,.r,.b] (kRet TT [(.val false .str)] [(false,.val ki)] Try.f79.results.toList) m0 (st79_0 a0 v0_2))=varint_ends_l0 n a0 m0 v0_2:=by
 intro m0
 induction m0 with
 | zero=>intros; kernel_rfl
 | succ m0 ih =>
  intro v0_2
  refine Eq.trans (b:=varint_ends_l0_step n a0 (fun v0_2=>(loopAt (opE TT OVS NTS DFS MTS G79 n) Try.f79.ntmps H79 n b79 [.r,.l,.r,.b] (kRet TT [(.val false .str)] [(false,.val ki)] Try.f79.results.toList) m0 (st79_0 a0 v0_2))) v0_2) (by kernel_rfl) ?_
  rw [show (fun v0_2=>(loopAt (opE TT OVS NTS DFS MTS G79 n) Try.f79.ntmps H79 n b79 [.r,.l,.r,.b] (kRet TT [(.val false .str)] [(false,.val ki)] Try.f79.results.toList) m0 (st79_0 a0 v0_2)))=varint_ends_l0 n a0 m0 from funext fun v0_2=>ih v0_2]
  first | rfl | kernel_rfl
theorem varint_ends_eq (n:Nat) (x:DPs [(.val false .str)]):funE TT [(.val false .str)] [(false,.val ki)] (opE TT OVS NTS DFS MTS G79 n) H79 Try.f79.ntmps Try.f79.results.toList b79 n x=varint_ends n x.1:=by
 refine Eq.trans (b:=varint_ends_h n (fun a0 m v0_2=>(loopAt (opE TT OVS NTS DFS MTS G79 n) Try.f79.ntmps H79 n b79 [.r,.l,.r,.b] (kRet TT [(.val false .str)] [(false,.val ki)] Try.f79.results.toList) m (st79_0 a0 v0_2))) x.1) (by kernel_rfl) ?_
 try rw [show (fun a0 m v0_2=>(loopAt (opE TT OVS NTS DFS MTS G79 n) Try.f79.ntmps H79 n b79 [.r,.l,.r,.b] (kRet TT [(.val false .str)] [(false,.val ki)] Try.f79.results.toList) m (st79_0 a0 v0_2)))=(fun a0 m v0_2=>varint_ends_l0 n a0 m v0_2) from funext fun a0=>funext fun m=>funext fun v0_2=>varint_ends_l0_ok n a0 m v0_2]
 first | rfl | kernel_rfl
def c79:Con:=⟨[(.val false .str)],[(false,.val ki)],fun n x=>varint_ends n x.1⟩
theorem c79_ok:ConOK Try.prog 79 c79:=funE_ok TT_ok mixed Try.func79 (body:=b79) rfl rfl (by decide +kernel) (fun n=>opE_ok TT_ok OVS_ok NTS DFS MTS_ok (G:=G79) (GOK.nil) n) (H:=H79) fun n x y h=>(varint_ends_eq n x).trans h
def st66_0 (a0:ByteArray) (a1:Int) (r0:Int) (v0_3:Int) (v0_4:Int):LS:=({ env:=[(nat_lit 0,some (AV.sv false [CV.lit (Value.string a0)])),(nat_lit 1,vI a1),(nat_lit 7,vI r0),(nat_lit 8,some (AV.sv false [CV.lit (Value.int u64 v0_3)])),(nat_lit 9,vI v0_4)],heap:=nl (Nat×Option HV),next:=nat_lit 0,pins:=[] })
def st66_1 (a0:ByteArray) (a1:Int) (r0:Int) (v1_3:Int) (v1_4:Int):LS:=({ env:=[(nat_lit 0,some (AV.sv false [CV.lit (Value.string a0)])),(nat_lit 1,vI a1),(nat_lit 7,vI r0),(nat_lit 8,some (AV.sv false [CV.lit (Value.int u64 v1_3)])),(nat_lit 9,vI v1_4)],heap:=nl (Nat×Option HV),next:=nat_lit 0,pins:=[] })
def st66_2 (a0:ByteArray) (a1:Int) (r0:Int) (v2_3:Int) (v2_4:Int):LS:=({ env:=[(nat_lit 0,some (AV.sv false [CV.lit (Value.string a0)])),(nat_lit 1,vI a1),(nat_lit 7,vI r0),(nat_lit 8,some (AV.sv false [CV.lit (Value.int u64 v2_3)])),(nat_lit 9,vI v2_4)],heap:=nl (Nat×Option HV),next:=nat_lit 0,pins:=[] })
def st66_3 (a0:ByteArray) (a1:Int) (r0:Int) (v3_3:Int) (v3_4:Int):LS:=({ env:=[(nat_lit 0,some (AV.sv false [CV.lit (Value.string a0)])),(nat_lit 1,vI a1),(nat_lit 7,vI r0),(nat_lit 8,some (AV.sv false [CV.lit (Value.int u64 v3_3)])),(nat_lit 9,vI v3_4)],heap:=nl (Nat×Option HV),next:=nat_lit 0,pins:=[] })
def st66_4 (a0:ByteArray) (a1:Int) (r0:Int) (v4_3:Int) (v4_4:Int):LS:=({ env:=[(nat_lit 0,some (AV.sv false [CV.lit (Value.string a0)])),(nat_lit 1,vI a1),(nat_lit 7,vI r0),(nat_lit 8,some (AV.sv false [CV.lit (Value.int u64 v4_3)])),(nat_lit 9,vI v4_4)],heap:=nl (Nat×Option HV),next:=nat_lit 0,pins:=[] })
def st66_5 (a0:ByteArray) (a1:Int) (r0:Int) (v5_3:Int) (v5_4:Int):LS:=({ env:=[(nat_lit 0,some (AV.sv false [CV.lit (Value.string a0)])),(nat_lit 1,vI a1),(nat_lit 7,vI r0),(nat_lit 8,some (AV.sv false [CV.lit (Value.int u64 v5_3)])),(nat_lit 9,vI v5_4)],heap:=nl (Nat×Option HV),next:=nat_lit 0,pins:=[] })
def st66_6 (a0:ByteArray) (a1:Int) (r0:Int) (v6_3:Int) (v6_4:Int):LS:=({ env:=[(nat_lit 0,some (AV.sv false [CV.lit (Value.string a0)])),(nat_lit 1,vI a1),(nat_lit 7,vI r0),(nat_lit 8,some (AV.sv false [CV.lit (Value.int u64 v6_3)])),(nat_lit 9,vI v6_4)],heap:=nl (Nat×Option HV),next:=nat_lit 0,pins:=[] })
def st66_7 (a0:ByteArray) (a1:Int) (r0:Int) (v7_3:Int) (v7_4:Int):LS:=({ env:=[(nat_lit 0,some (AV.sv false [CV.lit (Value.string a0)])),(nat_lit 1,vI a1),(nat_lit 7,vI r0),(nat_lit 8,some (AV.sv false [CV.lit (Value.int u64 v7_3)])),(nat_lit 9,vI v7_4)],heap:=nl (Nat×Option HV),next:=nat_lit 0,pins:=[] })
def b66:Go.Code:=Try.f66.body.getD .skip
def H66:HL:=[(10,[0,1,7,8,9],[])]
def G66 (F79:CT c79):List (Nat×Con):=[(79,⟨c79.ps,c79.rs,F79⟩)]
def varint_Get_l0_step (n:Nat) (F79:CT c79) (a0:ByteArray) (a1:Int) (r0:Int) (ih0:(Int)→(Int)→Option (Int×Int×Int)) (v0_3:Int) (v0_4:Int):Option (Int×Int×Int) :=
 bif decide (v0_4≥(0:Int)) then if (0:Int)≤i64.wrap (a1 + v0_4)∧i64.wrap (a1 + v0_4) < (a0.size:Int) then ih0 (u64.wrap ((BitVec.ofInt u64.bits (u64.wrap (v0_3 * (2:Int) ^ Min.min (Int.toNat (7:Int)) u64.bits)) ||| BitVec.ofInt u64.bits (u64.wrap (u8.wrap ((BitVec.ofInt u8.bits ((a0.data.getD (i64.wrap (a1 + v0_4)).toNat (0:UInt8)).toNat:Int) &&& BitVec.ofInt u8.bits (127:Int)).toNat:Int)))).toNat:Int)) (i64.wrap (v0_4 - (1:Int))) else none else some (i64.wrap ((BitVec.ofInt i64.bits (i64.wrap (v0_3.fdiv ((2:Int) ^ Min.min (Int.toNat (1:Int)) u64.bits))) ^^^ BitVec.ofInt i64.bits (i64.wrap ((0:Int) - i64.wrap (u64.wrap ((BitVec.ofInt u64.bits v0_3 &&& BitVec.ofInt u64.bits (1:Int)).toNat:Int))))).toNat:Int),i64.wrap (a1 + r0),(0:Int))
def varint_Get_l0 (n:Nat) (F79:CT c79) (a0:ByteArray) (a1:Int) (r0:Int):Nat→(Int)→(Int)→Option (Int×Int×Int)
 | 0,_,_=>none
 | m0 + 1,v0_3,v0_4=>varint_Get_l0_step n F79 a0 a1 r0 (varint_Get_l0 n F79 a0 a1 r0 m0) v0_3 v0_4
def varint_Get_l1_step (n:Nat) (F79:CT c79) (a0:ByteArray) (a1:Int) (r0:Int) (ih1:(Int)→(Int)→Option (Int×Int×Int)) (v1_3:Int) (v1_4:Int):Option (Int×Int×Int) :=
 bif decide (v1_4≥(0:Int)) then if (0:Int)≤i64.wrap (a1 + v1_4)∧i64.wrap (a1 + v1_4) < (a0.size:Int) then ih1 (u64.wrap ((BitVec.ofInt u64.bits (u64.wrap (v1_3 * (2:Int) ^ Min.min (Int.toNat (7:Int)) u64.bits)) ||| BitVec.ofInt u64.bits (u64.wrap (u8.wrap ((BitVec.ofInt u8.bits ((a0.data.getD (i64.wrap (a1 + v1_4)).toNat (0:UInt8)).toNat:Int) &&& BitVec.ofInt u8.bits (127:Int)).toNat:Int)))).toNat:Int)) (i64.wrap (v1_4 - (1:Int))) else none else some (i64.wrap ((BitVec.ofInt i64.bits (i64.wrap (v1_3.fdiv ((2:Int) ^ Min.min (Int.toNat (1:Int)) u64.bits))) ^^^ BitVec.ofInt i64.bits (i64.wrap ((0:Int) - i64.wrap (u64.wrap ((BitVec.ofInt u64.bits v1_3 &&& BitVec.ofInt u64.bits (1:Int)).toNat:Int))))).toNat:Int),i64.wrap (a1 + r0),(0:Int))
def varint_Get_l1 (n:Nat) (F79:CT c79) (a0:ByteArray) (a1:Int) (r0:Int):Nat→(Int)→(Int)→Option (Int×Int×Int)
 | 0,_,_=>none
 | m1 + 1,v1_3,v1_4=>varint_Get_l1_step n F79 a0 a1 r0 (varint_Get_l1 n F79 a0 a1 r0 m1) v1_3 v1_4
def varint_Get_l2_step (n:Nat) (F79:CT c79) (a0:ByteArray) (a1:Int) (r0:Int) (ih2:(Int)→(Int)→Option (Int×Int×Int)) (v2_3:Int) (v2_4:Int):Option (Int×Int×Int) :=
 bif decide (v2_4≥(0:Int)) then if (0:Int)≤i64.wrap (a1 + v2_4)∧i64.wrap (a1 + v2_4) < (a0.size:Int) then ih2 (u64.wrap ((BitVec.ofInt u64.bits (u64.wrap (v2_3 * (2:Int) ^ Min.min (Int.toNat (7:Int)) u64.bits)) ||| BitVec.ofInt u64.bits (u64.wrap (u8.wrap ((BitVec.ofInt u8.bits ((a0.data.getD (i64.wrap (a1 + v2_4)).toNat (0:UInt8)).toNat:Int) &&& BitVec.ofInt u8.bits (127:Int)).toNat:Int)))).toNat:Int)) (i64.wrap (v2_4 - (1:Int))) else none else some (i64.wrap ((BitVec.ofInt i64.bits (i64.wrap (v2_3.fdiv ((2:Int) ^ Min.min (Int.toNat (1:Int)) u64.bits))) ^^^ BitVec.ofInt i64.bits (i64.wrap ((0:Int) - i64.wrap (u64.wrap ((BitVec.ofInt u64.bits v2_3 &&& BitVec.ofInt u64.bits (1:Int)).toNat:Int))))).toNat:Int),i64.wrap (a1 + r0),(0:Int))
def varint_Get_l2 (n:Nat) (F79:CT c79) (a0:ByteArray) (a1:Int) (r0:Int):Nat→(Int)→(Int)→Option (Int×Int×Int)
 | 0,_,_=>none
 | m2 + 1,v2_3,v2_4=>varint_Get_l2_step n F79 a0 a1 r0 (varint_Get_l2 n F79 a0 a1 r0 m2) v2_3 v2_4
def varint_Get_l3_step (n:Nat) (F79:CT c79) (a0:ByteArray) (a1:Int) (r0:Int) (ih3:(Int)→(Int)→Option (Int×Int×Int)) (v3_3:Int) (v3_4:Int):Option (Int×Int×Int) :=
 bif decide (v3_4≥(0:Int)) then if (0:Int)≤i64.wrap (a1 + v3_4)∧i64.wrap (a1 + v3_4) < (a0.size:Int) then ih3 (u64.wrap ((BitVec.ofInt u64.bits (u64.wrap (v3_3 * (2:Int) ^ Min.min (Int.toNat (7:Int)) u64.bits)) ||| BitVec.ofInt u64.bits (u64.wrap (u8.wrap ((BitVec.ofInt u8.bits ((a0.data.getD (i64.wrap (a1 + v3_4)).toNat (0:UInt8)).toNat:Int) &&& BitVec.ofInt u8.bits (127:Int)).toNat:Int)))).toNat:Int)) (i64.wrap (v3_4 - (1:Int))) else none else some (i64.wrap ((BitVec.ofInt i64.bits (i64.wrap (v3_3.fdiv ((2:Int) ^ Min.min (Int.toNat (1:Int)) u64.bits))) ^^^ BitVec.ofInt i64.bits (i64.wrap ((0:Int) - i64.wrap (u64.wrap ((BitVec.ofInt u64.bits v3_3 &&& BitVec.ofInt u64.bits (1:Int)).toNat:Int))))).toNat:Int),i64.wrap (a1 + r0),(0:Int))
def varint_Get_l3 (n:Nat) (F79:CT c79) (a0:ByteArray) (a1:Int) (r0:Int):Nat→(Int)→(Int)→Option (Int×Int×Int)
 | 0,_,_=>none
 | m3 + 1,v3_3,v3_4=>varint_Get_l3_step n F79 a0 a1 r0 (varint_Get_l3 n F79 a0 a1 r0 m3) v3_3 v3_4
def varint_Get_l4_step (n:Nat) (F79:CT c79) (a0:ByteArray) (a1:Int) (r0:Int) (ih4:(Int)→(Int)→Option (Int×Int×Int)) (v4_3:Int) (v4_4:Int):Option (Int×Int×Int) :=
 bif decide (v4_4≥(0:Int)) then if (0:Int)≤i64.wrap (a1 + v4_4)∧i64.wrap (a1 + v4_4) < (a0.size:Int) then ih4 (u64.wrap ((BitVec.ofInt u64.bits (u64.wrap (v4_3 * (2:Int) ^ Min.min (Int.toNat (7:Int)) u64.bits)) ||| BitVec.ofInt u64.bits (u64.wrap (u8.wrap ((BitVec.ofInt u8.bits ((a0.data.getD (i64.wrap (a1 + v4_4)).toNat (0:UInt8)).toNat:Int) &&& BitVec.ofInt u8.bits (127:Int)).toNat:Int)))).toNat:Int)) (i64.wrap (v4_4 - (1:Int))) else none else some (i64.wrap ((BitVec.ofInt i64.bits (i64.wrap (v4_3.fdiv ((2:Int) ^ Min.min (Int.toNat (1:Int)) u64.bits))) ^^^ BitVec.ofInt i64.bits (i64.wrap ((0:Int) - i64.wrap (u64.wrap ((BitVec.ofInt u64.bits v4_3 &&& BitVec.ofInt u64.bits (1:Int)).toNat:Int))))).toNat:Int),i64.wrap (a1 + r0),(0:Int))
def varint_Get_l4 (n:Nat) (F79:CT c79) (a0:ByteArray) (a1:Int) (r0:Int):Nat→(Int)→(Int)→Option (Int×Int×Int)
 | 0,_,_=>none
 | m4 + 1,v4_3,v4_4=>varint_Get_l4_step n F79 a0 a1 r0 (varint_Get_l4 n F79 a0 a1 r0 m4) v4_3 v4_4
def varint_Get_l5_step (n:Nat) (F79:CT c79) (a0:ByteArray) (a1:Int) (r0:Int) (ih5:(Int)→(Int)→Option (Int×Int×Int)) (v5_3:Int) (v5_4:Int):Option (Int×Int×Int) :=
 bif decide (v5_4≥(0:Int)) then if (0:Int)≤i64.wrap (a1 + v5_4)∧i64.wrap (a1 + v5_4) < (a0.size:Int) then ih5 (u64.wrap ((BitVec.ofInt u64.bits (u64.wrap (v5_3 * (2:Int) ^ Min.min (Int.toNat (7:Int)) u64.bits)) ||| BitVec.ofInt u64.bits (u64.wrap (u8.wrap ((BitVec.ofInt u8.bits ((a0.data.getD (i64.wrap (a1 + v5_4)).toNat (0:UInt8)).toNat:Int) &&& BitVec.ofInt u8.bits (127:Int)).toNat:Int)))).toNat:Int)) (i64.wrap (v5_4 - (1:Int))) else none else some (i64.wrap ((BitVec.ofInt i64.bits (i64.wrap (v5_3.fdiv ((2:Int) ^ Min.min (Int.toNat (1:Int)) u64.bits))) ^^^ BitVec.ofInt i64.bits (i64.wrap ((0:Int) - i64.wrap (u64.wrap ((BitVec.ofInt u64.bits v5_3 &&& BitVec.ofInt u64.bits (1:Int)).toNat:Int))))).toNat:Int),i64.wrap (a1 + r0),(0:Int))
def varint_Get_l5 (n:Nat) (F79:CT c79) (a0:ByteArray) (a1:Int) (r0:Int):Nat→(Int)→(Int)→Option (Int×Int×Int)
 | 0,_,_=>none
 | m5 + 1,v5_3,v5_4=>varint_Get_l5_step n F79 a0 a1 r0 (varint_Get_l5 n F79 a0 a1 r0 m5) v5_3 v5_4
def varint_Get_l6_step (n:Nat) (F79:CT c79) (a0:ByteArray) (a1:Int) (r0:Int) (ih6:(Int)→(Int)→Option (Int×Int×Int)) (v6_3:Int) (v6_4:Int):Option (Int×Int×Int) :=
 bif decide (v6_4≥(0:Int)) then if (0:Int)≤i64.wrap (a1 + v6_4)∧i64.wrap (a1 + v6_4) < (a0.size:Int) then ih6 (u64.wrap ((BitVec.ofInt u64.bits (u64.wrap (v6_3 * (2:Int) ^ Min.min (Int.toNat (7:Int)) u64.bits)) ||| BitVec.ofInt u64.bits (u64.wrap (u8.wrap ((BitVec.ofInt u8.bits ((a0.data.getD (i64.wrap (a1 + v6_4)).toNat (0:UInt8)).toNat:Int) &&& BitVec.ofInt u8.bits (127:Int)).toNat:Int)))).toNat:Int)) (i64.wrap (v6_4 - (1:Int))) else none else some (i64.wrap ((BitVec.ofInt i64.bits (i64.wrap (v6_3.fdiv ((2:Int) ^ Min.min (Int.toNat (1:Int)) u64.bits))) ^^^ BitVec.ofInt i64.bits (i64.wrap ((0:Int) - i64.wrap (u64.wrap ((BitVec.ofInt u64.bits v6_3 &&& BitVec.ofInt u64.bits (1:Int)).toNat:Int))))).toNat:Int),i64.wrap (a1 + r0),(0:Int))
def varint_Get_l6 (n:Nat) (F79:CT c79) (a0:ByteArray) (a1:Int) (r0:Int):Nat→(Int)→(Int)→Option (Int×Int×Int)
 | 0,_,_=>none
 | m6 + 1,v6_3,v6_4=>varint_Get_l6_step n F79 a0 a1 r0 (varint_Get_l6 n F79 a0 a1 r0 m6) v6_3 v6_4
def varint_Get_l7_step (n:Nat) (F79:CT c79) (a0:ByteArray) (a1:Int) (r0:Int) (ih7:(Int)→(Int)→Option (Int×Int×Int)) (v7_3:Int) (v7_4:Int):Option (Int×Int×Int) :=
 bif decide (v7_4≥(0:Int)) then if (0:Int)≤i64.wrap (a1 + v7_4)∧i64.wrap (a1 + v7_4) < (a0.size:Int) then ih7 (u64.wrap ((BitVec.ofInt u64.bits (u64.wrap (v7_3 * (2:Int) ^ Min.min (Int.toNat (7:Int)) u64.bits)) ||| BitVec.ofInt u64.bits (u64.wrap (u8.wrap ((BitVec.ofInt u8.bits ((a0.data.getD (i64.wrap (a1 + v7_4)).toNat (0:UInt8)).toNat:Int) &&& BitVec.ofInt u8.bits (127:Int)).toNat:Int)))).toNat:Int)) (i64.wrap (v7_4 - (1:Int))) else none else some (i64.wrap ((BitVec.ofInt i64.bits (i64.wrap (v7_3.fdiv ((2:Int) ^ Min.min (Int.toNat (1:Int)) u64.bits))) ^^^ BitVec.ofInt i64.bits (i64.wrap ((0:Int) - i64.wrap (u64.wrap ((BitVec.ofInt u64.bits v7_3 &&& BitVec.ofInt u64.bits (1:Int)).toNat:Int))))).toNat:Int),i64.wrap (a1 + r0),(0:Int))
def varint_Get_l7 (n:Nat) (F79:CT c79) (a0:ByteArray) (a1:Int) (r0:Int):Nat→(Int)→(Int)→Option (Int×Int×Int)
 | 0,_,_=>none
 | m7 + 1,v7_3,v7_4=>varint_Get_l7_step n F79 a0 a1 r0 (varint_Get_l7 n F79 a0 a1 r0 m7) v7_3 v7_4
def varint_Get_h (n:Nat) (F79:CT c79) (h0:(ByteArray)→(Int)→(Int)→Nat→(Int)→(Int)→Option (Int×Int×Int)) (h1:(ByteArray)→(Int)→(Int)→Nat→(Int)→(Int)→Option (Int×Int×Int)) (h2:(ByteArray)→(Int)→(Int)→Nat→(Int)→(Int)→Option (Int×Int×Int)) (h3:(ByteArray)→(Int)→(Int)→Nat→(Int)→(Int)→Option (Int×Int×Int)) (h4:(ByteArray)→(Int)→(Int)→Nat→(Int)→(Int)→Option (Int×Int×Int)) (h5:(ByteArray)→(Int)→(Int)→Nat→(Int)→(Int)→Option (Int×Int×Int)) (h6:(ByteArray)→(Int)→(Int)→Nat→(Int)→(Int)→Option (Int×Int×Int)) (h7:(ByteArray)→(Int)→(Int)→Nat→(Int)→(Int)→Option (Int×Int×Int)) (a0:ByteArray) (a1:Int):Option (Int×Int×Int) :=
 bif decide (a1 < (0:Int)) then some ((0:Int),(0:Int),(700:Int)) else bif decide (a1 > (a0.size:Int)) then some ((0:Int),(0:Int),(700:Int)) else if (0:Int)≤a1∧a1≤(a0.size:Int)∧(a0.size:Int)≤(a0.size:Int) then Option.bind (α:=Int) (F79 n (subS a0 a1.toNat (a0.size:Int).toNat,())) fun r0↦bif r0 == (0:Int) then bif decide (i64.wrap ((a0.size:Int) - a1) < (10:Int)) then some ((0:Int),(0:Int),(701:Int)) else bif r0 == (0:Int) then some ((0:Int),(0:Int),(700:Int)) else bif r0 == (10:Int) then if (0:Int)≤i64.wrap (i64.wrap (a1 + r0) - (1:Int))∧i64.wrap (i64.wrap (a1 + r0) - (1:Int)) < (a0.size:Int) then bif decide (((a0.data.getD (i64.wrap (i64.wrap (a1 + r0) - (1:Int))).toNat (0:UInt8)).toNat:Int) > (1:Int)) then some ((0:Int),(0:Int),(700:Int)) else bif decide (r0 > (1:Int)) then if (0:Int)≤i64.wrap (i64.wrap (a1 + r0) - (1:Int))∧i64.wrap (i64.wrap (a1 + r0) - (1:Int)) < (a0.size:Int) then bif ((a0.data.getD (i64.wrap (i64.wrap (a1 + r0) - (1:Int))).toNat (0:UInt8)).toNat:Int) == (0:Int) then some ((0:Int),(0:Int),(700:Int)) else h0 a0 a1 r0 n (0:Int) (i64.wrap (r0 - (1:Int))) else none else h1 a0 a1 r0 n (0:Int) (i64.wrap (r0 - (1:Int))) else none else bif decide (r0 > (1:Int)) then if (0:Int)≤i64.wrap (i64.wrap (a1 + r0) - (1:Int))∧i64.wrap (i64.wrap (a1 + r0) - (1:Int)) < (a0.size:Int) then bif ((a0.data.getD (i64.wrap (i64.wrap (a1 + r0) - (1:Int))).toNat (0:UInt8)).toNat:Int) == (0:Int) then some ((0:Int),(0:Int),(700:Int)) else h2 a0 a1 r0 n (0:Int) (i64.wrap (r0 - (1:Int))) else none else h3 a0 a1 r0 n (0:Int) (i64.wrap (r0 - (1:Int))) else bif r0 == (0:Int) then some ((0:Int),(0:Int),(700:Int)) else bif r0 == (10:Int) then if (0:Int)≤i64.wrap (i64.wrap (a1 + r0) - (1:Int))∧i64.wrap (i64.wrap (a1 + r0) - (1:Int)) < (a0.size:Int) then bif decide (((a0.data.getD (i64.wrap (i64.wrap (a1 + r0) - (1:Int))).toNat (0:UInt8)).toNat:Int) > (1:Int)) then some ((0:Int),(0:Int),(700:Int)) else bif decide (r0 > (1:Int)) then if (0:Int)≤i64.wrap (i64.wrap (a1 + r0) - (1:Int))∧i64.wrap (i64.wrap (a1 + r0) - (1:Int)) < (a0.size:Int) then bif ((a0.data.getD (i64.wrap (i64.wrap (a1 + r0) - (1:Int))).toNat (0:UInt8)).toNat:Int) == (0:Int) then some ((0:Int),(0:Int),(700:Int)) else h4 a0 a1 r0 n (0:Int) (i64.wrap (r0 - (1:Int))) else none else h5 a0 a1 r0 n (0:Int) (i64.wrap (r0 - (1:Int))) else none else bif decide (r0 > (1:Int)) then if (0:Int)≤i64.wrap (i64.wrap (a1 + r0) - (1:Int))∧i64.wrap (i64.wrap (a1 + r0) - (1:Int)) < (a0.size:Int) then bif ((a0.data.getD (i64.wrap (i64.wrap (a1 + r0) - (1:Int))).toNat (0:UInt8)).toNat:Int) == (0:Int) then some ((0:Int),(0:Int),(700:Int)) else h6 a0 a1 r0 n (0:Int) (i64.wrap (r0 - (1:Int))) else none else h7 a0 a1 r0 n (0:Int) (i64.wrap (r0 - (1:Int))) else none
def varint_Get_g (n:Nat) (F79:CT c79) (a0:ByteArray) (a1:Int):Option (Int×Int×Int):=varint_Get_h n F79 (fun a0 a1 r0 m v0_3 v0_4=>varint_Get_l0 n F79 a0 a1 r0 m v0_3 v0_4) (fun a0 a1 r0 m v1_3 v1_4=>varint_Get_l1 n F79 a0 a1 r0 m v1_3 v1_4) (fun a0 a1 r0 m v2_3 v2_4=>varint_Get_l2 n F79 a0 a1 r0 m v2_3 v2_4) (fun a0 a1 r0 m v3_3 v3_4=>varint_Get_l3 n F79 a0 a1 r0 m v3_3 v3_4) (fun a0 a1 r0 m v4_3 v4_4=>varint_Get_l4 n F79 a0 a1 r0 m v4_3 v4_4) (fun a0 a1 r0 m v5_3 v5_4=>varint_Get_l5 n F79 a0 a1 r0 m v5_3 v5_4) (fun a0 a1 r0 m v6_3 v6_4=>varint_Get_l6 n F79 a0 a1 r0 m v6_3 v6_4) (fun a0 a1 r0 m v7_3 v7_4=>varint_Get_l7 n F79 a0 a1 r0 m v7_3 v7_4) a0 a1
theorem varint_Get_l0_ok (n:Nat) (F79:CT c79) (a0:ByteArray) (a1:Int) (r0:Int):∀ (m0:Nat) (v0_3:Int) (v0_4:Int),(loopAt (opE TT OVS NTS DFS MTS (G66 F79) n) Try.f66.ntmps H66 n b66 [.r,.r,.r,.r,.r,.l,.r,.b] (kRet TT [(.val false .str),(.val false ki)] [(false,.val ki),(false,.val ki),(false,.val ki)] Try.f66.results.toList) m0 (st66_0 a0 a1 r0 v0_3 v0_4))=varint_Get_l0 n F79 a0 a1 r0 m0 v0_3 v0_4:=by
 intro m0
 induction m0 with
 | zero=>intros; kernel_rfl
 | succ m0 ih =>
  intro v0_3 v0_4
  refine Eq.trans (b:=varint_Get_l0_step n F79 a0 a1 r0 (fun v0_3 v0_4=>(loopAt (opE TT OVS NTS DFS MTS (G66 F79) n) Try.f66.ntmps H66 n b66 [.r,.r,.r,.r,.r,.l,.r,.b] (kRet TT [(.val false .str),(.val false ki)] [(false,.val ki),(false,.val ki),(false,.val ki)] Try.f66.results.toList) m0 (st66_0 a0 a1 r0 v0_3 v0_4))) v0_3 v0_4) (by kernel_rfl) ?_
  rw [show (fun v0_3 v0_4=>(loopAt (opE TT OVS NTS DFS MTS (G66 F79) n) Try.f66.ntmps H66 n b66 [.r,.r,.r,.r,.r,.l,.r,.b] (kRet TT [(.val false .str),(.val false ki)] [(false,.val ki),(false,.val ki),(false,.val ki)] Try.f66.results.toList) m0 (st66_0 a0 a1 r0 v0_3 v0_4)))=varint_Get_l0 n F79 a0 a1 r0 m0 from funext fun v0_3=>funext fun v0_4=>ih v0_3 v0_4]
  first | rfl | kernel_rfl
theorem varint_Get_l1_ok (n:Nat) (F79:CT c79) (a0:ByteArray) (a1:Int) (r0:Int):∀ (m1:Nat) (v1_3:Int) (v1_4:Int),(loopAt (opE TT OVS NTS DFS MTS (G66 F79) n) Try.f66.ntmps H66 n b66 [.r,.r,.r,.r,.r,.l,.r,.b] (kRet TT [(.val false .str),(.val false ki)] [(false,.val ki),(false,.val ki),(false,.val ki)] Try.f66.results.toList) m1 (st66_1 a0 a1 r0 v1_3 v1_4))=varint_Get_l1 n F79 a0 a1 r0 m1 v1_3 v1_4:=by
 intro m1
 induction m1 with
 | zero=>intros; kernel_rfl
 | succ m1 ih =>
  intro v1_3 v1_4
  refine Eq.trans (b:=varint_Get_l1_step n F79 a0 a1 r0 (fun v1_3 v1_4=>(loopAt (opE TT OVS NTS DFS MTS (G66 F79) n) Try.f66.ntmps H66 n b66 [.r,.r,.r,.r,.r,.l,.r,.b] (kRet TT [(.val false .str),(.val false ki)] [(false,.val ki),(false,.val ki),(false,.val ki)] Try.f66.results.toList) m1 (st66_1 a0 a1 r0 v1_3 v1_4))) v1_3 v1_4) (by kernel_rfl) ?_
  rw [show (fun v1_3 v1_4=>(loopAt (opE TT OVS NTS DFS MTS (G66 F79) n) Try.f66.ntmps H66 n b66 [.r,.r,.r,.r,.r,.l,.r,.b] (kRet TT [(.val false .str),(.val false ki)] [(false,.val ki),(false,.val ki),(false,.val ki)] Try.f66.results.toList) m1 (st66_1 a0 a1 r0 v1_3 v1_4)))=varint_Get_l1 n F79 a0 a1 r0 m1 from funext fun v1_3=>funext fun v1_4=>ih v1_3 v1_4]
  first | rfl | kernel_rfl
theorem varint_Get_l2_ok (n:Nat) (F79:CT c79) (a0:ByteArray) (a1:Int) (r0:Int):∀ (m2:Nat) (v2_3:Int) (v2_4:Int),(loopAt (opE TT OVS NTS DFS MTS (G66 F79) n) Try.f66.ntmps H66 n b66 [.r,.r,.r,.r,.r,.l,.r,.b] (kRet TT [(.val false .str),(.val false ki)] [(false,.val ki),(false,.val ki),(false,.val ki)] Try.f66.results.toList) m2 (st66_2 a0 a1 r0 v2_3 v2_4))=varint_Get_l2 n F79 a0 a1 r0 m2 v2_3 v2_4:=by
 intro m2
 induction m2 with
 | zero=>intros; kernel_rfl
 | succ m2 ih =>
  intro v2_3 v2_4
  refine Eq.trans (b:=varint_Get_l2_step n F79 a0 a1 r0 (fun v2_3 v2_4=>(loopAt (opE TT OVS NTS DFS MTS (G66 F79) n) Try.f66.ntmps H66 n b66 [.r,.r,.r,.r,.r,.l,.r,.b] (kRet TT [(.val false .str),(.val false ki)] [(false,.val ki),(false,.val ki),(false,.val ki)] Try.f66.results.toList) m2 (st66_2 a0 a1 r0 v2_3 v2_4))) v2_3 v2_4) (by kernel_rfl) ?_
  rw [show (fun v2_3 v2_4=>(loopAt (opE TT OVS NTS DFS MTS (G66 F79) n) Try.f66.ntmps H66 n b66 [.r,.r,.r,.r,.r,.l,.r,.b] (kRet TT [(.val false .str),(.val false ki)] [(false,.val ki),(false,.val ki),(false,.val ki)] Try.f66.results.toList) m2 (st66_2 a0 a1 r0 v2_3 v2_4)))=varint_Get_l2 n F79 a0 a1 r0 m2 from funext fun v2_3=>funext fun v2_4=>ih v2_3 v2_4]
  first | rfl | kernel_rfl
theorem varint_Get_l3_ok (n:Nat) (F79:CT c79) (a0:ByteArray) (a1:Int) (r0:Int):∀ (m3:Nat) (v3_3:Int) (v3_4:Int),(loopAt (opE TT OVS NTS DFS MTS (G66 F79) n) Try.f66.ntmps H66 n b66 [.r,.r,.r,.r,.r,.l,.r,.b] (kRet TT [(.val false .str),(.val false ki)] [(false,.val ki),(false,.val ki),(false,.val ki)] Try.f66.results.toList) m3 (st66_3 a0 a1 r0 v3_3 v3_4))=varint_Get_l3 n F79 a0 a1 r0 m3 v3_3 v3_4:=by
 intro m3
 induction m3 with
 | zero=>intros; kernel_rfl
 | succ m3 ih =>
  intro v3_3 v3_4
  refine Eq.trans (b:=varint_Get_l3_step n F79 a0 a1 r0 (fun v3_3 v3_4=>(loopAt (opE TT OVS NTS DFS MTS (G66 F79) n) Try.f66.ntmps H66 n b66 [.r,.r,.r,.r,.r,.l,.r,.b] (kRet TT [(.val false .str),(.val false ki)] [(false,.val ki),(false,.val ki),(false,.val ki)] Try.f66.results.toList) m3 (st66_3 a0 a1 r0 v3_3 v3_4))) v3_3 v3_4) (by kernel_rfl) ?_
  rw [show (fun v3_3 v3_4=>(loopAt (opE TT OVS NTS DFS MTS (G66 F79) n) Try.f66.ntmps H66 n b66 [.r,.r,.r,.r,.r,.l,.r,.b] (kRet TT [(.val false .str),(.val false ki)] [(false,.val ki),(false,.val ki),(false,.val ki)] Try.f66.results.toList) m3 (st66_3 a0 a1 r0 v3_3 v3_4)))=varint_Get_l3 n F79 a0 a1 r0 m3 from funext fun v3_3=>funext fun v3_4=>ih v3_3 v3_4]
  first | rfl | kernel_rfl
theorem varint_Get_l4_ok (n:Nat) (F79:CT c79) (a0:ByteArray) (a1:Int) (r0:Int):∀ (m4:Nat) (v4_3:Int) (v4_4:Int),(loopAt (opE TT OVS NTS DFS MTS (G66 F79) n) Try.f66.ntmps H66 n b66 [.r,.r,.r,.r,.r,.l,.r,.b] (kRet TT [(.val false .str),(.val false ki)] [(false,.val ki),(false,.val ki),(false,.val ki)] Try.f66.results.toList) m4 (st66_4 a0 a1 r0 v4_3 v4_4))=varint_Get_l4 n F79 a0 a1 r0 m4 v4_3 v4_4:=by
 intro m4
 induction m4 with
 | zero=>intros; kernel_rfl
 | succ m4 ih =>
  intro v4_3 v4_4
  refine Eq.trans (b:=varint_Get_l4_step n F79 a0 a1 r0 (fun v4_3 v4_4=>(loopAt (opE TT OVS NTS DFS MTS (G66 F79) n) Try.f66.ntmps H66 n b66 [.r,.r,.r,.r,.r,.l,.r,.b] (kRet TT [(.val false .str),(.val false ki)] [(false,.val ki),(false,.val ki),(false,.val ki)] Try.f66.results.toList) m4 (st66_4 a0 a1 r0 v4_3 v4_4))) v4_3 v4_4) (by kernel_rfl) ?_
  rw [show (fun v4_3 v4_4=>(loopAt (opE TT OVS NTS DFS MTS (G66 F79) n) Try.f66.ntmps H66 n b66 [.r,.r,.r,.r,.r,.l,.r,.b] (kRet TT [(.val false .str),(.val false ki)] [(false,.val ki),(false,.val ki),(false,.val ki)] Try.f66.results.toList) m4 (st66_4 a0 a1 r0 v4_3 v4_4)))=varint_Get_l4 n F79 a0 a1 r0 m4 from funext fun v4_3=>funext fun v4_4=>ih v4_3 v4_4]
  first | rfl | kernel_rfl
theorem varint_Get_l5_ok (n:Nat) (F79:CT c79) (a0:ByteArray) (a1:Int) (r0:Int):∀ (m5:Nat) (v5_3:Int) (v5_4:Int),(loopAt (opE TT OVS NTS DFS MTS (G66 F79) n) Try.f66.ntmps H66 n b66 [.r,.r,.r,.r,.r,.l,.r,.b] (kRet TT [(.val false .str),(.val false ki)] [(false,.val ki),(false,.val ki),(false,.val ki)] Try.f66.results.toList) m5 (st66_5 a0 a1 r0 v5_3 v5_4))=varint_Get_l5 n F79 a0 a1 r0 m5 v5_3 v5_4:=by
 intro m5
 induction m5 with
 | zero=>intros; kernel_rfl
 | succ m5 ih =>
  intro v5_3 v5_4
  refine Eq.trans (b:=varint_Get_l5_step n F79 a0 a1 r0 (fun v5_3 v5_4=>(loopAt (opE TT OVS NTS DFS MTS (G66 F79) n) Try.f66.ntmps H66 n b66 [.r,.r,.r,.r,.r,.l,.r,.b] (kRet TT [(.val false .str),(.val false ki)] [(false,.val ki),(false,.val ki),(false,.val ki)] Try.f66.results.toList) m5 (st66_5 a0 a1 r0 v5_3 v5_4))) v5_3 v5_4) (by kernel_rfl) ?_
  rw [show (fun v5_3 v5_4=>(loopAt (opE TT OVS NTS DFS MTS (G66 F79) n) Try.f66.ntmps H66 n b66 [.r,.r,.r,.r,.r,.l,.r,.b] (kRet TT [(.val false .str),(.val false ki)] [(false,.val ki),(false,.val ki),(false,.val ki)] Try.f66.results.toList) m5 (st66_5 a0 a1 r0 v5_3 v5_4)))=varint_Get_l5 n F79 a0 a1 r0 m5 from funext fun v5_3=>funext fun v5_4=>ih v5_3 v5_4]
  first | rfl | kernel_rfl
theorem varint_Get_l6_ok (n:Nat) (F79:CT c79) (a0:ByteArray) (a1:Int) (r0:Int):∀ (m6:Nat) (v6_3:Int) (v6_4:Int),(loopAt (opE TT OVS NTS DFS MTS (G66 F79) n) Try.f66.ntmps H66 n b66 [.r,.r,.r,.r,.r,.l,.r,.b] (kRet TT [(.val false .str),(.val false ki)] [(false,.val ki),(false,.val ki),(false,.val ki)] Try.f66.results.toList) m6 (st66_6 a0 a1 r0 v6_3 v6_4))=varint_Get_l6 n F79 a0 a1 r0 m6 v6_3 v6_4:=by
 intro m6
 induction m6 with
 | zero=>intros; kernel_rfl
 | succ m6 ih =>
  intro v6_3 v6_4
  refine Eq.trans (b:=varint_Get_l6_step n F79 a0 a1 r0 (fun v6_3 v6_4=>(loopAt (opE TT OVS NTS DFS MTS (G66 F79) n) Try.f66.ntmps H66 n b66 [.r,.r,.r,.r,.r,.l,.r,.b] (kRet TT [(.val false .str),(.val false ki)] [(false,.val ki),(false,.val ki),(false,.val ki)] Try.f66.results.toList) m6 (st66_6 a0 a1 r0 v6_3 v6_4))) v6_3 v6_4) (by kernel_rfl) ?_
  rw [show (fun v6_3 v6_4=>(loopAt (opE TT OVS NTS DFS MTS (G66 F79) n) Try.f66.ntmps H66 n b66 [.r,.r,.r,.r,.r,.l,.r,.b] (kRet TT [(.val false .str),(.val false ki)] [(false,.val ki),(false,.val ki),(false,.val ki)] Try.f66.results.toList) m6 (st66_6 a0 a1 r0 v6_3 v6_4)))=varint_Get_l6 n F79 a0 a1 r0 m6 from funext fun v6_3=>funext fun v6_4=>ih v6_3 v6_4]
  first | rfl | kernel_rfl
theorem varint_Get_l7_ok (n:Nat) (F79:CT c79) (a0:ByteArray) (a1:Int) (r0:Int):∀ (m7:Nat) (v7_3:Int) (v7_4:Int),(loopAt (opE TT OVS NTS DFS MTS (G66 F79) n) Try.f66.ntmps H66 n b66 [.r,.r,.r,.r,.r,.l,.r,.b] (kRet TT [(.val false .str),(.val false ki)] [(false,.val ki),(false,.val ki),(false,.val ki)] Try.f66.results.toList) m7 (st66_7 a0 a1 r0 v7_3 v7_4))=varint_Get_l7 n F79 a0 a1 r0 m7 v7_3 v7_4:=by
 intro m7
 induction m7 with
 | zero=>intros; kernel_rfl
 | succ m7 ih =>
  intro v7_3 v7_4
  refine Eq.trans (b:=varint_Get_l7_step n F79 a0 a1 r0 (fun v7_3 v7_4=>(loopAt (opE TT OVS NTS DFS MTS (G66 F79) n) Try.f66.ntmps H66 n b66 [.r,.r,.r,.r,.r,.l,.r,.b] (kRet TT [(.val false .str),(.val false ki)] [(false,.val ki),(false,.val ki),(false,.val ki)] Try.f66.results.toList) m7 (st66_7 a0 a1 r0 v7_3 v7_4))) v7_3 v7_4) (by kernel_rfl) ?_
  rw [show (fun v7_3 v7_4=>(loopAt (opE TT OVS NTS DFS MTS (G66 F79) n) Try.f66.ntmps H66 n b66 [.r,.r,.r,.r,.r,.l,.r,.b] (kRet TT [(.val false .str),(.val false ki)] [(false,.val ki),(false,.val ki),(false,.val ki)] Try.f66.results.toList) m7 (st66_7 a0 a1 r0 v7_3 v7_4)))=varint_Get_l7 n F79 a0 a1 r0 m7 from funext fun v7_3=>funext fun v7_4=>ih v7_3 v7_4]
  first | rfl | kernel_rfl
theorem varint_Get_eq (n:Nat) (F79:CT c79) (x:DPs [(.val false .str),(.val false ki)]):funE TT [(.val false .str),(.val false ki)] [(false,.val ki),(false,.val ki),(false,.val ki)] (opE TT OVS NTS DFS MTS (G66 F79) n) H66 Try.f66.ntmps Try.f66.results.toList b66 n x=varint_Get_g n F79 x.1 x.2.1:=by
 refine Eq.trans (b:=varint_Get_h n F79 (fun a0 a1 r0 m v0_3 v0_4=>(loopAt (opE TT OVS NTS DFS MTS (G66 F79) n) Try.f66.ntmps H66 n b66 [.r,.r,.r,.r,.r,.l,.r,.b] (kRet TT [(.val false .str),(.val false ki)] [(false,.val ki),(false,.val ki),(false,.val ki)] Try.f66.results.toList) m (st66_0 a0 a1 r0 v0_3 v0_4))) (fun a0 a1 r0 m v1_3 v1_4=>(loopAt (opE TT OVS NTS DFS MTS (G66 F79) n) Try.f66.ntmps H66 n b66 [.r,.r,.r,.r,.r,.l,.r,.b] (kRet TT [(.val false .str),(.val false ki)] [(false,.val ki),(false,.val ki),(false,.val ki)] Try.f66.results.toList) m (st66_1 a0 a1 r0 v1_3 v1_4))) (fun a0 a1 r0 m v2_3 v2_4=>(loopAt (opE TT OVS NTS DFS MTS (G66 F79) n) Try.f66.ntmps H66 n b66 [.r,.r,.r,.r,.r,.l,.r,.b] (kRet TT [(.val false .str),(.val false ki)] [(false,.val ki),(false,.val ki),(false,.val ki)] Try.f66.results.toList) m (st66_2 a0 a1 r0 v2_3 v2_4))) (fun a0 a1 r0 m v3_3 v3_4=>(loopAt (opE TT OVS NTS DFS MTS (G66 F79) n) Try.f66.ntmps H66 n b66 [.r,.r,.r,.r,.r,.l,.r,.b] (kRet TT [(.val false .str),(.val false ki)] [(false,.val ki),(false,.val ki),(false,.val ki)] Try.f66.results.toList) m (st66_3 a0 a1 r0 v3_3 v3_4))) (fun a0 a1 r0 m v4_3 v4_4=>(loopAt (opE TT OVS NTS DFS MTS (G66 F79) n) Try.f66.ntmps H66 n b66 [.r,.r,.r,.r,.r,.l,.r,.b] (kRet TT [(.val false .str),(.val false ki)] [(false,.val ki),(false,.val ki),(false,.val ki)] Try.f66.results.toList) m (st66_4 a0 a1 r0 v4_3 v4_4))) (fun a0 a1 r0 m v5_3 v5_4=>(loopAt (opE TT OVS NTS DFS MTS (G66 F79) n) Try.f66.ntmps H66 n b66 [.r,.r,.r,.r,.r,.l,.r,.b] (kRet TT [(.val false .str),(.val false ki)] [(false,.val ki),(false,.val ki),(false,.val ki)] Try.f66.results.toList) m (st66_5 a0 a1 r0 v5_3 v5_4))) (fun a0 a1 r0 m v6_3 v6_4=>(loopAt (opE TT OVS NTS DFS MTS (G66 F79) n) Try.f66.ntmps H66 n b66 [.r,.r,.r,.r,.r,.l,.r,.b] (kRet TT [(.val false .str),(.val false ki)] [(false,.val ki),(false,.val ki),(false,.val ki)] Try.f66.results.toList) m (st66_6 a0 a1 r0 v6_3 v6_4))) (fun a0 a1 r0 m v7_3 v7_4=>(loopAt (opE TT OVS NTS DFS MTS (G66 F79) n) Try.f66.ntmps H66 n b66 [.r,.r,.r,.r,.r,.l,.r,.b] (kRet TT [(.val false .str),(.val false ki)] [(false,.val ki),(false,.val ki),(false,.val ki)] Try.f66.results.toList) m (st66_7 a0 a1 r0 v7_3 v7_4))) x.1 x.2.1) (by kernel_rfl) ?_
 try rw [show (fun a0 a1 r0 m v0_3 v0_4=>(loopAt (opE TT OVS NTS DFS MTS (G66 F79) n) Try.f66.ntmps H66 n b66 [.r,.r,.r,.r,.r,.l,.r,.b] (kRet TT [(.val false .str),(.val false ki)] [(false,.val ki),(false,.val ki),(false,.val ki)] Try.f66.results.toList) m (st66_0 a0 a1 r0 v0_3 v0_4)))=(fun a0 a1 r0 m v0_3 v0_4=>varint_Get_l0 n F79 a0 a1 r0 m v0_3 v0_4) from funext fun a0=>funext fun a1=>funext fun r0=>funext fun m=>funext fun v0_3=>funext fun v0_4=>varint_Get_l0_ok n F79 a0 a1 r0 m v0_3 v0_4]
 try rw [show (fun a0 a1 r0 m v1_3 v1_4=>(loopAt (opE TT OVS NTS DFS MTS (G66 F79) n) Try.f66.ntmps H66 n b66 [.r,.r,.r,.r,.r,.l,.r,.b] (kRet TT [(.val false .str),(.val false ki)] [(false,.val ki),(false,.val ki),(false,.val ki)] Try.f66.results.toList) m (st66_1 a0 a1 r0 v1_3 v1_4)))=(fun a0 a1 r0 m v1_3 v1_4=>varint_Get_l1 n F79 a0 a1 r0 m v1_3 v1_4) from funext fun a0=>funext fun a1=>funext fun r0=>funext fun m=>funext fun v1_3=>funext fun v1_4=>varint_Get_l1_ok n F79 a0 a1 r0 m v1_3 v1_4]
 try rw [show (fun a0 a1 r0 m v2_3 v2_4=>(loopAt (opE TT OVS NTS DFS MTS (G66 F79) n) Try.f66.ntmps H66 n b66 [.r,.r,.r,.r,.r,.l,.r,.b] (kRet TT [(.val false .str),(.val false ki)] [(false,.val ki),(false,.val ki),(false,.val ki)] Try.f66.results.toList) m (st66_2 a0 a1 r0 v2_3 v2_4)))=(fun a0 a1 r0 m v2_3 v2_4=>varint_Get_l2 n F79 a0 a1 r0 m v2_3 v2_4) from funext fun a0=>funext fun a1=>funext fun r0=>funext fun m=>funext fun v2_3=>funext fun v2_4=>varint_Get_l2_ok n F79 a0 a1 r0 m v2_3 v2_4]
 try rw [show (fun a0 a1 r0 m v3_3 v3_4=>(loopAt (opE TT OVS NTS DFS MTS (G66 F79) n) Try.f66.ntmps H66 n b66 [.r,.r,.r,.r,.r,.l,.r,.b] (kRet TT [(.val false .str),(.val false ki)] [(false,.val ki),(false,.val ki),(false,.val ki)] Try.f66.results.toList) m (st66_3 a0 a1 r0 v3_3 v3_4)))=(fun a0 a1 r0 m v3_3 v3_4=>varint_Get_l3 n F79 a0 a1 r0 m v3_3 v3_4) from funext fun a0=>funext fun a1=>funext fun r0=>funext fun m=>funext fun v3_3=>funext fun v3_4=>varint_Get_l3_ok n F79 a0 a1 r0 m v3_3 v3_4]
 try rw [show (fun a0 a1 r0 m v4_3 v4_4=>(loopAt (opE TT OVS NTS DFS MTS (G66 F79) n) Try.f66.ntmps H66 n b66 [.r,.r,.r,.r,.r,.l,.r,.b] (kRet TT [(.val false .str),(.val false ki)] [(false,.val ki),(false,.val ki),(false,.val ki)] Try.f66.results.toList) m (st66_4 a0 a1 r0 v4_3 v4_4)))=(fun a0 a1 r0 m v4_3 v4_4=>varint_Get_l4 n F79 a0 a1 r0 m v4_3 v4_4) from funext fun a0=>funext fun a1=>funext fun r0=>funext fun m=>funext fun v4_3=>funext fun v4_4=>varint_Get_l4_ok n F79 a0 a1 r0 m v4_3 v4_4]
 try rw [show (fun a0 a1 r0 m v5_3 v5_4=>(loopAt (opE TT OVS NTS DFS MTS (G66 F79) n) Try.f66.ntmps H66 n b66 [.r,.r,.r,.r,.r,.l,.r,.b] (kRet TT [(.val false .str),(.val false ki)] [(false,.val ki),(false,.val ki),(false,.val ki)] Try.f66.results.toList) m (st66_5 a0 a1 r0 v5_3 v5_4)))=(fun a0 a1 r0 m v5_3 v5_4=>varint_Get_l5 n F79 a0 a1 r0 m v5_3 v5_4) from funext fun a0=>funext fun a1=>funext fun r0=>funext fun m=>funext fun v5_3=>funext fun v5_4=>varint_Get_l5_ok n F79 a0 a1 r0 m v5_3 v5_4]
 try rw [show (fun a0 a1 r0 m v6_3 v6_4=>(loopAt (opE TT OVS NTS DFS MTS (G66 F79) n) Try.f66.ntmps H66 n b66 [.r,.r,.r,.r,.r,.l,.r,.b] (kRet TT [(.val false .str),(.val false ki)] [(false,.val ki),(false,.val ki),(false,.val ki)] Try.f66.results.toList) m (st66_6 a0 a1 r0 v6_3 v6_4)))=(fun a0 a1 r0 m v6_3 v6_4=>varint_Get_l6 n F79 a0 a1 r0 m v6_3 v6_4) from funext fun a0=>funext fun a1=>funext fun r0=>funext fun m=>funext fun v6_3=>funext fun v6_4=>varint_Get_l6_ok n F79 a0 a1 r0 m v6_3 v6_4]
 try rw [show (fun a0 a1 r0 m v7_3 v7_4=>(loopAt (opE TT OVS NTS DFS MTS (G66 F79) n) Try.f66.ntmps H66 n b66 [.r,.r,.r,.r,.r,.l,.r,.b] (kRet TT [(.val false .str),(.val false ki)] [(false,.val ki),(false,.val ki),(false,.val ki)] Try.f66.results.toList) m (st66_7 a0 a1 r0 v7_3 v7_4)))=(fun a0 a1 r0 m v7_3 v7_4=>varint_Get_l7 n F79 a0 a1 r0 m v7_3 v7_4) from funext fun a0=>funext fun a1=>funext fun r0=>funext fun m=>funext fun v7_3=>funext fun v7_4=>varint_Get_l7_ok n F79 a0 a1 r0 m v7_3 v7_4]
 first | rfl | kernel_rfl
def varint_Get (n:Nat) (a0:ByteArray) (a1:Int):Option (Int×Int×Int):=varint_Get_g n c79.F a0 a1
def c66:Con:=⟨[(.val false .str),(.val false ki)],[(false,.val ki),(false,.val ki),(false,.val ki)],fun n x=>varint_Get n x.1 x.2.1⟩
theorem c66_ok:ConOK Try.prog 66 c66:=funE_ok TT_ok mixed Try.func66 (body:=b66) rfl rfl (by decide +kernel) (fun n=>opE_ok TT_ok OVS_ok NTS DFS MTS_ok (G:=G66 c79.F) (GOK.cons c79_ok (GOK.nil)) n) (H:=H66) fun n x y h=>(varint_Get_eq n c79.F x).trans h
def b22:Go.Code:=Try.f22.body.getD .skip
def H22:HL:=[]
def G22 (F39m:CT c39m):List (Nat×Con):=[(39,⟨c39m.ps,c39m.rs,F39m⟩)]
def check_marks_g (n:Nat) (F39m:CT c39m) (a0:(tC)×Int×List Int×List Int×Int×List (tI)×ByteArray×Int):Option Bool :=
 bif (a0.snd.snd.fst.length:Int) == a0.fst.snd.snd.snd.snd then Option.bind (α:=Bool) (F39m n (a0.snd.snd.fst,(),())) fun r0↦some !r0 else some false
theorem check_marks_eq (n:Nat) (F39m:CT c39m) (x:DPs [(.iref (.pair (.pair (.seq 50 kQ) kI) (.pair ki (.pair (.seq 3 ki) (.pair (.seq 3 ki) (.pair ki (.pair (.seq 44 kI) (.pair .str ki))))))))]):funE TT [(.iref (.pair (.pair (.seq 50 kQ) kI) (.pair ki (.pair (.seq 3 ki) (.pair (.seq 3 ki) (.pair ki (.pair (.seq 44 kI) (.pair .str ki))))))))] [(false,.val .bool)] (opE TT OVS NTS DFS MTS (G22 F39m) n) H22 Try.f22.ntmps Try.f22.results.toList b22 n x=check_marks_g n F39m x.1:=by
 kernel_rfl
def check_marks (n:Nat) (a0:(tC)×Int×List Int×List Int×Int×List (tI)×ByteArray×Int):Option Bool:=check_marks_g n c39m.F a0
def c22:Con:=⟨[(.iref (.pair (.pair (.seq 50 kQ) kI) (.pair ki (.pair (.seq 3 ki) (.pair (.seq 3 ki) (.pair ki (.pair (.seq 44 kI) (.pair .str ki))))))))],[(false,.val .bool)],fun n x=>check_marks n x.1⟩
theorem c22_ok:ConOK Try.prog 22 c22:=funE_ok TT_ok mixed Try.func22 (body:=b22) rfl rfl (by decide +kernel) (fun n=>opE_ok TT_ok OVS_ok NTS DFS MTS_ok (G:=G22 c39m.F) (GOK.cons c39m_ok (GOK.nil)) n) (H:=H22) fun n x y h=>(check_marks_eq n c39m.F x).trans h
def b21:Go.Code:=Try.f21.body.getD .skip
def H21:HL:=[]
def G21 (F36:CT c36):List (Nat×Con):=[(36,⟨c36.ps,c36.rs,F36⟩)]
def scan_Load_g (n:Nat) (F36:CT c36) (a0:ByteArray) (a1:Int):Option (PUnit×Int) :=
 Option.bind (α:=ByteArray×Int×Int) (F36 n (a0,(0:Int),())) fun r0↦bif decide (a1 < (0:Int)) then some ((),(1100:Int)) else bif decide (a1 > (1073741823:Int)) then some ((),(1100:Int)) else bif !eqS a0 (ByteArray.mk #[]) then bif r0.snd.snd != (801:Int) then some ((),(1100:Int)) else some ((),(0:Int)) else some ((),(0:Int))
theorem scan_Load_eq (n:Nat) (F36:CT c36) (x:DPs [(.val false .str),(.val false ki)]):funE TT [(.val false .str),(.val false ki)] [(false,.any),(false,.val ki)] (opE TT OVS NTS DFS MTS (G21 F36) n) H21 Try.f21.ntmps Try.f21.results.toList b21 n x=scan_Load_g n F36 x.1 x.2.1:=by
 kernel_rfl
def scan_Load (n:Nat) (a0:ByteArray) (a1:Int):Option (PUnit×Int):=scan_Load_g n c36.F a0 a1
def c21:Con:=⟨[(.val false .str),(.val false ki)],[(false,.any),(false,.val ki)],fun n x=>scan_Load n x.1 x.2.1⟩
theorem c21_ok:ConOK Try.prog 21 c21:=funE_ok TT_ok mixed Try.func21 (body:=b21) rfl rfl (by decide +kernel) (fun n=>opE_ok TT_ok OVS_ok NTS DFS MTS_ok (G:=G21 c36.F) (GOK.cons c36_ok (GOK.nil)) n) (H:=H21) fun n x y h=>(scan_Load_eq n c36.F x).trans h
end
end Go.Proofs.Ytjdlancjbdmkhaa
