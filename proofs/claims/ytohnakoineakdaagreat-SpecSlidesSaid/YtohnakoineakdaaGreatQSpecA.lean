/- Functions of the program as plain Lean functions, printed by a program of our own. -/
import Derived.Test.YtohnakoineakdaaGreatQAb
namespace Go.Proofs.YtohnakoineakdaaGreat
open Go Go.Ev
set_option maxRecDepth 100000
set_option linter.unusedVariables false
noncomputable def b146:Go.Code:=Tryz.f146.body.getD .skip
def H146:HL:=[]
noncomputable def G146:List (Nat×Con):=[]
noncomputable def slices_Clone_int_int_n (n:Nat) (a0:List Int):Option (List Int) :=
 bif !a0.isEmpty then if ((List.replicate (0:Nat) (0:Int)).length + a0.length) * (8:Nat)≤(140737488355328:Nat)∧(0:Nat) < (8:Nat) then some (List.replicate (0:Nat) (0:Int)++a0) else none else none
theorem slices_Clone_int_int_n_eq (n:Nat) (x:DPs [(.val false (.seq 3 ki))]):funE TT [(.val false (.seq 3 ki))] [(false,.vec 3 ki)] (opE TT OVS NTS DFS MTS G146 n) H146 Tryz.f146.ntmps Tryz.f146.results.toList b146 n x=slices_Clone_int_int_n n x.1:=by
 kernel_rfl
noncomputable def slices_Clone_int_int (n:Nat) (a0:List Int):Option (List Int):=bif a0.isEmpty then some [] else slices_Clone_int_int_n n a0
theorem c146n_ok:ConOK Tryz.prog 146 ⟨[(.val false (.seq 3 ki))],[(false,.vec 3 ki)],fun n x=>slices_Clone_int_int_n n x.1⟩:=funE_ok TT_ok mixed Tryz.func146 (body:=b146) rfl rfl (by decide +kernel) (fun n=>opE_ok TT_ok OVS_ok NTS DFS MTS_ok (G:=G146) (GOK.nil) n) (H:=H146) fun n x y h=>(slices_Clone_int_int_n_eq n x).trans h
theorem slices_Clone_int_int_z (n:Nat) (a:Option Addr) (c:Nat):funE TT [.slit] [(false,.vec 3 ki)] (opE TT OVS NTS DFS MTS G146 n) H146 Tryz.f146.ntmps Tryz.f146.results.toList b146 n ((a,c),())=some []:=by
 cases a <;> kernel_rfl
theorem c146z_ok:ConOK Tryz.prog 146 ⟨[.slit],[(false,.vec 3 ki)],fun _ _=>some []⟩:=funE_ok TT_ok mixed Tryz.func146 (body:=b146) rfl rfl (by decide +kernel) (fun n=>opE_ok TT_ok OVS_ok NTS DFS MTS_ok (G:=G146) (GOK.nil) n) (H:=H146) fun n x y h=>(slices_Clone_int_int_z n x.1.1 x.1.2).trans h
noncomputable def c146:Con:=⟨[(.val false (.seq 3 ki))],[(false,.vec 3 ki)],fun n x=>slices_Clone_int_int n x.1⟩
theorem c146_F (n:Nat) (a0:List Int):c146.F n (a0,())=slices_Clone_int_int n a0:=rfl
theorem c146_ok:ConOK Tryz.prog 146 c146:=ConOK.split c146z_ok c146n_ok
noncomputable def b46:Go.Code:=Tryz.f46.body.getD .skip
def H46:HL:=[]
noncomputable def G46:List (Nat×Con):=[]
noncomputable def slices_Clone_api_Item_n (n:Nat) (a0:List (tI)):Option (List (tI)) :=
 bif !a0.isEmpty then if ((List.replicate (0:Nat) ((0:Int),(0:Int),(0:Int),(0:Int))).length + a0.length) * (32:Nat)≤(140737488355328:Nat)∧(0:Nat) < (32:Nat) then some (List.replicate (0:Nat) ((0:Int),(0:Int),(0:Int),(0:Int))++a0) else none else none
theorem slices_Clone_api_Item_n_eq (n:Nat) (x:DPs [(.val false (.seq 60 kI))]):funE TT [(.val false (.seq 60 kI))] [(false,.vec 60 kI)] (opE TT OVS NTS DFS MTS G46 n) H46 Tryz.f46.ntmps Tryz.f46.results.toList b46 n x=slices_Clone_api_Item_n n x.1:=by
 kernel_rfl
noncomputable def slices_Clone_api_Item (n:Nat) (a0:List (tI)):Option (List (tI)):=bif a0.isEmpty then some [] else slices_Clone_api_Item_n n a0
theorem c46n_ok:ConOK Tryz.prog 46 ⟨[(.val false (.seq 60 kI))],[(false,.vec 60 kI)],fun n x=>slices_Clone_api_Item_n n x.1⟩:=funE_ok TT_ok mixed Tryz.func46 (body:=b46) rfl rfl (by decide +kernel) (fun n=>opE_ok TT_ok OVS_ok NTS DFS MTS_ok (G:=G46) (GOK.nil) n) (H:=H46) fun n x y h=>(slices_Clone_api_Item_n_eq n x).trans h
theorem slices_Clone_api_Item_z (n:Nat) (a:Option Addr) (c:Nat):funE TT [.slit] [(false,.vec 60 kI)] (opE TT OVS NTS DFS MTS G46 n) H46 Tryz.f46.ntmps Tryz.f46.results.toList b46 n ((a,c),())=some []:=by
 cases a <;> kernel_rfl
theorem c46z_ok:ConOK Tryz.prog 46 ⟨[.slit],[(false,.vec 60 kI)],fun _ _=>some []⟩:=funE_ok TT_ok mixed Tryz.func46 (body:=b46) rfl rfl (by decide +kernel) (fun n=>opE_ok TT_ok OVS_ok NTS DFS MTS_ok (G:=G46) (GOK.nil) n) (H:=H46) fun n x y h=>(slices_Clone_api_Item_z n x.1.1 x.1.2).trans h
noncomputable def c46:Con:=⟨[(.val false (.seq 60 kI))],[(false,.vec 60 kI)],fun n x=>slices_Clone_api_Item n x.1⟩
theorem c46_F (n:Nat) (a0:List (tI)):c46.F n (a0,())=slices_Clone_api_Item n a0:=rfl
theorem c46_ok:ConOK Tryz.prog 46 c46:=ConOK.split c46z_ok c46n_ok
noncomputable def b82:Go.Code:=Tryz.f82.body.getD .skip
def H82:HL:=[]
noncomputable def G82:List (Nat×Con):=[]
noncomputable def acc_within (n:Nat) (a0:Int) (a1:Int):Option Bool :=
 bif decide (a0≥IntKind.i64.wrap ((0:Int) - a1)) then some (decide (a0≤a1)) else some false
theorem acc_within_eq (n:Nat) (x:DPs [(.val false ki),(.val false ki)]):funE TT [(.val false ki),(.val false ki)] [(false,.val .bool)] (opE TT OVS NTS DFS MTS G82 n) H82 Tryz.f82.ntmps Tryz.f82.results.toList b82 n x=acc_within n x.1 x.2.1:=by
 kernel_rfl
noncomputable def c82:Con:=⟨[(.val false ki),(.val false ki)],[(false,.val .bool)],fun n x=>acc_within n x.1 x.2.1⟩
theorem c82_F (n:Nat) (a0:Int) (a1:Int):c82.F n (a0,a1,())=acc_within n a0 a1:=rfl
theorem c82_ok:ConOK Tryz.prog 82 c82:=funE_ok TT_ok mixed Tryz.func82 (body:=b82) rfl rfl (by decide +kernel) (fun n=>opE_ok TT_ok OVS_ok NTS DFS MTS_ok (G:=G82) (GOK.nil) n) (H:=H82) fun n x y h=>(acc_within_eq n x).trans h
noncomputable def st92_0 (a0:List Int) (v0_3:Int):LS:=({ env:=[(nat_lit 0,vS (nat_lit 3) ki a0),(nat_lit 8,vS (nat_lit 3) ki a0),(nat_lit 9,vI (a0.length:Int)),(nat_lit 10,vI v0_3)],heap:=nl (Nat×Option HV),next:=nat_lit 0,pins:=[] })
noncomputable def b92:Go.Code:=Tryz.f92.body.getD .skip
def H92:HL:=[(4,[0,8,9,10],[])]
noncomputable def G92 (F82:CT c82):List (Nat×Con):=[(82,⟨c82.ps,c82.rs,F82⟩)]
noncomputable def acc_BoundsMay_l0_step (n:Nat) (F82:CT c82) (a0:List Int) (ih0:(Int)→Option Bool) (v0_3:Int):Option Bool :=
 bif decide (v0_3 < (a0.length:Int)) then if (0:Int)≤v0_3∧v0_3 < (a0.length:Int) then Option.bind (α:=Bool) (F82 n (a0.getD v0_3.toNat (0:Int),(1099511627776:Int),())) fun r0↦bif !r0 then some false else bif decide (v0_3 > (0:Int)) then if (0:Int)≤IntKind.i64.wrap (v0_3 - (1:Int))∧IntKind.i64.wrap (v0_3 - (1:Int)) < (a0.length:Int) then bif decide (a0.getD (IntKind.i64.wrap (v0_3 - (1:Int))).toNat (0:Int)≥a0.getD v0_3.toNat (0:Int)) then some false else ih0 (IntKind.i64.wrap (v0_3 + (1:Int))) else none else ih0 (IntKind.i64.wrap (v0_3 + (1:Int))) else none else some true
noncomputable def acc_BoundsMay_l0 (n:Nat) (F82:CT c82) (a0:List Int):Nat→(Int)→Option Bool
 | 0,_=>none
 | m0 + 1,v0_3=>acc_BoundsMay_l0_step n F82 a0 (acc_BoundsMay_l0 n F82 a0 m0) v0_3
noncomputable def acc_BoundsMay_h (n:Nat) (F82:CT c82) (h0:(List Int)→Nat→(Int)→Option Bool) (a0:List Int):Option Bool :=
 bif decide ((a0.length:Int) > (8:Int)) then some false else h0 a0 n (0:Int)
noncomputable def acc_BoundsMay_g (n:Nat) (F82:CT c82) (a0:List Int):Option Bool:=acc_BoundsMay_h n F82 (fun a0 m v0_3=>acc_BoundsMay_l0 n F82 a0 m v0_3) a0
theorem acc_BoundsMay_l0_ok (n:Nat) (F82:CT c82) (a0:List Int):∀ (m0:Nat) (v0_3:Int),(loopAt (opE TT OVS NTS DFS MTS (G92 F82) n) Tryz.f92.ntmps H92 n b92 [.r,.r,.l,.r,.b] (kRet TT [(.val false (.seq 3 ki))] [(false,.val .bool)] Tryz.f92.results.toList) m0 (st92_0 a0 v0_3))=acc_BoundsMay_l0 n F82 a0 m0 v0_3:=by
 intro m0
 induction m0 with
 | zero=>intros; kernel_rfl
 | succ m0 ih =>
  intro v0_3
  refine Eq.trans (b:=acc_BoundsMay_l0_step n F82 a0 (fun v0_3=>(loopAt (opE TT OVS NTS DFS MTS (G92 F82) n) Tryz.f92.ntmps H92 n b92 [.r,.r,.l,.r,.b] (kRet TT [(.val false (.seq 3 ki))] [(false,.val .bool)] Tryz.f92.results.toList) m0 (st92_0 a0 v0_3))) v0_3) (by kernel_rfl) ?_
  rw [show (fun v0_3=>(loopAt (opE TT OVS NTS DFS MTS (G92 F82) n) Tryz.f92.ntmps H92 n b92 [.r,.r,.l,.r,.b] (kRet TT [(.val false (.seq 3 ki))] [(false,.val .bool)] Tryz.f92.results.toList) m0 (st92_0 a0 v0_3)))=acc_BoundsMay_l0 n F82 a0 m0 from funext fun v0_3=>ih v0_3]
  first | rfl | kernel_rfl
theorem acc_BoundsMay_eq (n:Nat) (F82:CT c82) (x:DPs [(.val false (.seq 3 ki))]):funE TT [(.val false (.seq 3 ki))] [(false,.val .bool)] (opE TT OVS NTS DFS MTS (G92 F82) n) H92 Tryz.f92.ntmps Tryz.f92.results.toList b92 n x=acc_BoundsMay_g n F82 x.1:=by
 refine Eq.trans (b:=acc_BoundsMay_h n F82 (fun a0 m v0_3=>(loopAt (opE TT OVS NTS DFS MTS (G92 F82) n) Tryz.f92.ntmps H92 n b92 [.r,.r,.l,.r,.b] (kRet TT [(.val false (.seq 3 ki))] [(false,.val .bool)] Tryz.f92.results.toList) m (st92_0 a0 v0_3))) x.1) (by kernel_rfl) ?_
 try rw [show (fun a0 m v0_3=>(loopAt (opE TT OVS NTS DFS MTS (G92 F82) n) Tryz.f92.ntmps H92 n b92 [.r,.r,.l,.r,.b] (kRet TT [(.val false (.seq 3 ki))] [(false,.val .bool)] Tryz.f92.results.toList) m (st92_0 a0 v0_3)))=(fun a0 m v0_3=>acc_BoundsMay_l0 n F82 a0 m v0_3) from funext fun a0=>funext fun m=>funext fun v0_3=>acc_BoundsMay_l0_ok n F82 a0 m v0_3]
 first | rfl | kernel_rfl
noncomputable def acc_BoundsMay (n:Nat) (a0:List Int):Option Bool:=acc_BoundsMay_g n c82.F a0
noncomputable def c92:Con:=⟨[(.val false (.seq 3 ki))],[(false,.val .bool)],fun n x=>acc_BoundsMay n x.1⟩
theorem c92_F (n:Nat) (a0:List Int):c92.F n (a0,())=acc_BoundsMay n a0:=rfl
theorem c92_ok:ConOK Tryz.prog 92 c92:=funE_ok TT_ok mixed Tryz.func92 (body:=b92) rfl rfl (by decide +kernel) (fun n=>opE_ok TT_ok OVS_ok NTS DFS MTS_ok (G:=G92 c82.F) (GOK.cons c82_ok (GOK.nil)) n) (H:=H92) fun n x y h=>(acc_BoundsMay_eq n c82.F x).trans h
noncomputable def st128_0 (a0:tA) (a1:List Int) (v0_2:Int) (v0_5:Int):LS:=({ env:=[(nat_lit 0,some (AV.sv false [CV.iptr (ki.pair (ki.pair (ki.pair (ki.pair (kI.pair (kI.pair (Ty.seq (nat_lit 3) ki))))))) a0 (nat_lit 0)])),(nat_lit 1,vS (nat_lit 3) ki a1),(nat_lit 5,vI v0_2),(nat_lit 11,vS (nat_lit 3) ki a0.snd.snd.snd.snd.snd.snd),(nat_lit 12,vI (a0.snd.snd.snd.snd.snd.snd.length:Int)),(nat_lit 13,vI v0_5)],heap:=nl (Nat×Option HV),next:=nat_lit 0,pins:=[] })
noncomputable def b128:Go.Code:=Tryz.f128.body.getD .skip
def H128:HL:=[(3,[0,1,5,11,12,13],[])]
noncomputable def G128:List (Nat×Con):=[]
noncomputable def acc_hist_l0_step (n:Nat) (a0:tA) (a1:List Int) (ih0:(Int)→(Int)→Option Bool) (v0_2:Int) (v0_5:Int):Option Bool :=
 bif decide (v0_5 < (a0.snd.snd.snd.snd.snd.snd.length:Int)) then if (0:Int)≤v0_5∧v0_5 < (a0.snd.snd.snd.snd.snd.snd.length:Int) then bif decide (a0.snd.snd.snd.snd.snd.snd.getD v0_5.toNat (0:Int) < (0:Int)) then some false else bif decide (a0.snd.snd.snd.snd.snd.snd.getD v0_5.toNat (0:Int) > (8192:Int)) then some false else ih0 (IntKind.i64.wrap (v0_2 + a0.snd.snd.snd.snd.snd.snd.getD v0_5.toNat (0:Int))) (IntKind.i64.wrap (v0_5 + (1:Int))) else none else bif (a0.snd.snd.snd.snd.snd.snd.length:Int) == IntKind.i64.wrap ((a1.length:Int) + (1:Int)) then some (v0_2 == a0.fst) else some false
noncomputable def acc_hist_l0 (n:Nat) (a0:tA) (a1:List Int):Nat→(Int)→(Int)→Option Bool
 | 0,_,_=>none
 | m0 + 1,v0_2,v0_5=>acc_hist_l0_step n a0 a1 (acc_hist_l0 n a0 a1 m0) v0_2 v0_5
noncomputable def acc_hist_h (n:Nat) (h0:(tA)→(List Int)→Nat→(Int)→(Int)→Option Bool) (a0:tA) (a1:List Int):Option Bool :=
 h0 a0 a1 n (0:Int) (0:Int)
noncomputable def acc_hist (n:Nat) (a0:tA) (a1:List Int):Option Bool:=acc_hist_h n (fun a0 a1 m v0_2 v0_5=>acc_hist_l0 n a0 a1 m v0_2 v0_5) a0 a1
theorem acc_hist_l0_ok (n:Nat) (a0:tA) (a1:List Int):∀ (m0:Nat) (v0_2:Int) (v0_5:Int),(loopAt (opE TT OVS NTS DFS MTS G128 n) Tryz.f128.ntmps H128 n b128 [.r,.r,.l,.r,.b] (kRet TT [(.iref kA),(.val false (.seq 3 ki))] [(false,.val .bool)] Tryz.f128.results.toList) m0 (st128_0 a0 a1 v0_2 v0_5))=acc_hist_l0 n a0 a1 m0 v0_2 v0_5:=by
 intro m0
 induction m0 with
 | zero=>intros; kernel_rfl
 | succ m0 ih =>
  intro v0_2 v0_5
  refine Eq.trans (b:=acc_hist_l0_step n a0 a1 (fun v0_2 v0_5=>(loopAt (opE TT OVS NTS DFS MTS G128 n) Tryz.f128.ntmps H128 n b128 [.r,.r,.l,.r,.b] (kRet TT [(.iref kA),(.val false (.seq 3 ki))] [(false,.val .bool)] Tryz.f128.results.toList) m0 (st128_0 a0 a1 v0_2 v0_5))) v0_2 v0_5) (by kernel_rfl) ?_
  rw [show (fun v0_2 v0_5=>(loopAt (opE TT OVS NTS DFS MTS G128 n) Tryz.f128.ntmps H128 n b128 [.r,.r,.l,.r,.b] (kRet TT [(.iref kA),(.val false (.seq 3 ki))] [(false,.val .bool)] Tryz.f128.results.toList) m0 (st128_0 a0 a1 v0_2 v0_5)))=acc_hist_l0 n a0 a1 m0 from funext fun v0_2=>funext fun v0_5=>ih v0_2 v0_5]
  first | rfl | kernel_rfl
theorem acc_hist_eq (n:Nat) (x:DPs [(.iref kA),(.val false (.seq 3 ki))]):funE TT [(.iref kA),(.val false (.seq 3 ki))] [(false,.val .bool)] (opE TT OVS NTS DFS MTS G128 n) H128 Tryz.f128.ntmps Tryz.f128.results.toList b128 n x=acc_hist n x.1 x.2.1:=by
 refine Eq.trans (b:=acc_hist_h n (fun a0 a1 m v0_2 v0_5=>(loopAt (opE TT OVS NTS DFS MTS G128 n) Tryz.f128.ntmps H128 n b128 [.r,.r,.l,.r,.b] (kRet TT [(.iref kA),(.val false (.seq 3 ki))] [(false,.val .bool)] Tryz.f128.results.toList) m (st128_0 a0 a1 v0_2 v0_5))) x.1 x.2.1) (by kernel_rfl) ?_
 try rw [show (fun a0 a1 m v0_2 v0_5=>(loopAt (opE TT OVS NTS DFS MTS G128 n) Tryz.f128.ntmps H128 n b128 [.r,.r,.l,.r,.b] (kRet TT [(.iref kA),(.val false (.seq 3 ki))] [(false,.val .bool)] Tryz.f128.results.toList) m (st128_0 a0 a1 v0_2 v0_5)))=(fun a0 a1 m v0_2 v0_5=>acc_hist_l0 n a0 a1 m v0_2 v0_5) from funext fun a0=>funext fun a1=>funext fun m=>funext fun v0_2=>funext fun v0_5=>acc_hist_l0_ok n a0 a1 m v0_2 v0_5]
 first | rfl | kernel_rfl
noncomputable def c128:Con:=⟨[(.iref kA),(.val false (.seq 3 ki))],[(false,.val .bool)],fun n x=>acc_hist n x.1 x.2.1⟩
theorem c128_F (n:Nat) (a0:tA) (a1:List Int):c128.F n (a0,a1,())=acc_hist n a0 a1:=rfl
theorem c128_ok:ConOK Tryz.prog 128 c128:=funE_ok TT_ok mixed Tryz.func128 (body:=b128) rfl rfl (by decide +kernel) (fun n=>opE_ok TT_ok OVS_ok NTS DFS MTS_ok (G:=G128) (GOK.nil) n) (H:=H128) fun n x y h=>(acc_hist_eq n x).trans h
noncomputable def b129:Go.Code:=Tryz.f129.body.getD .skip
def H129:HL:=[]
noncomputable def G129:List (Nat×Con):=[]
noncomputable def acc_bare (n:Nat) (a0:tA):Option Bool :=
 bif a0.snd.fst == (0:Int) then bif a0.snd.snd.fst == (0:Int) then bif a0.snd.snd.snd.fst == (0:Int) then bif a0.snd.snd.snd.snd.fst.fst == (0:Int)&&(a0.snd.snd.snd.snd.fst.snd.fst == (0:Int)&&(a0.snd.snd.snd.snd.fst.snd.snd.fst == (0:Int)&&(a0.snd.snd.snd.snd.fst.snd.snd.snd == (0:Int)&&true))) then some (a0.snd.snd.snd.snd.snd.fst.fst == (0:Int)&&(a0.snd.snd.snd.snd.snd.fst.snd.fst == (0:Int)&&(a0.snd.snd.snd.snd.snd.fst.snd.snd.fst == (0:Int)&&(a0.snd.snd.snd.snd.snd.fst.snd.snd.snd == (0:Int)&&true)))) else some false else some false else some false else some false
theorem acc_bare_eq (n:Nat) (x:DPs [(.iref kA)]):funE TT [(.iref kA)] [(false,.val .bool)] (opE TT OVS NTS DFS MTS G129 n) H129 Tryz.f129.ntmps Tryz.f129.results.toList b129 n x=acc_bare n x.1:=by
 kernel_rfl
noncomputable def c129:Con:=⟨[(.iref kA)],[(false,.val .bool)],fun n x=>acc_bare n x.1⟩
theorem c129_F (n:Nat) (a0:tA):c129.F n (a0,())=acc_bare n a0:=rfl
theorem c129_ok:ConOK Tryz.prog 129 c129:=funE_ok TT_ok mixed Tryz.func129 (body:=b129) rfl rfl (by decide +kernel) (fun n=>opE_ok TT_ok OVS_ok NTS DFS MTS_ok (G:=G129) (GOK.nil) n) (H:=H129) fun n x y h=>(acc_bare_eq n x).trans h
noncomputable def b53:Go.Code:=Tryz.f53.body.getD .skip
def H53:HL:=[]
noncomputable def G53 (F82:CT c82):List (Nat×Con):=[(82,⟨c82.ps,c82.rs,F82⟩)]
noncomputable def acc_ItemMay_g (n:Nat) (F82:CT c82) (a0:tI):Option Bool :=
 bif decide (a0.fst≥(0:Int)) then bif decide (a0.fst≤(1048575:Int)) then Option.bind (α:=Bool) (F82 n (a0.snd.fst,(1099511627776:Int),())) fun r0↦bif r0 then bif decide (a0.snd.snd.fst≥(1:Int)) then bif decide (a0.snd.snd.fst≤(1073741823:Int)) then Option.bind (α:=Bool) (F82 n (a0.snd.snd.snd,(1099511627776:Int),())) fun r1↦some r1 else some false else some false else some false else some false else some false
theorem acc_ItemMay_eq (n:Nat) (F82:CT c82) (x:DPs [(.val true kI)]):funE TT [(.val true kI)] [(false,.val .bool)] (opE TT OVS NTS DFS MTS (G53 F82) n) H53 Tryz.f53.ntmps Tryz.f53.results.toList b53 n x=acc_ItemMay_g n F82 x.1:=by
 kernel_rfl
noncomputable def acc_ItemMay (n:Nat) (a0:tI):Option Bool:=acc_ItemMay_g n c82.F a0
noncomputable def c53:Con:=⟨[(.val true kI)],[(false,.val .bool)],fun n x=>acc_ItemMay n x.1⟩
theorem c53_F (n:Nat) (a0:tI):c53.F n (a0,())=acc_ItemMay n a0:=rfl
theorem c53_ok:ConOK Tryz.prog 53 c53:=funE_ok TT_ok mixed Tryz.func53 (body:=b53) rfl rfl (by decide +kernel) (fun n=>opE_ok TT_ok OVS_ok NTS DFS MTS_ok (G:=G53 c82.F) (GOK.cons c82_ok (GOK.nil)) n) (H:=H53) fun n x y h=>(acc_ItemMay_eq n c82.F x).trans h
noncomputable def b88:Go.Code:=Tryz.f88.body.getD .skip
def H88:HL:=[]
noncomputable def G88:List (Nat×Con):=[]
noncomputable def cmp_isNaN_int (n:Nat) (a0:Int):Option Bool :=
 some (a0 != a0)
theorem cmp_isNaN_int_eq (n:Nat) (x:DPs [(.val false ki)]):funE TT [(.val false ki)] [(false,.val .bool)] (opE TT OVS NTS DFS MTS G88 n) H88 Tryz.f88.ntmps Tryz.f88.results.toList b88 n x=cmp_isNaN_int n x.1:=by
 kernel_rfl
noncomputable def c88:Con:=⟨[(.val false ki)],[(false,.val .bool)],fun n x=>cmp_isNaN_int n x.1⟩
theorem c88_F (n:Nat) (a0:Int):c88.F n (a0,())=cmp_isNaN_int n a0:=rfl
theorem c88_ok:ConOK Tryz.prog 88 c88:=funE_ok TT_ok mixed Tryz.func88 (body:=b88) rfl rfl (by decide +kernel) (fun n=>opE_ok TT_ok OVS_ok NTS DFS MTS_ok (G:=G88) (GOK.nil) n) (H:=H88) fun n x y h=>(cmp_isNaN_int_eq n x).trans h
noncomputable def b61:Go.Code:=Tryz.f61.body.getD .skip
def H61:HL:=[]
noncomputable def G61 (F88:CT c88):List (Nat×Con):=[(88,⟨c88.ps,c88.rs,F88⟩)]
noncomputable def cmp_Compare_int_g (n:Nat) (F88:CT c88) (a0:Int) (a1:Int):Option Int :=
 Option.bind (α:=Bool) (F88 n (a0,())) fun r0↦Option.bind (α:=Bool) (F88 n (a1,())) fun r1↦bif r0 then bif r1 then some (0:Int) else some (-1:Int) else bif r1 then some (1:Int) else bif decide (a0 < a1) then some (-1:Int) else bif decide (a0 > a1) then some (1:Int) else some (0:Int)
theorem cmp_Compare_int_eq (n:Nat) (F88:CT c88) (x:DPs [(.val false ki),(.val false ki)]):funE TT [(.val false ki),(.val false ki)] [(false,.val ki)] (opE TT OVS NTS DFS MTS (G61 F88) n) H61 Tryz.f61.ntmps Tryz.f61.results.toList b61 n x=cmp_Compare_int_g n F88 x.1 x.2.1:=by
 kernel_rfl
noncomputable def cmp_Compare_int (n:Nat) (a0:Int) (a1:Int):Option Int:=cmp_Compare_int_g n c88.F a0 a1
noncomputable def c61:Con:=⟨[(.val false ki),(.val false ki)],[(false,.val ki)],fun n x=>cmp_Compare_int n x.1 x.2.1⟩
theorem c61_F (n:Nat) (a0:Int) (a1:Int):c61.F n (a0,a1,())=cmp_Compare_int n a0 a1:=rfl
theorem c61_ok:ConOK Tryz.prog 61 c61:=funE_ok TT_ok mixed Tryz.func61 (body:=b61) rfl rfl (by decide +kernel) (fun n=>opE_ok TT_ok OVS_ok NTS DFS MTS_ok (G:=G61 c88.F) (GOK.cons c88_ok (GOK.nil)) n) (H:=H61) fun n x y h=>(cmp_Compare_int_eq n c88.F x).trans h
noncomputable def st60_0 (a0:List Int) (v0_3:Int):LS:=({ env:=[(nat_lit 3,vI (0:Int)),(nat_lit 6,vS (nat_lit 3) ki a0),(nat_lit 7,vI (a0.length:Int)),(nat_lit 8,vI v0_3)],heap:=nl (Nat×Option HV),next:=nat_lit 0,pins:=[] })
noncomputable def b60:Go.Code:=Tryz.f60.body.getD .skip
def H60:HL:=[(3,[3,6,7,8],[])]
noncomputable def G60:List (Nat×Con):=[]
noncomputable def cmp_Or_int_l0_step (n:Nat) (a0:List Int) (ih0:(Int)→Option Int) (v0_3:Int):Option Int :=
 bif decide (v0_3 < (a0.length:Int)) then if (0:Int)≤v0_3∧v0_3 < (a0.length:Int) then bif a0.getD v0_3.toNat (0:Int) != (0:Int) then some (a0.getD v0_3.toNat (0:Int)) else ih0 (IntKind.i64.wrap (v0_3 + (1:Int))) else none else some (0:Int)
noncomputable def cmp_Or_int_l0 (n:Nat) (a0:List Int):Nat→(Int)→Option Int
 | 0,_=>none
 | m0 + 1,v0_3=>cmp_Or_int_l0_step n a0 (cmp_Or_int_l0 n a0 m0) v0_3
noncomputable def cmp_Or_int_h (n:Nat) (h0:(List Int)→Nat→(Int)→Option Int) (a0:List Int):Option Int :=
 h0 a0 n (0:Int)
noncomputable def cmp_Or_int (n:Nat) (a0:List Int):Option Int:=cmp_Or_int_h n (fun a0 m v0_3=>cmp_Or_int_l0 n a0 m v0_3) a0
theorem cmp_Or_int_l0_ok (n:Nat) (a0:List Int):∀ (m0:Nat) (v0_3:Int),(loopAt (opE TT OVS NTS DFS MTS G60 n) Tryz.f60.ntmps H60 n b60 [.r,.r,.l,.r,.b] (kRet TT [(.val false (.seq 3 ki))] [(false,.val ki)] Tryz.f60.results.toList) m0 (st60_0 a0 v0_3))=cmp_Or_int_l0 n a0 m0 v0_3:=by
 intro m0
 induction m0 with
 | zero=>intros; kernel_rfl
 | succ m0 ih =>
  intro v0_3
  refine Eq.trans (b:=cmp_Or_int_l0_step n a0 (fun v0_3=>(loopAt (opE TT OVS NTS DFS MTS G60 n) Tryz.f60.ntmps H60 n b60 [.r,.r,.l,.r,.b] (kRet TT [(.val false (.seq 3 ki))] [(false,.val ki)] Tryz.f60.results.toList) m0 (st60_0 a0 v0_3))) v0_3) (by kernel_rfl) ?_
  rw [show (fun v0_3=>(loopAt (opE TT OVS NTS DFS MTS G60 n) Tryz.f60.ntmps H60 n b60 [.r,.r,.l,.r,.b] (kRet TT [(.val false (.seq 3 ki))] [(false,.val ki)] Tryz.f60.results.toList) m0 (st60_0 a0 v0_3)))=cmp_Or_int_l0 n a0 m0 from funext fun v0_3=>ih v0_3]
  first | rfl | kernel_rfl
theorem cmp_Or_int_eq (n:Nat) (x:DPs [(.val false (.seq 3 ki))]):funE TT [(.val false (.seq 3 ki))] [(false,.val ki)] (opE TT OVS NTS DFS MTS G60 n) H60 Tryz.f60.ntmps Tryz.f60.results.toList b60 n x=cmp_Or_int n x.1:=by
 refine Eq.trans (b:=cmp_Or_int_h n (fun a0 m v0_3=>(loopAt (opE TT OVS NTS DFS MTS G60 n) Tryz.f60.ntmps H60 n b60 [.r,.r,.l,.r,.b] (kRet TT [(.val false (.seq 3 ki))] [(false,.val ki)] Tryz.f60.results.toList) m (st60_0 a0 v0_3))) x.1) (by kernel_rfl) ?_
 try rw [show (fun a0 m v0_3=>(loopAt (opE TT OVS NTS DFS MTS G60 n) Tryz.f60.ntmps H60 n b60 [.r,.r,.l,.r,.b] (kRet TT [(.val false (.seq 3 ki))] [(false,.val ki)] Tryz.f60.results.toList) m (st60_0 a0 v0_3)))=(fun a0 m v0_3=>cmp_Or_int_l0 n a0 m v0_3) from funext fun a0=>funext fun m=>funext fun v0_3=>cmp_Or_int_l0_ok n a0 m v0_3]
 first | rfl | kernel_rfl
noncomputable def c60:Con:=⟨[(.val false (.seq 3 ki))],[(false,.val ki)],fun n x=>cmp_Or_int n x.1⟩
theorem c60_F (n:Nat) (a0:List Int):c60.F n (a0,())=cmp_Or_int n a0:=rfl
theorem c60_ok:ConOK Tryz.prog 60 c60:=funE_ok TT_ok mixed Tryz.func60 (body:=b60) rfl rfl (by decide +kernel) (fun n=>opE_ok TT_ok OVS_ok NTS DFS MTS_ok (G:=G60) (GOK.nil) n) (H:=H60) fun n x y h=>(cmp_Or_int_eq n x).trans h
noncomputable def b49:Go.Code:=Tryz.f49.body.getD .skip
def H49:HL:=[]
noncomputable def G49 (F61:CT c61) (F60:CT c60):List (Nat×Con):=[(61,⟨c61.ps,c61.rs,F61⟩),(60,⟨c60.ps,c60.rs,F60⟩)]
noncomputable def acc_Order_g (n:Nat) (F61:CT c61) (F60:CT c60) (a0:tI) (a1:tI):Option Int :=
 Option.bind (α:=Int) (F61 n (a0.snd.fst,a1.snd.fst,())) fun r0↦Option.bind (α:=Int) (F61 n (a0.snd.snd.fst,a1.snd.snd.fst,())) fun r1↦Option.bind (α:=Int) (F60 n (((List.replicate (2:Nat) (0:Int)).set (0:Nat) r0).set (1:Nat) r1,())) fun r2↦some r2
theorem acc_Order_eq (n:Nat) (F61:CT c61) (F60:CT c60) (x:DPs [(.val true kI),(.val true kI)]):funE TT [(.val true kI),(.val true kI)] [(false,.val ki)] (opE TT OVS NTS DFS MTS (G49 F61 F60) n) H49 Tryz.f49.ntmps Tryz.f49.results.toList b49 n x=acc_Order_g n F61 F60 x.1 x.2.1:=by
 kernel_rfl
noncomputable def acc_Order (n:Nat) (a0:tI) (a1:tI):Option Int:=acc_Order_g n c61.F c60.F a0 a1
noncomputable def c49:Con:=⟨[(.val true kI),(.val true kI)],[(false,.val ki)],fun n x=>acc_Order n x.1 x.2.1⟩
theorem c49_F (n:Nat) (a0:tI) (a1:tI):c49.F n (a0,a1,())=acc_Order n a0 a1:=rfl
theorem c49_ok:ConOK Tryz.prog 49 c49:=funE_ok TT_ok mixed Tryz.func49 (body:=b49) rfl rfl (by decide +kernel) (fun n=>opE_ok TT_ok OVS_ok NTS DFS MTS_ok (G:=G49 c61.F c60.F) (GOK.cons c61_ok (GOK.cons c60_ok (GOK.nil))) n) (H:=H49) fun n x y h=>(acc_Order_eq n c61.F c60.F x).trans h
noncomputable def st130_0 (a0:tA) (v0_2:Int):LS:=({ env:=[(nat_lit 0,some (AV.sv false [CV.iptr (ki.pair (ki.pair (ki.pair (ki.pair (kI.pair (kI.pair (Ty.seq (nat_lit 3) ki))))))) a0 (nat_lit 0)])),(nat_lit 13,vO (nat_lit 0)),(nat_lit 14,vI ((((List.replicate (2:Nat) ((0:Int),(0:Int),(0:Int),(0:Int))).set (0:Nat) a0.snd.snd.snd.snd.fst).set (1:Nat) a0.snd.snd.snd.snd.snd.fst).length:Int)),(nat_lit 15,vI v0_2)],heap:=[(nat_lit 0,some (HV.row (nat_lit 60) kI (((List.replicate (2:Nat) ((0:Int),(0:Int),(0:Int),(0:Int))).set (0:Nat) a0.snd.snd.snd.snd.fst).set (1:Nat) a0.snd.snd.snd.snd.snd.fst)))],next:=nat_lit 1,pins:=[] })
noncomputable def b130:Go.Code:=Tryz.f130.body.getD .skip
def H130:HL:=[(2,[0,13,14,15],[])]
noncomputable def G130 (F53:CT c53) (F49:CT c49):List (Nat×Con):=[(53,⟨c53.ps,c53.rs,F53⟩),(49,⟨c49.ps,c49.rs,F49⟩)]
noncomputable def acc_ends_l0_step (n:Nat) (F53:CT c53) (F49:CT c49) (a0:tA) (ih0:(Int)→Option Bool) (v0_2:Int):Option Bool :=
 bif decide (v0_2 < ((((List.replicate (2:Nat) ((0:Int),(0:Int),(0:Int),(0:Int))).set (0:Nat) a0.snd.snd.snd.snd.fst).set (1:Nat) a0.snd.snd.snd.snd.snd.fst).length:Int)) then if (0:Int)≤v0_2∧v0_2 < ((((List.replicate (2:Nat) ((0:Int),(0:Int),(0:Int),(0:Int))).set (0:Nat) a0.snd.snd.snd.snd.fst).set (1:Nat) a0.snd.snd.snd.snd.snd.fst).length:Int) then Option.bind (α:=Bool) (F53 n ((((List.replicate (2:Nat) ((0:Int),(0:Int),(0:Int),(0:Int))).set (0:Nat) a0.snd.snd.snd.snd.fst).set (1:Nat) a0.snd.snd.snd.snd.snd.fst).getD v0_2.toNat ((0:Int),(0:Int),(0:Int),(0:Int)),())) fun r0↦bif !r0 then some false else bif decide (((((List.replicate (2:Nat) ((0:Int),(0:Int),(0:Int),(0:Int))).set (0:Nat) a0.snd.snd.snd.snd.fst).set (1:Nat) a0.snd.snd.snd.snd.snd.fst).getD v0_2.toNat ((0:Int),(0:Int),(0:Int),(0:Int))).snd.snd.snd < a0.snd.snd.fst) then some false else bif decide (((((List.replicate (2:Nat) ((0:Int),(0:Int),(0:Int),(0:Int))).set (0:Nat) a0.snd.snd.snd.snd.fst).set (1:Nat) a0.snd.snd.snd.snd.snd.fst).getD v0_2.toNat ((0:Int),(0:Int),(0:Int),(0:Int))).snd.snd.snd > a0.snd.snd.snd.fst) then some false else ih0 (IntKind.i64.wrap (v0_2 + (1:Int))) else none else bif a0.snd.snd.snd.snd.fst.fst == a0.snd.snd.snd.snd.snd.fst.fst then Option.bind (α:=Int) (F49 n (a0.snd.snd.snd.snd.fst,a0.snd.snd.snd.snd.snd.fst,())) fun r1↦some (decide (r1≤(0:Int))) else some false
noncomputable def acc_ends_l0 (n:Nat) (F53:CT c53) (F49:CT c49) (a0:tA):Nat→(Int)→Option Bool
 | 0,_=>none
 | m0 + 1,v0_2=>acc_ends_l0_step n F53 F49 a0 (acc_ends_l0 n F53 F49 a0 m0) v0_2
noncomputable def acc_ends_h (n:Nat) (F53:CT c53) (F49:CT c49) (h0:(tA)→Nat→(Int)→Option Bool) (a0:tA):Option Bool :=
 h0 a0 n (0:Int)
noncomputable def acc_ends_g (n:Nat) (F53:CT c53) (F49:CT c49) (a0:tA):Option Bool:=acc_ends_h n F53 F49 (fun a0 m v0_2=>acc_ends_l0 n F53 F49 a0 m v0_2) a0
theorem acc_ends_l0_ok (n:Nat) (F53:CT c53) (F49:CT c49) (a0:tA):∀ (m0:Nat) (v0_2:Int),(loopAt (opE TT OVS NTS DFS MTS (G130 F53 F49) n) Tryz.f130.ntmps H130 n b130 [.r,.l,.r,.b] (kRet TT [(.iref kA)] [(false,.val .bool)] Tryz.f130.results.toList) m0 (st130_0 a0 v0_2))=acc_ends_l0 n F53 F49 a0 m0 v0_2:=by
 intro m0
 induction m0 with
 | zero=>intros; kernel_rfl
 | succ m0 ih =>
  intro v0_2
  refine Eq.trans (b:=acc_ends_l0_step n F53 F49 a0 (fun v0_2=>(loopAt (opE TT OVS NTS DFS MTS (G130 F53 F49) n) Tryz.f130.ntmps H130 n b130 [.r,.l,.r,.b] (kRet TT [(.iref kA)] [(false,.val .bool)] Tryz.f130.results.toList) m0 (st130_0 a0 v0_2))) v0_2) (by kernel_rfl) ?_
  rw [show (fun v0_2=>(loopAt (opE TT OVS NTS DFS MTS (G130 F53 F49) n) Tryz.f130.ntmps H130 n b130 [.r,.l,.r,.b] (kRet TT [(.iref kA)] [(false,.val .bool)] Tryz.f130.results.toList) m0 (st130_0 a0 v0_2)))=acc_ends_l0 n F53 F49 a0 m0 from funext fun v0_2=>ih v0_2]
  first | rfl | kernel_rfl
theorem acc_ends_eq (n:Nat) (F53:CT c53) (F49:CT c49) (x:DPs [(.iref kA)]):funE TT [(.iref kA)] [(false,.val .bool)] (opE TT OVS NTS DFS MTS (G130 F53 F49) n) H130 Tryz.f130.ntmps Tryz.f130.results.toList b130 n x=acc_ends_g n F53 F49 x.1:=by
 refine Eq.trans (b:=acc_ends_h n F53 F49 (fun a0 m v0_2=>(loopAt (opE TT OVS NTS DFS MTS (G130 F53 F49) n) Tryz.f130.ntmps H130 n b130 [.r,.l,.r,.b] (kRet TT [(.iref kA)] [(false,.val .bool)] Tryz.f130.results.toList) m (st130_0 a0 v0_2))) x.1) (by kernel_rfl) ?_
 try rw [show (fun a0 m v0_2=>(loopAt (opE TT OVS NTS DFS MTS (G130 F53 F49) n) Tryz.f130.ntmps H130 n b130 [.r,.l,.r,.b] (kRet TT [(.iref kA)] [(false,.val .bool)] Tryz.f130.results.toList) m (st130_0 a0 v0_2)))=(fun a0 m v0_2=>acc_ends_l0 n F53 F49 a0 m v0_2) from funext fun a0=>funext fun m=>funext fun v0_2=>acc_ends_l0_ok n F53 F49 a0 m v0_2]
 first | rfl | kernel_rfl
noncomputable def acc_ends (n:Nat) (a0:tA):Option Bool:=acc_ends_g n c53.F c49.F a0
noncomputable def c130:Con:=⟨[(.iref kA)],[(false,.val .bool)],fun n x=>acc_ends n x.1⟩
theorem c130_F (n:Nat) (a0:tA):c130.F n (a0,())=acc_ends n a0:=rfl
theorem c130_ok:ConOK Tryz.prog 130 c130:=funE_ok TT_ok mixed Tryz.func130 (body:=b130) rfl rfl (by decide +kernel) (fun n=>opE_ok TT_ok OVS_ok NTS DFS MTS_ok (G:=G130 c53.F c49.F) (GOK.cons c53_ok (GOK.cons c49_ok (GOK.nil))) n) (H:=H130) fun n x y h=>(acc_ends_eq n c53.F c49.F x).trans h
noncomputable def b97:Go.Code:=Tryz.f97.body.getD .skip
def H97:HL:=[]
noncomputable def G97 (F92:CT c92) (F128:CT c128) (F129:CT c129) (F82:CT c82) (F130:CT c130):List (Nat×Con):=[(92,⟨c92.ps,c92.rs,F92⟩),(128,⟨c128.ps,c128.rs,F128⟩),(129,⟨c129.ps,c129.rs,F129⟩),(82,⟨c82.ps,c82.rs,F82⟩),(130,⟨c130.ps,c130.rs,F130⟩)]
noncomputable def acc_May_g (n:Nat) (F92:CT c92) (F128:CT c128) (F129:CT c129) (F82:CT c82) (F130:CT c130) (a0:tA) (a1:List Int):Option Bool :=
 Option.bind (α:=Bool) (F92 n (a1,())) fun r0↦bif !r0 then some false else bif decide ((a0.snd.snd.snd.snd.snd.snd.length:Int) > IntKind.i64.wrap ((a1.length:Int) + (1:Int))) then some false else Option.bind (α:=Bool) (F128 n (a0,a1,())) fun r1↦bif !r1 then some false else bif decide (a0.fst < (0:Int)) then some false else bif decide (a0.fst > (8192:Int)) then some false else bif a0.fst == (0:Int) then Option.bind (α:=Bool) (F129 n (a0,())) fun r2↦some r2 else Option.bind (α:=Bool) (F82 n (a0.snd.snd.fst,(1099511627776:Int),())) fun r3↦bif r3 then Option.bind (α:=Bool) (F82 n (a0.snd.snd.snd.fst,(1099511627776:Int),())) fun r4↦bif r4 then bif decide (a0.snd.snd.fst≤a0.snd.snd.snd.fst) then Option.bind (α:=Bool) (F130 n (a0,())) fun r5↦bif r5 then bif decide (a0.snd.fst≥IntKind.i64.wrap (a0.fst * a0.snd.snd.fst)) then some (decide (a0.snd.fst≤IntKind.i64.wrap (a0.fst * a0.snd.snd.snd.fst))) else some false else some false else some false else some false else some false
theorem acc_May_eq (n:Nat) (F92:CT c92) (F128:CT c128) (F129:CT c129) (F82:CT c82) (F130:CT c130) (x:DPs [(.val true kA),(.val false (.seq 3 ki))]):funE TT [(.val true kA),(.val false (.seq 3 ki))] [(false,.val .bool)] (opE TT OVS NTS DFS MTS (G97 F92 F128 F129 F82 F130) n) H97 Tryz.f97.ntmps Tryz.f97.results.toList b97 n x=acc_May_g n F92 F128 F129 F82 F130 x.1 x.2.1:=by
 kernel_rfl
noncomputable def acc_May (n:Nat) (a0:tA) (a1:List Int):Option Bool:=acc_May_g n c92.F c128.F c129.F c82.F c130.F a0 a1
noncomputable def c97:Con:=⟨[(.val true kA),(.val false (.seq 3 ki))],[(false,.val .bool)],fun n x=>acc_May n x.1 x.2.1⟩
theorem c97_F (n:Nat) (a0:tA) (a1:List Int):c97.F n (a0,a1,())=acc_May n a0 a1:=rfl
theorem c97_ok:ConOK Tryz.prog 97 c97:=funE_ok TT_ok mixed Tryz.func97 (body:=b97) rfl rfl (by decide +kernel) (fun n=>opE_ok TT_ok OVS_ok NTS DFS MTS_ok (G:=G97 c92.F c128.F c129.F c82.F c130.F) (GOK.cons c92_ok (GOK.cons c128_ok (GOK.cons c129_ok (GOK.cons c82_ok (GOK.cons c130_ok (GOK.nil)))))) n) (H:=H97) fun n x y h=>(acc_May_eq n c92.F c128.F c129.F c82.F c130.F x).trans h
noncomputable def st94_0 (a0:List Int) (u1_1:Int) (a1:List (tA)) (v0_4:Int):LS:=({ env:=[(nat_lit 0,vS (nat_lit 3) ki a0),(nat_lit 5,vI u1_1),(nat_lit 8,vS (nat_lit 88) (ki.pair (ki.pair (ki.pair (ki.pair (kI.pair (kI.pair (Ty.seq (nat_lit 3) ki))))))) a1),(nat_lit 9,vI (a1.length:Int)),(nat_lit 10,vI v0_4)],heap:=nl (Nat×Option HV),next:=nat_lit 0,pins:=[] })
noncomputable def st94_1 (a0:List Int) (v0_1:Int) (a1:List (tA)) (v0_4:Int):LS:=({ env:=[(nat_lit 0,vS (nat_lit 3) ki a0),(nat_lit 5,vI v0_1),(nat_lit 8,vS (nat_lit 88) (ki.pair (ki.pair (ki.pair (ki.pair (kI.pair (kI.pair (Ty.seq (nat_lit 3) ki))))))) a1),(nat_lit 9,vI (a1.length:Int)),(nat_lit 10,vI v0_4)],heap:=nl (Nat×Option HV),next:=nat_lit 0,pins:=[] })
noncomputable def b94:Go.Code:=Tryz.f94.body.getD .skip
def H94:HL:=[(3,[0,5,8,9,10],[]),(1000009,[0,5,8,9,10],[])]
noncomputable def G94 (F97:CT c97) (F92:CT c92):List (Nat×Con):=[(97,⟨c97.ps,c97.rs,F97⟩),(92,⟨c92.ps,c92.rs,F92⟩)]
noncomputable def acc_allMay_j1_step (n:Nat) (F97:CT c97) (F92:CT c92) (a0:List Int) (a1:List (tA)) (v0_4:Int) (ih0:(Int)→(Int)→Option Bool) (u1_1:Int):Option Bool :=
 ih0 u1_1 (IntKind.i64.wrap (v0_4 + (1:Int)))
noncomputable def acc_allMay_j1 (n:Nat) (F97:CT c97) (F92:CT c92) (a0:List Int) (a1:List (tA)) (v0_4:Int) (ih0:(Int)→(Int)→Option Bool) (u1_1:Int):Option Bool:=acc_allMay_j1_step n F97 F92 a0 a1 v0_4 ih0 u1_1
noncomputable def acc_allMay_l0_step (n:Nat) (F97:CT c97) (F92:CT c92) (h1:(List Int)→(List (tA))→(Int)→(Int)→Option Bool) (a0:List Int) (a1:List (tA)) (ih0:(Int)→(Int)→Option Bool) (v0_1:Int) (v0_4:Int):Option Bool :=
 bif decide (v0_4 < (a1.length:Int)) then if (0:Int)≤v0_4∧v0_4 < (a1.length:Int) then Option.bind (α:=Bool) (F97 n (a1.getD v0_4.toNat ((0:Int),(0:Int),(0:Int),(0:Int),((0:Int),(0:Int),(0:Int),(0:Int)),((0:Int),(0:Int),(0:Int),(0:Int)),nl Int),a0,())) fun r0↦bif !r0 then some false else bif decide ((a1.getD v0_4.toNat ((0:Int),(0:Int),(0:Int),(0:Int),((0:Int),(0:Int),(0:Int),(0:Int)),((0:Int),(0:Int),(0:Int),(0:Int)),nl Int)).fst > (0:Int)) then bif decide (v0_1≥(0:Int)) then bif (a1.getD v0_4.toNat ((0:Int),(0:Int),(0:Int),(0:Int),((0:Int),(0:Int),(0:Int),(0:Int)),((0:Int),(0:Int),(0:Int),(0:Int)),nl Int)).snd.snd.snd.snd.fst.fst != v0_1 then some false else bif decide ((a1.getD v0_4.toNat ((0:Int),(0:Int),(0:Int),(0:Int),((0:Int),(0:Int),(0:Int),(0:Int)),((0:Int),(0:Int),(0:Int),(0:Int)),nl Int)).fst > (0:Int)) then h1 a0 a1 v0_4 (a1.getD v0_4.toNat ((0:Int),(0:Int),(0:Int),(0:Int),((0:Int),(0:Int),(0:Int),(0:Int)),((0:Int),(0:Int),(0:Int),(0:Int)),nl Int)).snd.snd.snd.snd.fst.fst else h1 a0 a1 v0_4 v0_1 else bif decide ((a1.getD v0_4.toNat ((0:Int),(0:Int),(0:Int),(0:Int),((0:Int),(0:Int),(0:Int),(0:Int)),((0:Int),(0:Int),(0:Int),(0:Int)),nl Int)).fst > (0:Int)) then h1 a0 a1 v0_4 (a1.getD v0_4.toNat ((0:Int),(0:Int),(0:Int),(0:Int),((0:Int),(0:Int),(0:Int),(0:Int)),((0:Int),(0:Int),(0:Int),(0:Int)),nl Int)).snd.snd.snd.snd.fst.fst else h1 a0 a1 v0_4 v0_1 else bif decide ((a1.getD v0_4.toNat ((0:Int),(0:Int),(0:Int),(0:Int),((0:Int),(0:Int),(0:Int),(0:Int)),((0:Int),(0:Int),(0:Int),(0:Int)),nl Int)).fst > (0:Int)) then h1 a0 a1 v0_4 (a1.getD v0_4.toNat ((0:Int),(0:Int),(0:Int),(0:Int),((0:Int),(0:Int),(0:Int),(0:Int)),((0:Int),(0:Int),(0:Int),(0:Int)),nl Int)).snd.snd.snd.snd.fst.fst else h1 a0 a1 v0_4 v0_1 else none else Option.bind (α:=Bool) (F92 n (a0,())) fun r1↦some r1
noncomputable def acc_allMay_l0 (n:Nat) (F97:CT c97) (F92:CT c92) (a0:List Int) (a1:List (tA)):Nat→(Int)→(Int)→Option Bool
 | 0,_,_=>none
 | m0 + 1,v0_1,v0_4=>acc_allMay_l0_step n F97 F92 (fun (_:List Int) (_:List (tA)) v0_4 u1_1=>acc_allMay_j1 n F97 F92 a0 a1 v0_4 (acc_allMay_l0 n F97 F92 a0 a1 m0) u1_1) a0 a1 (acc_allMay_l0 n F97 F92 a0 a1 m0) v0_1 v0_4
noncomputable def acc_allMay_h (n:Nat) (F97:CT c97) (F92:CT c92) (h0:(List Int)→(List (tA))→Nat→(Int)→(Int)→Option Bool) (a0:List Int) (a1:List (tA)):Option Bool :=
 h0 a0 a1 n (-1:Int) (0:Int)
noncomputable def acc_allMay_g (n:Nat) (F97:CT c97) (F92:CT c92) (a0:List Int) (a1:List (tA)):Option Bool:=acc_allMay_h n F97 F92 (fun a0 a1 m v0_1 v0_4=>acc_allMay_l0 n F97 F92 a0 a1 m v0_1 v0_4) a0 a1
theorem acc_allMay_j1_ok (n:Nat) (F97:CT c97) (F92:CT c92) (a0:List Int) (a1:List (tA)) (v0_4:Int) (m0:Nat) (u1_1:Int):(jnR (codeE (opE TT OVS NTS DFS MTS (G94 F97 F92) n) Tryz.f94.ntmps H94 n (codeAt b94 [.r,.r,.l,.r,.b,.loop m0,.r,.r,.r])) (st94_0 a0 u1_1 a1 v0_4) (kAt (opE TT OVS NTS DFS MTS (G94 F97 F92) n) Tryz.f94.ntmps H94 n b94 [.r,.r,.l,.r,.b,.loop m0,.r,.r,.r] (kRet TT [(.val false (.seq 3 ki)),(.val false (.seq 88 kA))] [(false,.val .bool)] Tryz.f94.results.toList)))=acc_allMay_j1 n F97 F92 a0 a1 v0_4 (fun v0_1 v0_4=>(loopAt (opE TT OVS NTS DFS MTS (G94 F97 F92) n) Tryz.f94.ntmps H94 n b94 [.r,.r,.l,.r,.b] (kRet TT [(.val false (.seq 3 ki)),(.val false (.seq 88 kA))] [(false,.val .bool)] Tryz.f94.results.toList) m0 (st94_1 a0 v0_1 a1 v0_4))) u1_1:=by
  refine Eq.trans (b:=acc_allMay_j1_step n F97 F92 a0 a1 v0_4 (fun v0_1 v0_4=>(loopAt (opE TT OVS NTS DFS MTS (G94 F97 F92) n) Tryz.f94.ntmps H94 n b94 [.r,.r,.l,.r,.b] (kRet TT [(.val false (.seq 3 ki)),(.val false (.seq 88 kA))] [(false,.val .bool)] Tryz.f94.results.toList) m0 (st94_1 a0 v0_1 a1 v0_4))) u1_1) (by kernel_rfl) ?_
  first | rfl | kernel_rfl
theorem acc_allMay_l0_ok (n:Nat) (F97:CT c97) (F92:CT c92) (a0:List Int) (a1:List (tA)):∀ (m0:Nat) (v0_1:Int) (v0_4:Int),(loopAt (opE TT OVS NTS DFS MTS (G94 F97 F92) n) Tryz.f94.ntmps H94 n b94 [.r,.r,.l,.r,.b] (kRet TT [(.val false (.seq 3 ki)),(.val false (.seq 88 kA))] [(false,.val .bool)] Tryz.f94.results.toList) m0 (st94_1 a0 v0_1 a1 v0_4))=acc_allMay_l0 n F97 F92 a0 a1 m0 v0_1 v0_4:=by
 intro m0
 induction m0 with
 | zero=>intros; kernel_rfl
 | succ m0 ih =>
  intro v0_1 v0_4
  refine Eq.trans (b:=acc_allMay_l0_step n F97 F92 (fun (_:List Int) (_:List (tA)) v0_4 u1_1=>(jnR (codeE (opE TT OVS NTS DFS MTS (G94 F97 F92) n) Tryz.f94.ntmps H94 n (codeAt b94 [.r,.r,.l,.r,.b,.loop m0,.r,.r,.r])) (st94_0 a0 u1_1 a1 v0_4) (kAt (opE TT OVS NTS DFS MTS (G94 F97 F92) n) Tryz.f94.ntmps H94 n b94 [.r,.r,.l,.r,.b,.loop m0,.r,.r,.r] (kRet TT [(.val false (.seq 3 ki)),(.val false (.seq 88 kA))] [(false,.val .bool)] Tryz.f94.results.toList)))) a0 a1 (fun v0_1 v0_4=>(loopAt (opE TT OVS NTS DFS MTS (G94 F97 F92) n) Tryz.f94.ntmps H94 n b94 [.r,.r,.l,.r,.b] (kRet TT [(.val false (.seq 3 ki)),(.val false (.seq 88 kA))] [(false,.val .bool)] Tryz.f94.results.toList) m0 (st94_1 a0 v0_1 a1 v0_4))) v0_1 v0_4) (by kernel_rfl) ?_
  try rw [show (fun (_:List Int) (_:List (tA)) v0_4 u1_1=>(jnR (codeE (opE TT OVS NTS DFS MTS (G94 F97 F92) n) Tryz.f94.ntmps H94 n (codeAt b94 [.r,.r,.l,.r,.b,.loop m0,.r,.r,.r])) (st94_0 a0 u1_1 a1 v0_4) (kAt (opE TT OVS NTS DFS MTS (G94 F97 F92) n) Tryz.f94.ntmps H94 n b94 [.r,.r,.l,.r,.b,.loop m0,.r,.r,.r] (kRet TT [(.val false (.seq 3 ki)),(.val false (.seq 88 kA))] [(false,.val .bool)] Tryz.f94.results.toList))))=(fun (_:List Int) (_:List (tA)) v0_4 u1_1=>acc_allMay_j1 n F97 F92 a0 a1 v0_4 (fun v0_1 v0_4=>(loopAt (opE TT OVS NTS DFS MTS (G94 F97 F92) n) Tryz.f94.ntmps H94 n b94 [.r,.r,.l,.r,.b] (kRet TT [(.val false (.seq 3 ki)),(.val false (.seq 88 kA))] [(false,.val .bool)] Tryz.f94.results.toList) m0 (st94_1 a0 v0_1 a1 v0_4))) u1_1) from funext fun _=>funext fun _=>funext fun v0_4=>funext fun u1_1=>acc_allMay_j1_ok n F97 F92 a0 a1 v0_4 m0 u1_1]
  rw [show (fun v0_1 v0_4=>(loopAt (opE TT OVS NTS DFS MTS (G94 F97 F92) n) Tryz.f94.ntmps H94 n b94 [.r,.r,.l,.r,.b] (kRet TT [(.val false (.seq 3 ki)),(.val false (.seq 88 kA))] [(false,.val .bool)] Tryz.f94.results.toList) m0 (st94_1 a0 v0_1 a1 v0_4)))=acc_allMay_l0 n F97 F92 a0 a1 m0 from funext fun v0_1=>funext fun v0_4=>ih v0_1 v0_4]
  first | rfl | kernel_rfl
theorem acc_allMay_eq (n:Nat) (F97:CT c97) (F92:CT c92) (x:DPs [(.val false (.seq 3 ki)),(.val false (.seq 88 kA))]):funE TT [(.val false (.seq 3 ki)),(.val false (.seq 88 kA))] [(false,.val .bool)] (opE TT OVS NTS DFS MTS (G94 F97 F92) n) H94 Tryz.f94.ntmps Tryz.f94.results.toList b94 n x=acc_allMay_g n F97 F92 x.1 x.2.1:=by
 refine Eq.trans (b:=acc_allMay_h n F97 F92 (fun a0 a1 m v0_1 v0_4=>(loopAt (opE TT OVS NTS DFS MTS (G94 F97 F92) n) Tryz.f94.ntmps H94 n b94 [.r,.r,.l,.r,.b] (kRet TT [(.val false (.seq 3 ki)),(.val false (.seq 88 kA))] [(false,.val .bool)] Tryz.f94.results.toList) m (st94_1 a0 v0_1 a1 v0_4))) x.1 x.2.1) (by kernel_rfl) ?_
 try rw [show (fun a0 a1 m v0_1 v0_4=>(loopAt (opE TT OVS NTS DFS MTS (G94 F97 F92) n) Tryz.f94.ntmps H94 n b94 [.r,.r,.l,.r,.b] (kRet TT [(.val false (.seq 3 ki)),(.val false (.seq 88 kA))] [(false,.val .bool)] Tryz.f94.results.toList) m (st94_1 a0 v0_1 a1 v0_4)))=(fun a0 a1 m v0_1 v0_4=>acc_allMay_l0 n F97 F92 a0 a1 m v0_1 v0_4) from funext fun a0=>funext fun a1=>funext fun m=>funext fun v0_1=>funext fun v0_4=>acc_allMay_l0_ok n F97 F92 a0 a1 m v0_1 v0_4]
 first | rfl | kernel_rfl
noncomputable def acc_allMay (n:Nat) (a0:List Int) (a1:List (tA)):Option Bool:=acc_allMay_g n c97.F c92.F a0 a1
noncomputable def c94:Con:=⟨[(.val false (.seq 3 ki)),(.val false (.seq 88 kA))],[(false,.val .bool)],fun n x=>acc_allMay n x.1 x.2.1⟩
theorem c94_F (n:Nat) (a0:List Int) (a1:List (tA)):c94.F n (a0,a1,())=acc_allMay n a0 a1:=rfl
theorem c94_ok:ConOK Tryz.prog 94 c94:=funE_ok TT_ok mixed Tryz.func94 (body:=b94) rfl rfl (by decide +kernel) (fun n=>opE_ok TT_ok OVS_ok NTS DFS MTS_ok (G:=G94 c97.F c92.F) (GOK.cons c97_ok (GOK.cons c92_ok (GOK.nil))) n) (H:=H94) fun n x y h=>(acc_allMay_eq n c97.F c92.F x).trans h
noncomputable def st95_0 (a1:tA) (a0:tA) (u0_3:Int) (u0_4:Int) (u1_5:Int) (u1_6:Int) (u1_7:Int) (u1_8:Int) (u2_9:Int) (u2_10:Int) (u2_11:Int) (u2_12:Int):LS:=({ env:=[(nat_lit 0,vP (nat_lit 0) (nat_lit 0)),(nat_lit 1,some (AV.sv false [CV.iptr (ki.pair (ki.pair (ki.pair (ki.pair (kI.pair (kI.pair (Ty.seq (nat_lit 3) ki))))))) a1 (nat_lit 0)]))],heap:=[(nat_lit 0,hC ([cI (IntKind.i64.wrap (a0.fst + a1.fst)),cI (IntKind.i64.wrap (a0.snd.fst + a1.snd.fst)),cI (if a1.snd.snd.fst < u0_3 then a1.snd.snd.fst else u0_3),cI (if u0_4 < a1.snd.snd.snd.fst then a1.snd.snd.snd.fst else u0_4),cI u1_5,cI u1_6,cI u1_7,cI u1_8,cI u2_9,cI u2_10,cI u2_11,cI u2_12,CV.own (nat_lit 1)])),(nat_lit 1,some (HV.row (nat_lit 3) ki a0.snd.snd.snd.snd.snd.snd))],next:=nat_lit 2,pins:=[nat_lit 0] })
noncomputable def st95_1 (a1:tA) (a0:tA) (u0_3:Int) (u0_4:Int) (u1_5:Int) (u1_6:Int) (u1_7:Int) (u1_8:Int) (u0_9:Int) (u0_10:Int) (u0_11:Int) (u0_12:Int):LS:=({ env:=[(nat_lit 0,vP (nat_lit 0) (nat_lit 0)),(nat_lit 1,some (AV.sv false [CV.iptr (ki.pair (ki.pair (ki.pair (ki.pair (kI.pair (kI.pair (Ty.seq (nat_lit 3) ki))))))) a1 (nat_lit 0)]))],heap:=[(nat_lit 0,hC ([cI (IntKind.i64.wrap (a0.fst + a1.fst)),cI (IntKind.i64.wrap (a0.snd.fst + a1.snd.fst)),cI (if a1.snd.snd.fst < u0_3 then a1.snd.snd.fst else u0_3),cI (if u0_4 < a1.snd.snd.snd.fst then a1.snd.snd.snd.fst else u0_4),cI u1_5,cI u1_6,cI u1_7,cI u1_8,cI u0_9,cI u0_10,cI u0_11,cI u0_12,CV.own (nat_lit 1)])),(nat_lit 1,some (HV.row (nat_lit 3) ki a0.snd.snd.snd.snd.snd.snd))],next:=nat_lit 2,pins:=[nat_lit 0] })
noncomputable def st95_2 (a1:tA) (v3_2:Int) (a0:tA) (u0_3:Int) (u0_4:Int) (u1_5:Int) (u1_6:Int) (u1_7:Int) (u1_8:Int) (u2_9:Int) (u2_10:Int) (u2_11:Int) (u2_12:Int) (v3_15:List Int):LS:=({ env:=[(nat_lit 0,vP (nat_lit 0) (nat_lit 0)),(nat_lit 122,vS (nat_lit 3) ki a1.snd.snd.snd.snd.snd.snd),(nat_lit 123,vI (a1.snd.snd.snd.snd.snd.snd.length:Int)),(nat_lit 124,vI v3_2)],heap:=[(nat_lit 0,hC ([cI (IntKind.i64.wrap (a0.fst + a1.fst)),cI (IntKind.i64.wrap (a0.snd.fst + a1.snd.fst)),cI (if a1.snd.snd.fst < u0_3 then a1.snd.snd.fst else u0_3),cI (if u0_4 < a1.snd.snd.snd.fst then a1.snd.snd.snd.fst else u0_4),cI u1_5,cI u1_6,cI u1_7,cI u1_8,cI u2_9,cI u2_10,cI u2_11,cI u2_12,CV.own (nat_lit 1)])),(nat_lit 1,some (HV.row (nat_lit 3) ki v3_15))],next:=nat_lit 2,pins:=[nat_lit 0] })
noncomputable def st95_3 (a1:tA) (a0:tA) (u0_3:Int) (u0_4:Int) (u0_5:Int) (u0_6:Int) (u0_7:Int) (u0_8:Int) (u0_9:Int) (u0_10:Int) (u0_11:Int) (u0_12:Int):LS:=({ env:=[(nat_lit 0,vP (nat_lit 0) (nat_lit 0)),(nat_lit 1,some (AV.sv false [CV.iptr (ki.pair (ki.pair (ki.pair (ki.pair (kI.pair (kI.pair (Ty.seq (nat_lit 3) ki))))))) a1 (nat_lit 0)]))],heap:=[(nat_lit 0,hC ([cI a0.fst,cI a0.snd.fst,cI u0_3,cI u0_4,cI u0_5,cI u0_6,cI u0_7,cI u0_8,cI u0_9,cI u0_10,cI u0_11,cI u0_12,CV.own (nat_lit 1)])),(nat_lit 1,some (HV.row (nat_lit 3) ki a0.snd.snd.snd.snd.snd.snd))],next:=nat_lit 2,pins:=[nat_lit 0] })
noncomputable def b95:Go.Code:=Tryz.f95.body.getD .skip
def H95:HL:=[(1000002,[0,1],[]),(1000007,[0,1],[]),(1000009,[0,1],[]),(10,[0,122,123,124],[])]
noncomputable def G95 (F49:CT c49):List (Nat×Con):=[(49,⟨c49.ps,c49.rs,F49⟩)]
noncomputable def acc_add_l3_step (n:Nat) (F49:CT c49) (a0:tA) (a1:tA) (u0_3:Int) (u0_4:Int) (u1_5:Int) (u1_6:Int) (u1_7:Int) (u1_8:Int) (u2_9:Int) (u2_10:Int) (u2_11:Int) (u2_12:Int) (ih3:(Int)→(List Int)→Option (tA)) (v3_2:Int) (v3_15:List Int):Option (tA) :=
 bif decide (v3_2 < (a1.snd.snd.snd.snd.snd.snd.length:Int)) then if (0:Int)≤v3_2∧v3_2 < (a1.snd.snd.snd.snd.snd.snd.length:Int) then if (0:Int)≤v3_2∧v3_2 < (v3_15.length:Int) then if (0:Int)≤v3_2∧v3_2 < (v3_15.length:Int) then ih3 (IntKind.i64.wrap (v3_2 + (1:Int))) (v3_15.set v3_2.toNat (IntKind.i64.wrap (v3_15.getD v3_2.toNat (0:Int) + a1.snd.snd.snd.snd.snd.snd.getD v3_2.toNat (0:Int)))) else none else none else none else some (IntKind.i64.wrap (a0.fst + a1.fst),IntKind.i64.wrap (a0.snd.fst + a1.snd.fst),if a1.snd.snd.fst < u0_3 then a1.snd.snd.fst else u0_3,if u0_4 < a1.snd.snd.snd.fst then a1.snd.snd.snd.fst else u0_4,(u1_5,u1_6,u1_7,u1_8),(u2_9,u2_10,u2_11,u2_12),v3_15)
noncomputable def acc_add_l3 (n:Nat) (F49:CT c49) (a0:tA) (a1:tA) (u0_3:Int) (u0_4:Int) (u1_5:Int) (u1_6:Int) (u1_7:Int) (u1_8:Int) (u2_9:Int) (u2_10:Int) (u2_11:Int) (u2_12:Int):Nat→(Int)→(List Int)→Option (tA)
 | 0,_,_=>none
 | m3 + 1,v3_2,v3_15=>acc_add_l3_step n F49 a0 a1 u0_3 u0_4 u1_5 u1_6 u1_7 u1_8 u2_9 u2_10 u2_11 u2_12 (acc_add_l3 n F49 a0 a1 u0_3 u0_4 u1_5 u1_6 u1_7 u1_8 u2_9 u2_10 u2_11 u2_12 m3) v3_2 v3_15
noncomputable def acc_add_j2_step (n:Nat) (F49:CT c49) (h3:(tA)→(tA)→(Int)→(Int)→(Int)→(Int)→(Int)→(Int)→(Int)→(Int)→(Int)→(Int)→Nat→(Int)→(List Int)→Option (tA)) (a0:tA) (a1:tA) (u0_3:Int) (u0_4:Int) (u1_5:Int) (u1_6:Int) (u1_7:Int) (u1_8:Int) (u2_9:Int) (u2_10:Int) (u2_11:Int) (u2_12:Int):Option (tA) :=
 h3 a0 a1 u0_3 u0_4 u1_5 u1_6 u1_7 u1_8 u2_9 u2_10 u2_11 u2_12 n (0:Int) a0.snd.snd.snd.snd.snd.snd
noncomputable def acc_add_j2 (n:Nat) (F49:CT c49) (a0:tA) (a1:tA) (u0_3:Int) (u0_4:Int) (u1_5:Int) (u1_6:Int) (u1_7:Int) (u1_8:Int) (u2_9:Int) (u2_10:Int) (u2_11:Int) (u2_12:Int):Option (tA):=acc_add_j2_step n F49 (fun (_:tA) (_:tA) (_:Int) (_:Int) (_:Int) (_:Int) (_:Int) (_:Int) u2_9 u2_10 u2_11 u2_12 m v3_2 v3_15=>acc_add_l3 n F49 a0 a1 u0_3 u0_4 u1_5 u1_6 u1_7 u1_8 u2_9 u2_10 u2_11 u2_12 m v3_2 v3_15) a0 a1 u0_3 u0_4 u1_5 u1_6 u1_7 u1_8 u2_9 u2_10 u2_11 u2_12
noncomputable def acc_add_j1_step (n:Nat) (F49:CT c49) (h2:(tA)→(tA)→(Int)→(Int)→(Int)→(Int)→(Int)→(Int)→(Int)→(Int)→(Int)→(Int)→Option (tA)) (a0:tA) (a1:tA) (u0_3:Int) (u0_4:Int) (u0_9:Int) (u0_10:Int) (u0_11:Int) (u0_12:Int) (u1_5:Int) (u1_6:Int) (u1_7:Int) (u1_8:Int):Option (tA) :=
 Option.bind (α:=Int) (F49 n (a1.snd.snd.snd.snd.snd.fst,(u0_9,u0_10,u0_11,u0_12),())) fun r1↦bif decide (r1≥(0:Int)) then h2 a0 a1 u0_3 u0_4 u1_5 u1_6 u1_7 u1_8 a1.snd.snd.snd.snd.snd.fst.fst a1.snd.snd.snd.snd.snd.fst.snd.fst a1.snd.snd.snd.snd.snd.fst.snd.snd.fst a1.snd.snd.snd.snd.snd.fst.snd.snd.snd else h2 a0 a1 u0_3 u0_4 u1_5 u1_6 u1_7 u1_8 u0_9 u0_10 u0_11 u0_12
noncomputable def acc_add_j1 (n:Nat) (F49:CT c49) (a0:tA) (a1:tA) (u0_3:Int) (u0_4:Int) (u0_9:Int) (u0_10:Int) (u0_11:Int) (u0_12:Int) (u1_5:Int) (u1_6:Int) (u1_7:Int) (u1_8:Int):Option (tA):=acc_add_j1_step n F49 (fun (_:tA) (_:tA) (_:Int) (_:Int) u1_5 u1_6 u1_7 u1_8 u2_9 u2_10 u2_11 u2_12=>acc_add_j2 n F49 a0 a1 u0_3 u0_4 u1_5 u1_6 u1_7 u1_8 u2_9 u2_10 u2_11 u2_12) a0 a1 u0_3 u0_4 u0_9 u0_10 u0_11 u0_12 u1_5 u1_6 u1_7 u1_8
noncomputable def acc_add_j0_step (n:Nat) (F49:CT c49) (h1:(tA)→(tA)→(Int)→(Int)→(Int)→(Int)→(Int)→(Int)→(Int)→(Int)→(Int)→(Int)→Option (tA)) (a0:tA) (a1:tA) (u0_3:Int) (u0_4:Int) (u0_5:Int) (u0_6:Int) (u0_7:Int) (u0_8:Int) (u0_9:Int) (u0_10:Int) (u0_11:Int) (u0_12:Int):Option (tA) :=
 Option.bind (α:=Int) (F49 n (a1.snd.snd.snd.snd.fst,(u0_5,u0_6,u0_7,u0_8),())) fun r0↦bif decide (r0 < (0:Int)) then h1 a0 a1 u0_3 u0_4 u0_9 u0_10 u0_11 u0_12 a1.snd.snd.snd.snd.fst.fst a1.snd.snd.snd.snd.fst.snd.fst a1.snd.snd.snd.snd.fst.snd.snd.fst a1.snd.snd.snd.snd.fst.snd.snd.snd else h1 a0 a1 u0_3 u0_4 u0_9 u0_10 u0_11 u0_12 u0_5 u0_6 u0_7 u0_8
noncomputable def acc_add_j0 (n:Nat) (F49:CT c49) (a0:tA) (a1:tA) (u0_3:Int) (u0_4:Int) (u0_5:Int) (u0_6:Int) (u0_7:Int) (u0_8:Int) (u0_9:Int) (u0_10:Int) (u0_11:Int) (u0_12:Int):Option (tA):=acc_add_j0_step n F49 (fun (_:tA) (_:tA) u0_3 u0_4 u0_9 u0_10 u0_11 u0_12 u1_5 u1_6 u1_7 u1_8=>acc_add_j1 n F49 a0 a1 u0_3 u0_4 u0_9 u0_10 u0_11 u0_12 u1_5 u1_6 u1_7 u1_8) a0 a1 u0_3 u0_4 u0_5 u0_6 u0_7 u0_8 u0_9 u0_10 u0_11 u0_12
noncomputable def acc_add_h (n:Nat) (F49:CT c49) (h0:(tA)→(tA)→(Int)→(Int)→(Int)→(Int)→(Int)→(Int)→(Int)→(Int)→(Int)→(Int)→Option (tA)) (a0:tA) (a1:tA):Option (tA) :=
 bif a0.fst == (0:Int) then h0 a0 a1 a1.snd.snd.fst a1.snd.snd.snd.fst a1.snd.snd.snd.snd.fst.fst a1.snd.snd.snd.snd.fst.snd.fst a1.snd.snd.snd.snd.fst.snd.snd.fst a1.snd.snd.snd.snd.fst.snd.snd.snd a1.snd.snd.snd.snd.snd.fst.fst a1.snd.snd.snd.snd.snd.fst.snd.fst a1.snd.snd.snd.snd.snd.fst.snd.snd.fst a1.snd.snd.snd.snd.snd.fst.snd.snd.snd else h0 a0 a1 a0.snd.snd.fst a0.snd.snd.snd.fst a0.snd.snd.snd.snd.fst.fst a0.snd.snd.snd.snd.fst.snd.fst a0.snd.snd.snd.snd.fst.snd.snd.fst a0.snd.snd.snd.snd.fst.snd.snd.snd a0.snd.snd.snd.snd.snd.fst.fst a0.snd.snd.snd.snd.snd.fst.snd.fst a0.snd.snd.snd.snd.snd.fst.snd.snd.fst a0.snd.snd.snd.snd.snd.fst.snd.snd.snd
noncomputable def acc_add_g (n:Nat) (F49:CT c49) (a0:tA) (a1:tA):Option (tA):=acc_add_h n F49 (fun a0 a1 u0_3 u0_4 u0_5 u0_6 u0_7 u0_8 u0_9 u0_10 u0_11 u0_12=>acc_add_j0 n F49 a0 a1 u0_3 u0_4 u0_5 u0_6 u0_7 u0_8 u0_9 u0_10 u0_11 u0_12) a0 a1
theorem acc_add_l3_ok (n:Nat) (F49:CT c49) (a0:tA) (a1:tA) (u0_3:Int) (u0_4:Int) (u1_5:Int) (u1_6:Int) (u1_7:Int) (u1_8:Int) (u2_9:Int) (u2_10:Int) (u2_11:Int) (u2_12:Int):∀ (m3:Nat) (v3_2:Int) (v3_15:List Int),(loopAt (opE TT OVS NTS DFS MTS (G95 F49) n) Tryz.f95.ntmps H95 n b95 [.r,.r,.r,.r,.r,.r,.r,.b] (kRet TT [(.inout (.pair (.val ki) (.pair (.val ki) (.pair (.val ki) (.pair (.val ki) (.pair (.val kI) (.pair (.val kI) (.vec 3 ki)))))))),(.iref kA)] [] Tryz.f95.results.toList) m3 (st95_2 a1 v3_2 a0 u0_3 u0_4 u1_5 u1_6 u1_7 u1_8 u2_9 u2_10 u2_11 u2_12 v3_15))=acc_add_l3 n F49 a0 a1 u0_3 u0_4 u1_5 u1_6 u1_7 u1_8 u2_9 u2_10 u2_11 u2_12 m3 v3_2 v3_15:=by
 intro m3
 induction m3 with
 | zero=>intros; kernel_rfl
 | succ m3 ih =>
  intro v3_2 v3_15
  refine Eq.trans (b:=acc_add_l3_step n F49 a0 a1 u0_3 u0_4 u1_5 u1_6 u1_7 u1_8 u2_9 u2_10 u2_11 u2_12 (fun v3_2 v3_15=>(loopAt (opE TT OVS NTS DFS MTS (G95 F49) n) Tryz.f95.ntmps H95 n b95 [.r,.r,.r,.r,.r,.r,.r,.b] (kRet TT [(.inout (.pair (.val ki) (.pair (.val ki) (.pair (.val ki) (.pair (.val ki) (.pair (.val kI) (.pair (.val kI) (.vec 3 ki)))))))),(.iref kA)] [] Tryz.f95.results.toList) m3 (st95_2 a1 v3_2 a0 u0_3 u0_4 u1_5 u1_6 u1_7 u1_8 u2_9 u2_10 u2_11 u2_12 v3_15))) v3_2 v3_15) (by kernel_rfl) ?_
  rw [show (fun v3_2 v3_15=>(loopAt (opE TT OVS NTS DFS MTS (G95 F49) n) Tryz.f95.ntmps H95 n b95 [.r,.r,.r,.r,.r,.r,.r,.b] (kRet TT [(.inout (.pair (.val ki) (.pair (.val ki) (.pair (.val ki) (.pair (.val ki) (.pair (.val kI) (.pair (.val kI) (.vec 3 ki)))))))),(.iref kA)] [] Tryz.f95.results.toList) m3 (st95_2 a1 v3_2 a0 u0_3 u0_4 u1_5 u1_6 u1_7 u1_8 u2_9 u2_10 u2_11 u2_12 v3_15)))=acc_add_l3 n F49 a0 a1 u0_3 u0_4 u1_5 u1_6 u1_7 u1_8 u2_9 u2_10 u2_11 u2_12 m3 from funext fun v3_2=>funext fun v3_15=>ih v3_2 v3_15]
  first | rfl | kernel_rfl
theorem acc_add_j2_ok (n:Nat) (F49:CT c49) (a0:tA) (a1:tA) (u0_3:Int) (u0_4:Int) (u1_5:Int) (u1_6:Int) (u1_7:Int) (u1_8:Int) (u2_9:Int) (u2_10:Int) (u2_11:Int) (u2_12:Int):(jnR (codeE (opE TT OVS NTS DFS MTS (G95 F49) n) Tryz.f95.ntmps H95 n (codeAt b95 [.r,.r,.r,.r,.r,.r])) (st95_0 a1 a0 u0_3 u0_4 u1_5 u1_6 u1_7 u1_8 u2_9 u2_10 u2_11 u2_12) (kAt (opE TT OVS NTS DFS MTS (G95 F49) n) Tryz.f95.ntmps H95 n b95 [.r,.r,.r,.r,.r,.r] (kRet TT [(.inout (.pair (.val ki) (.pair (.val ki) (.pair (.val ki) (.pair (.val ki) (.pair (.val kI) (.pair (.val kI) (.vec 3 ki)))))))),(.iref kA)] [] Tryz.f95.results.toList)))=acc_add_j2 n F49 a0 a1 u0_3 u0_4 u1_5 u1_6 u1_7 u1_8 u2_9 u2_10 u2_11 u2_12:=by
  refine Eq.trans (b:=acc_add_j2_step n F49 (fun (_:tA) (_:tA) (_:Int) (_:Int) (_:Int) (_:Int) (_:Int) (_:Int) u2_9 u2_10 u2_11 u2_12 m v3_2 v3_15=>(loopAt (opE TT OVS NTS DFS MTS (G95 F49) n) Tryz.f95.ntmps H95 n b95 [.r,.r,.r,.r,.r,.r,.r,.b] (kRet TT [(.inout (.pair (.val ki) (.pair (.val ki) (.pair (.val ki) (.pair (.val ki) (.pair (.val kI) (.pair (.val kI) (.vec 3 ki)))))))),(.iref kA)] [] Tryz.f95.results.toList) m (st95_2 a1 v3_2 a0 u0_3 u0_4 u1_5 u1_6 u1_7 u1_8 u2_9 u2_10 u2_11 u2_12 v3_15))) a0 a1 u0_3 u0_4 u1_5 u1_6 u1_7 u1_8 u2_9 u2_10 u2_11 u2_12) (by kernel_rfl) ?_
  try rw [show (fun (_:tA) (_:tA) (_:Int) (_:Int) (_:Int) (_:Int) (_:Int) (_:Int) u2_9 u2_10 u2_11 u2_12 m v3_2 v3_15=>(loopAt (opE TT OVS NTS DFS MTS (G95 F49) n) Tryz.f95.ntmps H95 n b95 [.r,.r,.r,.r,.r,.r,.r,.b] (kRet TT [(.inout (.pair (.val ki) (.pair (.val ki) (.pair (.val ki) (.pair (.val ki) (.pair (.val kI) (.pair (.val kI) (.vec 3 ki)))))))),(.iref kA)] [] Tryz.f95.results.toList) m (st95_2 a1 v3_2 a0 u0_3 u0_4 u1_5 u1_6 u1_7 u1_8 u2_9 u2_10 u2_11 u2_12 v3_15)))=(fun (_:tA) (_:tA) (_:Int) (_:Int) (_:Int) (_:Int) (_:Int) (_:Int) u2_9 u2_10 u2_11 u2_12 m v3_2 v3_15=>acc_add_l3 n F49 a0 a1 u0_3 u0_4 u1_5 u1_6 u1_7 u1_8 u2_9 u2_10 u2_11 u2_12 m v3_2 v3_15) from funext fun _=>funext fun _=>funext fun _=>funext fun _=>funext fun _=>funext fun _=>funext fun _=>funext fun _=>funext fun u2_9=>funext fun u2_10=>funext fun u2_11=>funext fun u2_12=>funext fun m=>funext fun v3_2=>funext fun v3_15=>acc_add_l3_ok n F49 a0 a1 u0_3 u0_4 u1_5 u1_6 u1_7 u1_8 u2_9 u2_10 u2_11 u2_12 m v3_2 v3_15]
  first | rfl | kernel_rfl
theorem acc_add_j1_ok (n:Nat) (F49:CT c49) (a0:tA) (a1:tA) (u0_3:Int) (u0_4:Int) (u0_9:Int) (u0_10:Int) (u0_11:Int) (u0_12:Int) (u1_5:Int) (u1_6:Int) (u1_7:Int) (u1_8:Int):(jnR (codeE (opE TT OVS NTS DFS MTS (G95 F49) n) Tryz.f95.ntmps H95 n (codeAt b95 [.r,.r,.r,.r,.r])) (st95_1 a1 a0 u0_3 u0_4 u1_5 u1_6 u1_7 u1_8 u0_9 u0_10 u0_11 u0_12) (kAt (opE TT OVS NTS DFS MTS (G95 F49) n) Tryz.f95.ntmps H95 n b95 [.r,.r,.r,.r,.r] (kRet TT [(.inout (.pair (.val ki) (.pair (.val ki) (.pair (.val ki) (.pair (.val ki) (.pair (.val kI) (.pair (.val kI) (.vec 3 ki)))))))),(.iref kA)] [] Tryz.f95.results.toList)))=acc_add_j1 n F49 a0 a1 u0_3 u0_4 u0_9 u0_10 u0_11 u0_12 u1_5 u1_6 u1_7 u1_8:=by
  refine Eq.trans (b:=acc_add_j1_step n F49 (fun (_:tA) (_:tA) (_:Int) (_:Int) u1_5 u1_6 u1_7 u1_8 u2_9 u2_10 u2_11 u2_12=>(jnR (codeE (opE TT OVS NTS DFS MTS (G95 F49) n) Tryz.f95.ntmps H95 n (codeAt b95 [.r,.r,.r,.r,.r,.r])) (st95_0 a1 a0 u0_3 u0_4 u1_5 u1_6 u1_7 u1_8 u2_9 u2_10 u2_11 u2_12) (kAt (opE TT OVS NTS DFS MTS (G95 F49) n) Tryz.f95.ntmps H95 n b95 [.r,.r,.r,.r,.r,.r] (kRet TT [(.inout (.pair (.val ki) (.pair (.val ki) (.pair (.val ki) (.pair (.val ki) (.pair (.val kI) (.pair (.val kI) (.vec 3 ki)))))))),(.iref kA)] [] Tryz.f95.results.toList)))) a0 a1 u0_3 u0_4 u0_9 u0_10 u0_11 u0_12 u1_5 u1_6 u1_7 u1_8) (by kernel_rfl) ?_
  try rw [show (fun (_:tA) (_:tA) (_:Int) (_:Int) u1_5 u1_6 u1_7 u1_8 u2_9 u2_10 u2_11 u2_12=>(jnR (codeE (opE TT OVS NTS DFS MTS (G95 F49) n) Tryz.f95.ntmps H95 n (codeAt b95 [.r,.r,.r,.r,.r,.r])) (st95_0 a1 a0 u0_3 u0_4 u1_5 u1_6 u1_7 u1_8 u2_9 u2_10 u2_11 u2_12) (kAt (opE TT OVS NTS DFS MTS (G95 F49) n) Tryz.f95.ntmps H95 n b95 [.r,.r,.r,.r,.r,.r] (kRet TT [(.inout (.pair (.val ki) (.pair (.val ki) (.pair (.val ki) (.pair (.val ki) (.pair (.val kI) (.pair (.val kI) (.vec 3 ki)))))))),(.iref kA)] [] Tryz.f95.results.toList))))=(fun (_:tA) (_:tA) (_:Int) (_:Int) u1_5 u1_6 u1_7 u1_8 u2_9 u2_10 u2_11 u2_12=>acc_add_j2 n F49 a0 a1 u0_3 u0_4 u1_5 u1_6 u1_7 u1_8 u2_9 u2_10 u2_11 u2_12) from funext fun _=>funext fun _=>funext fun _=>funext fun _=>funext fun u1_5=>funext fun u1_6=>funext fun u1_7=>funext fun u1_8=>funext fun u2_9=>funext fun u2_10=>funext fun u2_11=>funext fun u2_12=>acc_add_j2_ok n F49 a0 a1 u0_3 u0_4 u1_5 u1_6 u1_7 u1_8 u2_9 u2_10 u2_11 u2_12]
  first | rfl | kernel_rfl
theorem acc_add_j0_ok (n:Nat) (F49:CT c49) (a0:tA) (a1:tA) (u0_3:Int) (u0_4:Int) (u0_5:Int) (u0_6:Int) (u0_7:Int) (u0_8:Int) (u0_9:Int) (u0_10:Int) (u0_11:Int) (u0_12:Int):(jnR (codeE (opE TT OVS NTS DFS MTS (G95 F49) n) Tryz.f95.ntmps H95 n (codeAt b95 [.r])) (st95_3 a1 a0 u0_3 u0_4 u0_5 u0_6 u0_7 u0_8 u0_9 u0_10 u0_11 u0_12) (kAt (opE TT OVS NTS DFS MTS (G95 F49) n) Tryz.f95.ntmps H95 n b95 [.r] (kRet TT [(.inout (.pair (.val ki) (.pair (.val ki) (.pair (.val ki) (.pair (.val ki) (.pair (.val kI) (.pair (.val kI) (.vec 3 ki)))))))),(.iref kA)] [] Tryz.f95.results.toList)))=acc_add_j0 n F49 a0 a1 u0_3 u0_4 u0_5 u0_6 u0_7 u0_8 u0_9 u0_10 u0_11 u0_12:=by
  refine Eq.trans (b:=acc_add_j0_step n F49 (fun (_:tA) (_:tA) u0_3 u0_4 u0_9 u0_10 u0_11 u0_12 u1_5 u1_6 u1_7 u1_8=>(jnR (codeE (opE TT OVS NTS DFS MTS (G95 F49) n) Tryz.f95.ntmps H95 n (codeAt b95 [.r,.r,.r,.r,.r])) (st95_1 a1 a0 u0_3 u0_4 u1_5 u1_6 u1_7 u1_8 u0_9 u0_10 u0_11 u0_12) (kAt (opE TT OVS NTS DFS MTS (G95 F49) n) Tryz.f95.ntmps H95 n b95 [.r,.r,.r,.r,.r] (kRet TT [(.inout (.pair (.val ki) (.pair (.val ki) (.pair (.val ki) (.pair (.val ki) (.pair (.val kI) (.pair (.val kI) (.vec 3 ki)))))))),(.iref kA)] [] Tryz.f95.results.toList)))) a0 a1 u0_3 u0_4 u0_5 u0_6 u0_7 u0_8 u0_9 u0_10 u0_11 u0_12) (by kernel_rfl) ?_
  try rw [show (fun (_:tA) (_:tA) u0_3 u0_4 u0_9 u0_10 u0_11 u0_12 u1_5 u1_6 u1_7 u1_8=>(jnR (codeE (opE TT OVS NTS DFS MTS (G95 F49) n) Tryz.f95.ntmps H95 n (codeAt b95 [.r,.r,.r,.r,.r])) (st95_1 a1 a0 u0_3 u0_4 u1_5 u1_6 u1_7 u1_8 u0_9 u0_10 u0_11 u0_12) (kAt (opE TT OVS NTS DFS MTS (G95 F49) n) Tryz.f95.ntmps H95 n b95 [.r,.r,.r,.r,.r] (kRet TT [(.inout (.pair (.val ki) (.pair (.val ki) (.pair (.val ki) (.pair (.val ki) (.pair (.val kI) (.pair (.val kI) (.vec 3 ki)))))))),(.iref kA)] [] Tryz.f95.results.toList))))=(fun (_:tA) (_:tA) u0_3 u0_4 u0_9 u0_10 u0_11 u0_12 u1_5 u1_6 u1_7 u1_8=>acc_add_j1 n F49 a0 a1 u0_3 u0_4 u0_9 u0_10 u0_11 u0_12 u1_5 u1_6 u1_7 u1_8) from funext fun _=>funext fun _=>funext fun u0_3=>funext fun u0_4=>funext fun u0_9=>funext fun u0_10=>funext fun u0_11=>funext fun u0_12=>funext fun u1_5=>funext fun u1_6=>funext fun u1_7=>funext fun u1_8=>acc_add_j1_ok n F49 a0 a1 u0_3 u0_4 u0_9 u0_10 u0_11 u0_12 u1_5 u1_6 u1_7 u1_8]
  first | rfl | kernel_rfl
theorem acc_add_eq (n:Nat) (F49:CT c49) (x:DPs [(.inout (.pair (.val ki) (.pair (.val ki) (.pair (.val ki) (.pair (.val ki) (.pair (.val kI) (.pair (.val kI) (.vec 3 ki)))))))),(.iref kA)]):funE TT [(.inout (.pair (.val ki) (.pair (.val ki) (.pair (.val ki) (.pair (.val ki) (.pair (.val kI) (.pair (.val kI) (.vec 3 ki)))))))),(.iref kA)] [] (opE TT OVS NTS DFS MTS (G95 F49) n) H95 Tryz.f95.ntmps Tryz.f95.results.toList b95 n x=acc_add_g n F49 x.1 x.2.1:=by
 refine Eq.trans (b:=acc_add_h n F49 (fun a0 a1 u0_3 u0_4 u0_5 u0_6 u0_7 u0_8 u0_9 u0_10 u0_11 u0_12=>(jnR (codeE (opE TT OVS NTS DFS MTS (G95 F49) n) Tryz.f95.ntmps H95 n (codeAt b95 [.r])) (st95_3 a1 a0 u0_3 u0_4 u0_5 u0_6 u0_7 u0_8 u0_9 u0_10 u0_11 u0_12) (kAt (opE TT OVS NTS DFS MTS (G95 F49) n) Tryz.f95.ntmps H95 n b95 [.r] (kRet TT [(.inout (.pair (.val ki) (.pair (.val ki) (.pair (.val ki) (.pair (.val ki) (.pair (.val kI) (.pair (.val kI) (.vec 3 ki)))))))),(.iref kA)] [] Tryz.f95.results.toList)))) x.1 x.2.1) (by kernel_rfl) ?_
 try rw [show (fun a0 a1 u0_3 u0_4 u0_5 u0_6 u0_7 u0_8 u0_9 u0_10 u0_11 u0_12=>(jnR (codeE (opE TT OVS NTS DFS MTS (G95 F49) n) Tryz.f95.ntmps H95 n (codeAt b95 [.r])) (st95_3 a1 a0 u0_3 u0_4 u0_5 u0_6 u0_7 u0_8 u0_9 u0_10 u0_11 u0_12) (kAt (opE TT OVS NTS DFS MTS (G95 F49) n) Tryz.f95.ntmps H95 n b95 [.r] (kRet TT [(.inout (.pair (.val ki) (.pair (.val ki) (.pair (.val ki) (.pair (.val ki) (.pair (.val kI) (.pair (.val kI) (.vec 3 ki)))))))),(.iref kA)] [] Tryz.f95.results.toList))))=(fun a0 a1 u0_3 u0_4 u0_5 u0_6 u0_7 u0_8 u0_9 u0_10 u0_11 u0_12=>acc_add_j0 n F49 a0 a1 u0_3 u0_4 u0_5 u0_6 u0_7 u0_8 u0_9 u0_10 u0_11 u0_12) from funext fun a0=>funext fun a1=>funext fun u0_3=>funext fun u0_4=>funext fun u0_5=>funext fun u0_6=>funext fun u0_7=>funext fun u0_8=>funext fun u0_9=>funext fun u0_10=>funext fun u0_11=>funext fun u0_12=>acc_add_j0_ok n F49 a0 a1 u0_3 u0_4 u0_5 u0_6 u0_7 u0_8 u0_9 u0_10 u0_11 u0_12]
 first | rfl | kernel_rfl
noncomputable def acc_add (n:Nat) (a0:tA) (a1:tA):Option (tA):=acc_add_g n c49.F a0 a1
noncomputable def c95:Con:=⟨[(.inout (.pair (.val ki) (.pair (.val ki) (.pair (.val ki) (.pair (.val ki) (.pair (.val kI) (.pair (.val kI) (.vec 3 ki)))))))),(.iref kA)],[],fun n x=>acc_add n x.1 x.2.1⟩
theorem c95_F (n:Nat) (a0:tA) (a1:tA):c95.F n (a0,a1,())=acc_add n a0 a1:=rfl
theorem c95_ok:ConOK Tryz.prog 95 c95:=funE_ok TT_ok mixed Tryz.func95 (body:=b95) rfl rfl (by decide +kernel) (fun n=>opE_ok TT_ok OVS_ok NTS DFS MTS_ok (G:=G95 c49.F) (GOK.cons c49_ok (GOK.nil)) n) (H:=H95) fun n x y h=>(acc_add_eq n c49.F x).trans h
noncomputable def st65_0 (a1:List (tA)) (v1_2:Int) (u2_15:Int) (u2_16:Int) (u2_17:Int) (u2_18:Int) (u2_19:Int) (u2_20:Int) (u2_21:Int) (u2_22:Int) (u2_23:Int) (u2_24:Int) (u2_25:Int) (u2_26:Int) (u2_27:List Int):LS:=({ env:=[(nat_lit 1,vS (nat_lit 88) (ki.pair (ki.pair (ki.pair (ki.pair (kI.pair (kI.pair (Ty.seq (nat_lit 3) ki))))))) a1),(nat_lit 4,vP (nat_lit 0) (nat_lit 0)),(nat_lit 9,vP (nat_lit 1) (nat_lit 0)),(nat_lit 36,vI (a1.length:Int)),(nat_lit 37,vI v1_2)],heap:=[(nat_lit 0,hC ([cI (0:Int),cI (0:Int),cI (0:Int),cI (0:Int),cI (0:Int),cI (0:Int),cI (0:Int),cI (0:Int),cI (0:Int),cI (0:Int),cI (0:Int),cI (0:Int),CV.lit (Value.slice none (nat_lit 0) (0:Nat))])),(nat_lit 1,hC ([cI u2_15,cI u2_16,cI u2_17,cI u2_18,cI u2_19,cI u2_20,cI u2_21,cI u2_22,cI u2_23,cI u2_24,cI u2_25,cI u2_26,CV.own (nat_lit 2)])),(nat_lit 2,some (HV.row (nat_lit 3) ki u2_27))],next:=nat_lit 3,pins:=[] })
noncomputable def st65_1 (a1:List (tA)) (v1_2:Int) (v1_15:Int) (v1_16:Int) (v1_17:Int) (v1_18:Int) (v1_19:Int) (v1_20:Int) (v1_21:Int) (v1_22:Int) (v1_23:Int) (v1_24:Int) (v1_25:Int) (v1_26:Int) (v1_27:List Int):LS:=({ env:=[(nat_lit 1,vS (nat_lit 88) (ki.pair (ki.pair (ki.pair (ki.pair (kI.pair (kI.pair (Ty.seq (nat_lit 3) ki))))))) a1),(nat_lit 4,vP (nat_lit 0) (nat_lit 0)),(nat_lit 9,vP (nat_lit 1) (nat_lit 0)),(nat_lit 36,vI (a1.length:Int)),(nat_lit 37,vI v1_2)],heap:=[(nat_lit 0,hC ([cI (0:Int),cI (0:Int),cI (0:Int),cI (0:Int),cI (0:Int),cI (0:Int),cI (0:Int),cI (0:Int),cI (0:Int),cI (0:Int),cI (0:Int),cI (0:Int),CV.lit (Value.slice none (nat_lit 0) (0:Nat))])),(nat_lit 1,hC ([cI v1_15,cI v1_16,cI v1_17,cI v1_18,cI v1_19,cI v1_20,cI v1_21,cI v1_22,cI v1_23,cI v1_24,cI v1_25,cI v1_26,CV.own (nat_lit 2)])),(nat_lit 2,some (HV.row (nat_lit 3) ki v1_27))],next:=nat_lit 3,pins:=[] })
noncomputable def st65_2 (a0:List Int) (a1:List (tA)) (v0_2:Int) (v0_5:Int):LS:=({ env:=[(nat_lit 0,vS (nat_lit 3) ki a0),(nat_lit 1,vS (nat_lit 88) (ki.pair (ki.pair (ki.pair (ki.pair (kI.pair (kI.pair (Ty.seq (nat_lit 3) ki))))))) a1),(nat_lit 4,vP (nat_lit 0) (nat_lit 0)),(nat_lit 6,vI v0_2),(nat_lit 16,vS (nat_lit 88) (ki.pair (ki.pair (ki.pair (ki.pair (kI.pair (kI.pair (Ty.seq (nat_lit 3) ki))))))) a1),(nat_lit 17,vI (a1.length:Int)),(nat_lit 18,vI v0_5)],heap:=[(nat_lit 0,hC ([cI (0:Int),cI (0:Int),cI (0:Int),cI (0:Int),cI (0:Int),cI (0:Int),cI (0:Int),cI (0:Int),cI (0:Int),cI (0:Int),cI (0:Int),cI (0:Int),CV.lit (Value.slice none (nat_lit 0) (0:Nat))]))],next:=nat_lit 1,pins:=[] })
noncomputable def b65:Go.Code:=Tryz.f65.body.getD .skip
def H65:HL:=[(5,[0,1,4,6,16,17,18],[]),(13,[1,4,9,36,37],[]),(1000017,[1,4,9,36,37],[])]
noncomputable def G65 (F94:CT c94) (F95:CT c95):List (Nat×Con):=[(94,⟨c94.ps,c94.rs,F94⟩),(95,⟨c95.ps,c95.rs,F95⟩)]
noncomputable def acc_Join_j2_step (n:Nat) (F94:CT c94) (F95:CT c95) (a1:List (tA)) (v1_2:Int) (ih1:(Int)→(Int)→(Int)→(Int)→(Int)→(Int)→(Int)→(Int)→(Int)→(Int)→(Int)→(Int)→(Int)→(List Int)→Option ((tA)×Int)) (u2_15:Int) (u2_16:Int) (u2_17:Int) (u2_18:Int) (u2_19:Int) (u2_20:Int) (u2_21:Int) (u2_22:Int) (u2_23:Int) (u2_24:Int) (u2_25:Int) (u2_26:Int) (u2_27:List Int):Option ((tA)×Int) :=
 ih1 (IntKind.i64.wrap (v1_2 + (1:Int))) u2_15 u2_16 u2_17 u2_18 u2_19 u2_20 u2_21 u2_22 u2_23 u2_24 u2_25 u2_26 u2_27
noncomputable def acc_Join_j2 (n:Nat) (F94:CT c94) (F95:CT c95) (a1:List (tA)) (v1_2:Int) (ih1:(Int)→(Int)→(Int)→(Int)→(Int)→(Int)→(Int)→(Int)→(Int)→(Int)→(Int)→(Int)→(Int)→(List Int)→Option ((tA)×Int)) (u2_15:Int) (u2_16:Int) (u2_17:Int) (u2_18:Int) (u2_19:Int) (u2_20:Int) (u2_21:Int) (u2_22:Int) (u2_23:Int) (u2_24:Int) (u2_25:Int) (u2_26:Int) (u2_27:List Int):Option ((tA)×Int):=acc_Join_j2_step n F94 F95 a1 v1_2 ih1 u2_15 u2_16 u2_17 u2_18 u2_19 u2_20 u2_21 u2_22 u2_23 u2_24 u2_25 u2_26 u2_27
noncomputable def acc_Join_l1_step (n:Nat) (F94:CT c94) (F95:CT c95) (h2:(List (tA))→(Int)→(Int)→(Int)→(Int)→(Int)→(Int)→(Int)→(Int)→(Int)→(Int)→(Int)→(Int)→(Int)→(List Int)→Option ((tA)×Int)) (a1:List (tA)) (ih1:(Int)→(Int)→(Int)→(Int)→(Int)→(Int)→(Int)→(Int)→(Int)→(Int)→(Int)→(Int)→(Int)→(List Int)→Option ((tA)×Int)) (v1_2:Int) (v1_15:Int) (v1_16:Int) (v1_17:Int) (v1_18:Int) (v1_19:Int) (v1_20:Int) (v1_21:Int) (v1_22:Int) (v1_23:Int) (v1_24:Int) (v1_25:Int) (v1_26:Int) (v1_27:List Int):Option ((tA)×Int) :=
 bif decide (v1_2 < (a1.length:Int)) then if (0:Int)≤v1_2∧v1_2 < (a1.length:Int) then bif decide ((a1.getD v1_2.toNat ((0:Int),(0:Int),(0:Int),(0:Int),((0:Int),(0:Int),(0:Int),(0:Int)),((0:Int),(0:Int),(0:Int),(0:Int)),nl Int)).fst > (0:Int)) then if (0:Int)≤v1_2∧v1_2 < (a1.length:Int) then Option.bind (α:=tA) (F95 n ((v1_15,v1_16,v1_17,v1_18,(v1_19,v1_20,v1_21,v1_22),(v1_23,v1_24,v1_25,v1_26),v1_27),a1.getD v1_2.toNat ((0:Int),(0:Int),(0:Int),(0:Int),((0:Int),(0:Int),(0:Int),(0:Int)),((0:Int),(0:Int),(0:Int),(0:Int)),nl Int),())) fun r1↦h2 a1 v1_2 r1.fst r1.snd.fst r1.snd.snd.fst r1.snd.snd.snd.fst r1.snd.snd.snd.snd.fst.fst r1.snd.snd.snd.snd.fst.snd.fst r1.snd.snd.snd.snd.fst.snd.snd.fst r1.snd.snd.snd.snd.fst.snd.snd.snd r1.snd.snd.snd.snd.snd.fst.fst r1.snd.snd.snd.snd.snd.fst.snd.fst r1.snd.snd.snd.snd.snd.fst.snd.snd.fst r1.snd.snd.snd.snd.snd.fst.snd.snd.snd r1.snd.snd.snd.snd.snd.snd else none else h2 a1 v1_2 v1_15 v1_16 v1_17 v1_18 v1_19 v1_20 v1_21 v1_22 v1_23 v1_24 v1_25 v1_26 v1_27 else none else some ((v1_15,v1_16,v1_17,v1_18,(v1_19,v1_20,v1_21,v1_22),(v1_23,v1_24,v1_25,v1_26),v1_27),(0:Int))
noncomputable def acc_Join_l1 (n:Nat) (F94:CT c94) (F95:CT c95) (a1:List (tA)):Nat→(Int)→(Int)→(Int)→(Int)→(Int)→(Int)→(Int)→(Int)→(Int)→(Int)→(Int)→(Int)→(Int)→(List Int)→Option ((tA)×Int)
 | 0,_,_,_,_,_,_,_,_,_,_,_,_,_,_=>none
 | m1 + 1,v1_2,v1_15,v1_16,v1_17,v1_18,v1_19,v1_20,v1_21,v1_22,v1_23,v1_24,v1_25,v1_26,v1_27=>acc_Join_l1_step n F94 F95 (fun (_:List (tA)) v1_2 u2_15 u2_16 u2_17 u2_18 u2_19 u2_20 u2_21 u2_22 u2_23 u2_24 u2_25 u2_26 u2_27=>acc_Join_j2 n F94 F95 a1 v1_2 (acc_Join_l1 n F94 F95 a1 m1) u2_15 u2_16 u2_17 u2_18 u2_19 u2_20 u2_21 u2_22 u2_23 u2_24 u2_25 u2_26 u2_27) a1 (acc_Join_l1 n F94 F95 a1 m1) v1_2 v1_15 v1_16 v1_17 v1_18 v1_19 v1_20 v1_21 v1_22 v1_23 v1_24 v1_25 v1_26 v1_27
noncomputable def acc_Join_l0_step (n:Nat) (F94:CT c94) (F95:CT c95) (h1:(List (tA))→Nat→(Int)→(Int)→(Int)→(Int)→(Int)→(Int)→(Int)→(Int)→(Int)→(Int)→(Int)→(Int)→(Int)→(List Int)→Option ((tA)×Int)) (a0:List Int) (a1:List (tA)) (ih0:(Int)→(Int)→Option ((tA)×Int)) (v0_2:Int) (v0_5:Int):Option ((tA)×Int) :=
 bif decide (v0_5 < (a1.length:Int)) then if (0:Int)≤v0_5∧v0_5 < (a1.length:Int) then ih0 (IntKind.i64.wrap (v0_2 + (a1.getD v0_5.toNat ((0:Int),(0:Int),(0:Int),(0:Int),((0:Int),(0:Int),(0:Int),(0:Int)),((0:Int),(0:Int),(0:Int),(0:Int)),nl Int)).fst)) (IntKind.i64.wrap (v0_5 + (1:Int))) else none else bif decide (v0_2 > (8192:Int)) then some (((0:Int),(0:Int),(0:Int),(0:Int),((0:Int),(0:Int),(0:Int),(0:Int)),((0:Int),(0:Int),(0:Int),(0:Int)),nl Int),(101:Int)) else if IntKind.i64.wrap ((a0.length:Int) + (1:Int))=IntKind.i64.wrap ((a0.length:Int) + (1:Int)) then if (0:Int)≤IntKind.i64.wrap ((a0.length:Int) + (1:Int))∧(8:Nat) * (IntKind.i64.wrap ((a0.length:Int) + (1:Int))).toNat≤(140737488355328:Nat)∧(0:Nat) < (8:Nat) then h1 a1 n (0:Int) (0:Int) (0:Int) (0:Int) (0:Int) (0:Int) (0:Int) (0:Int) (0:Int) (0:Int) (0:Int) (0:Int) (0:Int) (List.replicate (IntKind.i64.wrap ((a0.length:Int) + (1:Int))).toNat (0:Int)) else none else none
noncomputable def acc_Join_l0 (n:Nat) (F94:CT c94) (F95:CT c95) (a0:List Int) (a1:List (tA)):Nat→(Int)→(Int)→Option ((tA)×Int)
 | 0,_,_=>none
 | m0 + 1,v0_2,v0_5=>acc_Join_l0_step n F94 F95 (fun (_:List (tA)) m v1_2 v1_15 v1_16 v1_17 v1_18 v1_19 v1_20 v1_21 v1_22 v1_23 v1_24 v1_25 v1_26 v1_27=>acc_Join_l1 n F94 F95 a1 m v1_2 v1_15 v1_16 v1_17 v1_18 v1_19 v1_20 v1_21 v1_22 v1_23 v1_24 v1_25 v1_26 v1_27) a0 a1 (acc_Join_l0 n F94 F95 a0 a1 m0) v0_2 v0_5
noncomputable def acc_Join_h (n:Nat) (F94:CT c94) (F95:CT c95) (h0:(List Int)→(List (tA))→Nat→(Int)→(Int)→Option ((tA)×Int)) (a0:List Int) (a1:List (tA)):Option ((tA)×Int) :=
 Option.bind (α:=Bool) (F94 n (a0,a1,())) fun r0↦bif !r0 then some (((0:Int),(0:Int),(0:Int),(0:Int),((0:Int),(0:Int),(0:Int),(0:Int)),((0:Int),(0:Int),(0:Int),(0:Int)),nl Int),(100:Int)) else h0 a0 a1 n (0:Int) (0:Int)
noncomputable def acc_Join_g (n:Nat) (F94:CT c94) (F95:CT c95) (a0:List Int) (a1:List (tA)):Option ((tA)×Int):=acc_Join_h n F94 F95 (fun a0 a1 m v0_2 v0_5=>acc_Join_l0 n F94 F95 a0 a1 m v0_2 v0_5) a0 a1
theorem acc_Join_j2_ok (n:Nat) (F94:CT c94) (F95:CT c95) (a1:List (tA)) (v1_2:Int) (m1:Nat) (u2_15:Int) (u2_16:Int) (u2_17:Int) (u2_18:Int) (u2_19:Int) (u2_20:Int) (u2_21:Int) (u2_22:Int) (u2_23:Int) (u2_24:Int) (u2_25:Int) (u2_26:Int) (u2_27:List Int):(jnR (codeE (opE TT OVS NTS DFS MTS (G65 F94 F95) n) Tryz.f65.ntmps H65 n (codeAt b65 [.r,.r,.r,.r,.r,.r,.l,.r,.b,.loop m1,.r,.r,.r])) (st65_0 a1 v1_2 u2_15 u2_16 u2_17 u2_18 u2_19 u2_20 u2_21 u2_22 u2_23 u2_24 u2_25 u2_26 u2_27) (kAt (opE TT OVS NTS DFS MTS (G65 F94 F95) n) Tryz.f65.ntmps H65 n b65 [.r,.r,.r,.r,.r,.r,.l,.r,.b,.loop m1,.r,.r,.r] (kRet TT [(.val false (.seq 3 ki)),(.val false (.seq 88 kA))] [(true,.val kA),(false,.val ki)] Tryz.f65.results.toList)))=acc_Join_j2 n F94 F95 a1 v1_2 (fun v1_2 v1_15 v1_16 v1_17 v1_18 v1_19 v1_20 v1_21 v1_22 v1_23 v1_24 v1_25 v1_26 v1_27=>(loopAt (opE TT OVS NTS DFS MTS (G65 F94 F95) n) Tryz.f65.ntmps H65 n b65 [.r,.r,.r,.r,.r,.r,.l,.r,.b] (kRet TT [(.val false (.seq 3 ki)),(.val false (.seq 88 kA))] [(true,.val kA),(false,.val ki)] Tryz.f65.results.toList) m1 (st65_1 a1 v1_2 v1_15 v1_16 v1_17 v1_18 v1_19 v1_20 v1_21 v1_22 v1_23 v1_24 v1_25 v1_26 v1_27))) u2_15 u2_16 u2_17 u2_18 u2_19 u2_20 u2_21 u2_22 u2_23 u2_24 u2_25 u2_26 u2_27:=by
  refine Eq.trans (b:=acc_Join_j2_step n F94 F95 a1 v1_2 (fun v1_2 v1_15 v1_16 v1_17 v1_18 v1_19 v1_20 v1_21 v1_22 v1_23 v1_24 v1_25 v1_26 v1_27=>(loopAt (opE TT OVS NTS DFS MTS (G65 F94 F95) n) Tryz.f65.ntmps H65 n b65 [.r,.r,.r,.r,.r,.r,.l,.r,.b] (kRet TT [(.val false (.seq 3 ki)),(.val false (.seq 88 kA))] [(true,.val kA),(false,.val ki)] Tryz.f65.results.toList) m1 (st65_1 a1 v1_2 v1_15 v1_16 v1_17 v1_18 v1_19 v1_20 v1_21 v1_22 v1_23 v1_24 v1_25 v1_26 v1_27))) u2_15 u2_16 u2_17 u2_18 u2_19 u2_20 u2_21 u2_22 u2_23 u2_24 u2_25 u2_26 u2_27) (by kernel_rfl) ?_
  first | rfl | kernel_rfl
theorem acc_Join_l1_ok (n:Nat) (F94:CT c94) (F95:CT c95) (a1:List (tA)):∀ (m1:Nat) (v1_2:Int) (v1_15:Int) (v1_16:Int) (v1_17:Int) (v1_18:Int) (v1_19:Int) (v1_20:Int) (v1_21:Int) (v1_22:Int) (v1_23:Int) (v1_24:Int) (v1_25:Int) (v1_26:Int) (v1_27:List Int),(loopAt (opE TT OVS NTS DFS MTS (G65 F94 F95) n) Tryz.f65.ntmps H65 n b65 [.r,.r,.r,.r,.r,.r,.l,.r,.b] (kRet TT [(.val false (.seq 3 ki)),(.val false (.seq 88 kA))] [(true,.val kA),(false,.val ki)] Tryz.f65.results.toList) m1 (st65_1 a1 v1_2 v1_15 v1_16 v1_17 v1_18 v1_19 v1_20 v1_21 v1_22 v1_23 v1_24 v1_25 v1_26 v1_27))=acc_Join_l1 n F94 F95 a1 m1 v1_2 v1_15 v1_16 v1_17 v1_18 v1_19 v1_20 v1_21 v1_22 v1_23 v1_24 v1_25 v1_26 v1_27:=by
 intro m1
 induction m1 with
 | zero=>intros; kernel_rfl
 | succ m1 ih =>
  intro v1_2 v1_15 v1_16 v1_17 v1_18 v1_19 v1_20 v1_21 v1_22 v1_23 v1_24 v1_25 v1_26 v1_27
  refine Eq.trans (b:=acc_Join_l1_step n F94 F95 (fun (_:List (tA)) v1_2 u2_15 u2_16 u2_17 u2_18 u2_19 u2_20 u2_21 u2_22 u2_23 u2_24 u2_25 u2_26 u2_27=>(jnR (codeE (opE TT OVS NTS DFS MTS (G65 F94 F95) n) Tryz.f65.ntmps H65 n (codeAt b65 [.r,.r,.r,.r,.r,.r,.l,.r,.b,.loop m1,.r,.r,.r])) (st65_0 a1 v1_2 u2_15 u2_16 u2_17 u2_18 u2_19 u2_20 u2_21 u2_22 u2_23 u2_24 u2_25 u2_26 u2_27) (kAt (opE TT OVS NTS DFS MTS (G65 F94 F95) n) Tryz.f65.ntmps H65 n b65 [.r,.r,.r,.r,.r,.r,.l,.r,.b,.loop m1,.r,.r,.r] (kRet TT [(.val false (.seq 3 ki)),(.val false (.seq 88 kA))] [(true,.val kA),(false,.val ki)] Tryz.f65.results.toList)))) a1 (fun v1_2 v1_15 v1_16 v1_17 v1_18 v1_19 v1_20 v1_21 v1_22 v1_23 v1_24 v1_25 v1_26 v1_27=>(loopAt (opE TT OVS NTS DFS MTS (G65 F94 F95) n) Tryz.f65.ntmps H65 n b65 [.r,.r,.r,.r,.r,.r,.l,.r,.b] (kRet TT [(.val false (.seq 3 ki)),(.val false (.seq 88 kA))] [(true,.val kA),(false,.val ki)] Tryz.f65.results.toList) m1 (st65_1 a1 v1_2 v1_15 v1_16 v1_17 v1_18 v1_19 v1_20 v1_21 v1_22 v1_23 v1_24 v1_25 v1_26 v1_27))) v1_2 v1_15 v1_16 v1_17 v1_18 v1_19 v1_20 v1_21 v1_22 v1_23 v1_24 v1_25 v1_26 v1_27) (by kernel_rfl) ?_
  try rw [show (fun (_:List (tA)) v1_2 u2_15 u2_16 u2_17 u2_18 u2_19 u2_20 u2_21 u2_22 u2_23 u2_24 u2_25 u2_26 u2_27=>(jnR (codeE (opE TT OVS NTS DFS MTS (G65 F94 F95) n) Tryz.f65.ntmps H65 n (codeAt b65 [.r,.r,.r,.r,.r,.r,.l,.r,.b,.loop m1,.r,.r,.r])) (st65_0 a1 v1_2 u2_15 u2_16 u2_17 u2_18 u2_19 u2_20 u2_21 u2_22 u2_23 u2_24 u2_25 u2_26 u2_27) (kAt (opE TT OVS NTS DFS MTS (G65 F94 F95) n) Tryz.f65.ntmps H65 n b65 [.r,.r,.r,.r,.r,.r,.l,.r,.b,.loop m1,.r,.r,.r] (kRet TT [(.val false (.seq 3 ki)),(.val false (.seq 88 kA))] [(true,.val kA),(false,.val ki)] Tryz.f65.results.toList))))=(fun (_:List (tA)) v1_2 u2_15 u2_16 u2_17 u2_18 u2_19 u2_20 u2_21 u2_22 u2_23 u2_24 u2_25 u2_26 u2_27=>acc_Join_j2 n F94 F95 a1 v1_2 (fun v1_2 v1_15 v1_16 v1_17 v1_18 v1_19 v1_20 v1_21 v1_22 v1_23 v1_24 v1_25 v1_26 v1_27=>(loopAt (opE TT OVS NTS DFS MTS (G65 F94 F95) n) Tryz.f65.ntmps H65 n b65 [.r,.r,.r,.r,.r,.r,.l,.r,.b] (kRet TT [(.val false (.seq 3 ki)),(.val false (.seq 88 kA))] [(true,.val kA),(false,.val ki)] Tryz.f65.results.toList) m1 (st65_1 a1 v1_2 v1_15 v1_16 v1_17 v1_18 v1_19 v1_20 v1_21 v1_22 v1_23 v1_24 v1_25 v1_26 v1_27))) u2_15 u2_16 u2_17 u2_18 u2_19 u2_20 u2_21 u2_22 u2_23 u2_24 u2_25 u2_26 u2_27) from funext fun _=>funext fun v1_2=>funext fun u2_15=>funext fun u2_16=>funext fun u2_17=>funext fun u2_18=>funext fun u2_19=>funext fun u2_20=>funext fun u2_21=>funext fun u2_22=>funext fun u2_23=>funext fun u2_24=>funext fun u2_25=>funext fun u2_26=>funext fun u2_27=>acc_Join_j2_ok n F94 F95 a1 v1_2 m1 u2_15 u2_16 u2_17 u2_18 u2_19 u2_20 u2_21 u2_22 u2_23 u2_24 u2_25 u2_26 u2_27]
  rw [show (fun v1_2 v1_15 v1_16 v1_17 v1_18 v1_19 v1_20 v1_21 v1_22 v1_23 v1_24 v1_25 v1_26 v1_27=>(loopAt (opE TT OVS NTS DFS MTS (G65 F94 F95) n) Tryz.f65.ntmps H65 n b65 [.r,.r,.r,.r,.r,.r,.l,.r,.b] (kRet TT [(.val false (.seq 3 ki)),(.val false (.seq 88 kA))] [(true,.val kA),(false,.val ki)] Tryz.f65.results.toList) m1 (st65_1 a1 v1_2 v1_15 v1_16 v1_17 v1_18 v1_19 v1_20 v1_21 v1_22 v1_23 v1_24 v1_25 v1_26 v1_27)))=acc_Join_l1 n F94 F95 a1 m1 from funext fun v1_2=>funext fun v1_15=>funext fun v1_16=>funext fun v1_17=>funext fun v1_18=>funext fun v1_19=>funext fun v1_20=>funext fun v1_21=>funext fun v1_22=>funext fun v1_23=>funext fun v1_24=>funext fun v1_25=>funext fun v1_26=>funext fun v1_27=>ih v1_2 v1_15 v1_16 v1_17 v1_18 v1_19 v1_20 v1_21 v1_22 v1_23 v1_24 v1_25 v1_26 v1_27]
  first | rfl | kernel_rfl
theorem acc_Join_l0_ok (n:Nat) (F94:CT c94) (F95:CT c95) (a0:List Int) (a1:List (tA)):∀ (m0:Nat) (v0_2:Int) (v0_5:Int),(loopAt (opE TT OVS NTS DFS MTS (G65 F94 F95) n) Tryz.f65.ntmps H65 n b65 [.r,.r,.r,.l,.r,.b] (kRet TT [(.val false (.seq 3 ki)),(.val false (.seq 88 kA))] [(true,.val kA),(false,.val ki)] Tryz.f65.results.toList) m0 (st65_2 a0 a1 v0_2 v0_5))=acc_Join_l0 n F94 F95 a0 a1 m0 v0_2 v0_5:=by
 intro m0
 induction m0 with
 | zero=>intros; kernel_rfl
 | succ m0 ih =>
  intro v0_2 v0_5
  refine Eq.trans (b:=acc_Join_l0_step n F94 F95 (fun (_:List (tA)) m v1_2 v1_15 v1_16 v1_17 v1_18 v1_19 v1_20 v1_21 v1_22 v1_23 v1_24 v1_25 v1_26 v1_27=>(loopAt (opE TT OVS NTS DFS MTS (G65 F94 F95) n) Tryz.f65.ntmps H65 n b65 [.r,.r,.r,.r,.r,.r,.l,.r,.b] (kRet TT [(.val false (.seq 3 ki)),(.val false (.seq 88 kA))] [(true,.val kA),(false,.val ki)] Tryz.f65.results.toList) m (st65_1 a1 v1_2 v1_15 v1_16 v1_17 v1_18 v1_19 v1_20 v1_21 v1_22 v1_23 v1_24 v1_25 v1_26 v1_27))) a0 a1 (fun v0_2 v0_5=>(loopAt (opE TT OVS NTS DFS MTS (G65 F94 F95) n) Tryz.f65.ntmps H65 n b65 [.r,.r,.r,.l,.r,.b] (kRet TT [(.val false (.seq 3 ki)),(.val false (.seq 88 kA))] [(true,.val kA),(false,.val ki)] Tryz.f65.results.toList) m0 (st65_2 a0 a1 v0_2 v0_5))) v0_2 v0_5) (by kernel_rfl) ?_
  try rw [show (fun (_:List (tA)) m v1_2 v1_15 v1_16 v1_17 v1_18 v1_19 v1_20 v1_21 v1_22 v1_23 v1_24 v1_25 v1_26 v1_27=>(loopAt (opE TT OVS NTS DFS MTS (G65 F94 F95) n) Tryz.f65.ntmps H65 n b65 [.r,.r,.r,.r,.r,.r,.l,.r,.b] (kRet TT [(.val false (.seq 3 ki)),(.val false (.seq 88 kA))] [(true,.val kA),(false,.val ki)] Tryz.f65.results.toList) m (st65_1 a1 v1_2 v1_15 v1_16 v1_17 v1_18 v1_19 v1_20 v1_21 v1_22 v1_23 v1_24 v1_25 v1_26 v1_27)))=(fun (_:List (tA)) m v1_2 v1_15 v1_16 v1_17 v1_18 v1_19 v1_20 v1_21 v1_22 v1_23 v1_24 v1_25 v1_26 v1_27=>acc_Join_l1 n F94 F95 a1 m v1_2 v1_15 v1_16 v1_17 v1_18 v1_19 v1_20 v1_21 v1_22 v1_23 v1_24 v1_25 v1_26 v1_27) from funext fun _=>funext fun m=>funext fun v1_2=>funext fun v1_15=>funext fun v1_16=>funext fun v1_17=>funext fun v1_18=>funext fun v1_19=>funext fun v1_20=>funext fun v1_21=>funext fun v1_22=>funext fun v1_23=>funext fun v1_24=>funext fun v1_25=>funext fun v1_26=>funext fun v1_27=>acc_Join_l1_ok n F94 F95 a1 m v1_2 v1_15 v1_16 v1_17 v1_18 v1_19 v1_20 v1_21 v1_22 v1_23 v1_24 v1_25 v1_26 v1_27]
  rw [show (fun v0_2 v0_5=>(loopAt (opE TT OVS NTS DFS MTS (G65 F94 F95) n) Tryz.f65.ntmps H65 n b65 [.r,.r,.r,.l,.r,.b] (kRet TT [(.val false (.seq 3 ki)),(.val false (.seq 88 kA))] [(true,.val kA),(false,.val ki)] Tryz.f65.results.toList) m0 (st65_2 a0 a1 v0_2 v0_5)))=acc_Join_l0 n F94 F95 a0 a1 m0 from funext fun v0_2=>funext fun v0_5=>ih v0_2 v0_5]
  first | rfl | kernel_rfl
theorem acc_Join_eq (n:Nat) (F94:CT c94) (F95:CT c95) (x:DPs [(.val false (.seq 3 ki)),(.val false (.seq 88 kA))]):funE TT [(.val false (.seq 3 ki)),(.val false (.seq 88 kA))] [(true,.val kA),(false,.val ki)] (opE TT OVS NTS DFS MTS (G65 F94 F95) n) H65 Tryz.f65.ntmps Tryz.f65.results.toList b65 n x=acc_Join_g n F94 F95 x.1 x.2.1:=by
 refine Eq.trans (b:=acc_Join_h n F94 F95 (fun a0 a1 m v0_2 v0_5=>(loopAt (opE TT OVS NTS DFS MTS (G65 F94 F95) n) Tryz.f65.ntmps H65 n b65 [.r,.r,.r,.l,.r,.b] (kRet TT [(.val false (.seq 3 ki)),(.val false (.seq 88 kA))] [(true,.val kA),(false,.val ki)] Tryz.f65.results.toList) m (st65_2 a0 a1 v0_2 v0_5))) x.1 x.2.1) (by kernel_rfl) ?_
 try rw [show (fun a0 a1 m v0_2 v0_5=>(loopAt (opE TT OVS NTS DFS MTS (G65 F94 F95) n) Tryz.f65.ntmps H65 n b65 [.r,.r,.r,.l,.r,.b] (kRet TT [(.val false (.seq 3 ki)),(.val false (.seq 88 kA))] [(true,.val kA),(false,.val ki)] Tryz.f65.results.toList) m (st65_2 a0 a1 v0_2 v0_5)))=(fun a0 a1 m v0_2 v0_5=>acc_Join_l0 n F94 F95 a0 a1 m v0_2 v0_5) from funext fun a0=>funext fun a1=>funext fun m=>funext fun v0_2=>funext fun v0_5=>acc_Join_l0_ok n F94 F95 a0 a1 m v0_2 v0_5]
 first | rfl | kernel_rfl
noncomputable def acc_Join (n:Nat) (a0:List Int) (a1:List (tA)):Option ((tA)×Int):=acc_Join_g n c94.F c95.F a0 a1
noncomputable def c65:Con:=⟨[(.val false (.seq 3 ki)),(.val false (.seq 88 kA))],[(true,.val kA),(false,.val ki)],fun n x=>acc_Join n x.1 x.2.1⟩
theorem c65_F (n:Nat) (a0:List Int) (a1:List (tA)):c65.F n (a0,a1,())=acc_Join n a0 a1:=rfl
theorem c65_ok:ConOK Tryz.prog 65 c65:=funE_ok TT_ok mixed Tryz.func65 (body:=b65) rfl rfl (by decide +kernel) (fun n=>opE_ok TT_ok OVS_ok NTS DFS MTS_ok (G:=G65 c94.F c95.F) (GOK.cons c94_ok (GOK.cons c95_ok (GOK.nil))) n) (H:=H65) fun n x y h=>(acc_Join_eq n c94.F c95.F x).trans h
noncomputable def st93_0 (a0:List Int) (a1:Int) (v0_4:Int):LS:=({ env:=[(nat_lit 0,vS (nat_lit 3) ki a0),(nat_lit 1,vI a1),(nat_lit 7,vS (nat_lit 3) ki a0),(nat_lit 8,vI (a0.length:Int)),(nat_lit 9,vI v0_4)],heap:=nl (Nat×Option HV),next:=nat_lit 0,pins:=[] })
noncomputable def b93:Go.Code:=Tryz.f93.body.getD .skip
def H93:HL:=[(2,[0,1,7,8,9],[])]
noncomputable def G93:List (Nat×Con):=[]
noncomputable def acc_bucket_l0_step (n:Nat) (a0:List Int) (a1:Int) (ih0:(Int)→Option Int) (v0_4:Int):Option Int :=
 bif decide (v0_4 < (a0.length:Int)) then if (0:Int)≤v0_4∧v0_4 < (a0.length:Int) then bif decide (a1≤a0.getD v0_4.toNat (0:Int)) then some v0_4 else ih0 (IntKind.i64.wrap (v0_4 + (1:Int))) else none else some (a0.length:Int)
noncomputable def acc_bucket_l0 (n:Nat) (a0:List Int) (a1:Int):Nat→(Int)→Option Int
 | 0,_=>none
 | m0 + 1,v0_4=>acc_bucket_l0_step n a0 a1 (acc_bucket_l0 n a0 a1 m0) v0_4
noncomputable def acc_bucket_h (n:Nat) (h0:(List Int)→(Int)→Nat→(Int)→Option Int) (a0:List Int) (a1:Int):Option Int :=
 h0 a0 a1 n (0:Int)
noncomputable def acc_bucket (n:Nat) (a0:List Int) (a1:Int):Option Int:=acc_bucket_h n (fun a0 a1 m v0_4=>acc_bucket_l0 n a0 a1 m v0_4) a0 a1
theorem acc_bucket_l0_ok (n:Nat) (a0:List Int) (a1:Int):∀ (m0:Nat) (v0_4:Int),(loopAt (opE TT OVS NTS DFS MTS G93 n) Tryz.f93.ntmps H93 n b93 [.r,.l,.r,.b] (kRet TT [(.val false (.seq 3 ki)),(.val false ki)] [(false,.val ki)] Tryz.f93.results.toList) m0 (st93_0 a0 a1 v0_4))=acc_bucket_l0 n a0 a1 m0 v0_4:=by
 intro m0
 induction m0 with
 | zero=>intros; kernel_rfl
 | succ m0 ih =>
  intro v0_4
  refine Eq.trans (b:=acc_bucket_l0_step n a0 a1 (fun v0_4=>(loopAt (opE TT OVS NTS DFS MTS G93 n) Tryz.f93.ntmps H93 n b93 [.r,.l,.r,.b] (kRet TT [(.val false (.seq 3 ki)),(.val false ki)] [(false,.val ki)] Tryz.f93.results.toList) m0 (st93_0 a0 a1 v0_4))) v0_4) (by kernel_rfl) ?_
  rw [show (fun v0_4=>(loopAt (opE TT OVS NTS DFS MTS G93 n) Tryz.f93.ntmps H93 n b93 [.r,.l,.r,.b] (kRet TT [(.val false (.seq 3 ki)),(.val false ki)] [(false,.val ki)] Tryz.f93.results.toList) m0 (st93_0 a0 a1 v0_4)))=acc_bucket_l0 n a0 a1 m0 from funext fun v0_4=>ih v0_4]
  first | rfl | kernel_rfl
theorem acc_bucket_eq (n:Nat) (x:DPs [(.val false (.seq 3 ki)),(.val false ki)]):funE TT [(.val false (.seq 3 ki)),(.val false ki)] [(false,.val ki)] (opE TT OVS NTS DFS MTS G93 n) H93 Tryz.f93.ntmps Tryz.f93.results.toList b93 n x=acc_bucket n x.1 x.2.1:=by
 refine Eq.trans (b:=acc_bucket_h n (fun a0 a1 m v0_4=>(loopAt (opE TT OVS NTS DFS MTS G93 n) Tryz.f93.ntmps H93 n b93 [.r,.l,.r,.b] (kRet TT [(.val false (.seq 3 ki)),(.val false ki)] [(false,.val ki)] Tryz.f93.results.toList) m (st93_0 a0 a1 v0_4))) x.1 x.2.1) (by kernel_rfl) ?_
 try rw [show (fun a0 a1 m v0_4=>(loopAt (opE TT OVS NTS DFS MTS G93 n) Tryz.f93.ntmps H93 n b93 [.r,.l,.r,.b] (kRet TT [(.val false (.seq 3 ki)),(.val false ki)] [(false,.val ki)] Tryz.f93.results.toList) m (st93_0 a0 a1 v0_4)))=(fun a0 a1 m v0_4=>acc_bucket_l0 n a0 a1 m v0_4) from funext fun a0=>funext fun a1=>funext fun m=>funext fun v0_4=>acc_bucket_l0_ok n a0 a1 m v0_4]
 first | rfl | kernel_rfl
noncomputable def c93:Con:=⟨[(.val false (.seq 3 ki)),(.val false ki)],[(false,.val ki)],fun n x=>acc_bucket n x.1 x.2.1⟩
theorem c93_F (n:Nat) (a0:List Int) (a1:Int):c93.F n (a0,a1,())=acc_bucket n a0 a1:=rfl
theorem c93_ok:ConOK Tryz.prog 93 c93:=funE_ok TT_ok mixed Tryz.func93 (body:=b93) rfl rfl (by decide +kernel) (fun n=>opE_ok TT_ok OVS_ok NTS DFS MTS_ok (G:=G93) (GOK.nil) n) (H:=H93) fun n x y h=>(acc_bucket_eq n x).trans h
noncomputable def b64:Go.Code:=Tryz.f64.body.getD .skip
def H64:HL:=[]
noncomputable def G64 (F53:CT c53) (F92:CT c92) (F93:CT c93):List (Nat×Con):=[(53,⟨c53.ps,c53.rs,F53⟩),(92,⟨c92.ps,c92.rs,F92⟩),(93,⟨c93.ps,c93.rs,F93⟩)]
noncomputable def acc_One_g (n:Nat) (F53:CT c53) (F92:CT c92) (F93:CT c93) (a0:tI) (a1:List Int):Option ((tA)×Int) :=
 Option.bind (α:=Bool) (F53 n (a0,())) fun r0↦bif !r0 then some (((0:Int),(0:Int),(0:Int),(0:Int),((0:Int),(0:Int),(0:Int),(0:Int)),((0:Int),(0:Int),(0:Int),(0:Int)),nl Int),(100:Int)) else Option.bind (α:=Bool) (F92 n (a1,())) fun r1↦bif !r1 then some (((0:Int),(0:Int),(0:Int),(0:Int),((0:Int),(0:Int),(0:Int),(0:Int)),((0:Int),(0:Int),(0:Int),(0:Int)),nl Int),(100:Int)) else if IntKind.i64.wrap ((a1.length:Int) + (1:Int))=IntKind.i64.wrap ((a1.length:Int) + (1:Int)) then if (0:Int)≤IntKind.i64.wrap ((a1.length:Int) + (1:Int))∧(8:Nat) * (IntKind.i64.wrap ((a1.length:Int) + (1:Int))).toNat≤(140737488355328:Nat)∧(0:Nat) < (8:Nat) then Option.bind (α:=Int) (F93 n (a1,a0.snd.snd.snd,())) fun r2↦if (0:Int)≤r2∧r2 < ((List.replicate (IntKind.i64.wrap ((a1.length:Int) + (1:Int))).toNat (0:Int)).length:Int) then some (((1:Int),a0.snd.snd.snd,a0.snd.snd.snd,a0.snd.snd.snd,a0,a0,(List.replicate (IntKind.i64.wrap ((a1.length:Int) + (1:Int))).toNat (0:Int)).set r2.toNat (1:Int)),(0:Int)) else none else none else none
theorem acc_One_eq (n:Nat) (F53:CT c53) (F92:CT c92) (F93:CT c93) (x:DPs [(.val true kI),(.val false (.seq 3 ki))]):funE TT [(.val true kI),(.val false (.seq 3 ki))] [(true,.val kA),(false,.val ki)] (opE TT OVS NTS DFS MTS (G64 F53 F92 F93) n) H64 Tryz.f64.ntmps Tryz.f64.results.toList b64 n x=acc_One_g n F53 F92 F93 x.1 x.2.1:=by
 kernel_rfl
noncomputable def acc_One (n:Nat) (a0:tI) (a1:List Int):Option ((tA)×Int):=acc_One_g n c53.F c92.F c93.F a0 a1
noncomputable def c64:Con:=⟨[(.val true kI),(.val false (.seq 3 ki))],[(true,.val kA),(false,.val ki)],fun n x=>acc_One n x.1 x.2.1⟩
theorem c64_F (n:Nat) (a0:tI) (a1:List Int):c64.F n (a0,a1,())=acc_One n a0 a1:=rfl
theorem c64_ok:ConOK Tryz.prog 64 c64:=funE_ok TT_ok mixed Tryz.func64 (body:=b64) rfl rfl (by decide +kernel) (fun n=>opE_ok TT_ok OVS_ok NTS DFS MTS_ok (G:=G64 c53.F c92.F c93.F) (GOK.cons c53_ok (GOK.cons c92_ok (GOK.cons c93_ok (GOK.nil)))) n) (H:=H64) fun n x y h=>(acc_One_eq n c53.F c92.F c93.F x).trans h
noncomputable def b144:Go.Code:=Tryz.f144.body.getD .skip
def H144:HL:=[(3,[0,1],[])]
noncomputable def G144:List (Nat×Con):=[]
noncomputable def floor_Gcd_l0_step (n:Nat) (ih0:(Int)→(Int)→Option (Int×Int)) (v0_0:Int) (v0_1:Int):Option (Int×Int) :=
 bif decide (v0_1 > (0:Int)) then bif decide (v0_1 ≠ (0:Int)) then ih0 v0_1 (v0_0.tmod v0_1) else none else some (v0_0,(0:Int))
noncomputable def floor_Gcd_l0 (n:Nat):Nat→(Int)→(Int)→Option (Int×Int)
 | 0,_,_=>none
 | m0 + 1,v0_0,v0_1=>floor_Gcd_l0_step n (floor_Gcd_l0 n m0) v0_0 v0_1
noncomputable def floor_Gcd_h (n:Nat) (h0:Nat→(Int)→(Int)→Option (Int×Int)) (a0:Int) (a1:Int):Option (Int×Int) :=
 bif decide (a0 < (1:Int)) then some ((0:Int),(300:Int)) else bif decide (a1 < (1:Int)) then some ((0:Int),(300:Int)) else h0 n a0 a1
noncomputable def floor_Gcd (n:Nat) (a0:Int) (a1:Int):Option (Int×Int):=floor_Gcd_h n (fun m v0_0 v0_1=>floor_Gcd_l0 n m v0_0 v0_1) a0 a1
theorem floor_Gcd_l0_ok (n:Nat):∀ (m0:Nat) (v0_0:Int) (v0_1:Int),(loopAt (opE TT OVS NTS DFS MTS G144 n) Tryz.f144.ntmps H144 n b144 [.r,.r,.l,.b] (kRet TT [(.val false ki),(.val false ki)] [(false,.val ki),(false,.val ki)] Tryz.f144.results.toList) m0 ({ env:=[(nat_lit 0,vI v0_0),(nat_lit 1,vI v0_1)],heap:=nl (Nat×Option HV),next:=nat_lit 0,pins:=[] }))=floor_Gcd_l0 n m0 v0_0 v0_1:=by
 intro m0
 induction m0 with
 | zero=>intros; kernel_rfl
 | succ m0 ih =>
  intro v0_0 v0_1
  refine Eq.trans (b:=floor_Gcd_l0_step n (fun v0_0 v0_1=>(loopAt (opE TT OVS NTS DFS MTS G144 n) Tryz.f144.ntmps H144 n b144 [.r,.r,.l,.b] (kRet TT [(.val false ki),(.val false ki)] [(false,.val ki),(false,.val ki)] Tryz.f144.results.toList) m0 ({ env:=[(nat_lit 0,vI v0_0),(nat_lit 1,vI v0_1)],heap:=nl (Nat×Option HV),next:=nat_lit 0,pins:=[] }))) v0_0 v0_1) (by kernel_rfl) ?_
  rw [show (fun v0_0 v0_1=>(loopAt (opE TT OVS NTS DFS MTS G144 n) Tryz.f144.ntmps H144 n b144 [.r,.r,.l,.b] (kRet TT [(.val false ki),(.val false ki)] [(false,.val ki),(false,.val ki)] Tryz.f144.results.toList) m0 ({ env:=[(nat_lit 0,vI v0_0),(nat_lit 1,vI v0_1)],heap:=nl (Nat×Option HV),next:=nat_lit 0,pins:=[] })))=floor_Gcd_l0 n m0 from funext fun v0_0=>funext fun v0_1=>ih v0_0 v0_1]
  first | rfl | kernel_rfl
theorem floor_Gcd_eq (n:Nat) (x:DPs [(.val false ki),(.val false ki)]):funE TT [(.val false ki),(.val false ki)] [(false,.val ki),(false,.val ki)] (opE TT OVS NTS DFS MTS G144 n) H144 Tryz.f144.ntmps Tryz.f144.results.toList b144 n x=floor_Gcd n x.1 x.2.1:=by
 refine Eq.trans (b:=floor_Gcd_h n (fun m v0_0 v0_1=>(loopAt (opE TT OVS NTS DFS MTS G144 n) Tryz.f144.ntmps H144 n b144 [.r,.r,.l,.b] (kRet TT [(.val false ki),(.val false ki)] [(false,.val ki),(false,.val ki)] Tryz.f144.results.toList) m ({ env:=[(nat_lit 0,vI v0_0),(nat_lit 1,vI v0_1)],heap:=nl (Nat×Option HV),next:=nat_lit 0,pins:=[] }))) x.1 x.2.1) (by kernel_rfl) ?_
 try rw [show (fun m v0_0 v0_1=>(loopAt (opE TT OVS NTS DFS MTS G144 n) Tryz.f144.ntmps H144 n b144 [.r,.r,.l,.b] (kRet TT [(.val false ki),(.val false ki)] [(false,.val ki),(false,.val ki)] Tryz.f144.results.toList) m ({ env:=[(nat_lit 0,vI v0_0),(nat_lit 1,vI v0_1)],heap:=nl (Nat×Option HV),next:=nat_lit 0,pins:=[] })))=(fun m v0_0 v0_1=>floor_Gcd_l0 n m v0_0 v0_1) from funext fun m=>funext fun v0_0=>funext fun v0_1=>floor_Gcd_l0_ok n m v0_0 v0_1]
 first | rfl | kernel_rfl
noncomputable def c144:Con:=⟨[(.val false ki),(.val false ki)],[(false,.val ki),(false,.val ki)],fun n x=>floor_Gcd n x.1 x.2.1⟩
theorem c144_F (n:Nat) (a0:Int) (a1:Int):c144.F n (a0,a1,())=floor_Gcd n a0 a1:=rfl
theorem c144_ok:ConOK Tryz.prog 144 c144:=funE_ok TT_ok mixed Tryz.func144 (body:=b144) rfl rfl (by decide +kernel) (fun n=>opE_ok TT_ok OVS_ok NTS DFS MTS_ok (G:=G144) (GOK.nil) n) (H:=H144) fun n x y h=>(floor_Gcd_eq n x).trans h
noncomputable def b145:Go.Code:=Tryz.f145.body.getD .skip
def H145:HL:=[(1000006,[6],[])]
noncomputable def G145:List (Nat×Con):=[]
noncomputable def floor_Div_j0_step (n:Nat) (u0_0:Int):Option (Int×Int) :=
 some (u0_0,(0:Int))
noncomputable def floor_Div_j0 (n:Nat) (u0_0:Int):Option (Int×Int):=floor_Div_j0_step n u0_0
noncomputable def floor_Div_h (n:Nat) (h0:(Int)→Option (Int×Int)) (a0:Int) (a1:Int):Option (Int×Int) :=
 bif decide (a1 < (1:Int)) then some ((0:Int),(300:Int)) else bif decide (a1 ≠ (0:Int)) then bif decide (a1 ≠ (0:Int)) then bif decide (a0.tmod a1 < (0:Int)) then h0 (IntKind.i64.wrap (IntKind.i64.wrap (a0.tdiv a1) - (1:Int))) else h0 (IntKind.i64.wrap (a0.tdiv a1)) else none else none
noncomputable def floor_Div (n:Nat) (a0:Int) (a1:Int):Option (Int×Int):=floor_Div_h n (fun u0_0=>floor_Div_j0 n u0_0) a0 a1
theorem floor_Div_j0_ok (n:Nat) (u0_0:Int):(jnR (codeE (opE TT OVS NTS DFS MTS G145 n) Tryz.f145.ntmps H145 n (codeAt b145 [.r,.r,.r,.r])) ({ env:=[(nat_lit 6,vI u0_0)],heap:=nl (Nat×Option HV),next:=nat_lit 0,pins:=[] }) (kAt (opE TT OVS NTS DFS MTS G145 n) Tryz.f145.ntmps H145 n b145 [.r,.r,.r,.r] (kRet TT [(.val false ki),(.val false ki)] [(false,.val ki),(false,.val ki)] Tryz.f145.results.toList)))=floor_Div_j0 n u0_0:=by
  refine Eq.trans (b:=floor_Div_j0_step n u0_0) (by kernel_rfl) ?_
  first | rfl | kernel_rfl
theorem floor_Div_eq (n:Nat) (x:DPs [(.val false ki),(.val false ki)]):funE TT [(.val false ki),(.val false ki)] [(false,.val ki),(false,.val ki)] (opE TT OVS NTS DFS MTS G145 n) H145 Tryz.f145.ntmps Tryz.f145.results.toList b145 n x=floor_Div n x.1 x.2.1:=by
 refine Eq.trans (b:=floor_Div_h n (fun u0_0=>(jnR (codeE (opE TT OVS NTS DFS MTS G145 n) Tryz.f145.ntmps H145 n (codeAt b145 [.r,.r,.r,.r])) ({ env:=[(nat_lit 6,vI u0_0)],heap:=nl (Nat×Option HV),next:=nat_lit 0,pins:=[] }) (kAt (opE TT OVS NTS DFS MTS G145 n) Tryz.f145.ntmps H145 n b145 [.r,.r,.r,.r] (kRet TT [(.val false ki),(.val false ki)] [(false,.val ki),(false,.val ki)] Tryz.f145.results.toList)))) x.1 x.2.1) (by kernel_rfl) ?_
 try rw [show (fun u0_0=>(jnR (codeE (opE TT OVS NTS DFS MTS G145 n) Tryz.f145.ntmps H145 n (codeAt b145 [.r,.r,.r,.r])) ({ env:=[(nat_lit 6,vI u0_0)],heap:=nl (Nat×Option HV),next:=nat_lit 0,pins:=[] }) (kAt (opE TT OVS NTS DFS MTS G145 n) Tryz.f145.ntmps H145 n b145 [.r,.r,.r,.r] (kRet TT [(.val false ki),(.val false ki)] [(false,.val ki),(false,.val ki)] Tryz.f145.results.toList))))=(fun u0_0=>floor_Div_j0 n u0_0) from funext fun u0_0=>floor_Div_j0_ok n u0_0]
 first | rfl | kernel_rfl
noncomputable def c145:Con:=⟨[(.val false ki),(.val false ki)],[(false,.val ki),(false,.val ki)],fun n x=>floor_Div n x.1 x.2.1⟩
theorem c145_F (n:Nat) (a0:Int) (a1:Int):c145.F n (a0,a1,())=floor_Div n a0 a1:=rfl
theorem c145_ok:ConOK Tryz.prog 145 c145:=funE_ok TT_ok mixed Tryz.func145 (body:=b145) rfl rfl (by decide +kernel) (fun n=>opE_ok TT_ok OVS_ok NTS DFS MTS_ok (G:=G145) (GOK.nil) n) (H:=H145) fun n x y h=>(floor_Div_eq n x).trans h
noncomputable def b89:Go.Code:=Tryz.f89.body.getD .skip
def H89:HL:=[]
noncomputable def G89:List (Nat×Con):=[]
noncomputable def window_TimeMay (n:Nat) (a0:Int):Option Bool :=
 bif decide (a0≥(-1099511627776:Int)) then some (decide (a0≤(1099511627776:Int))) else some false
theorem window_TimeMay_eq (n:Nat) (x:DPs [(.val false ki)]):funE TT [(.val false ki)] [(false,.val .bool)] (opE TT OVS NTS DFS MTS G89 n) H89 Tryz.f89.ntmps Tryz.f89.results.toList b89 n x=window_TimeMay n x.1:=by
 kernel_rfl
noncomputable def c89:Con:=⟨[(.val false ki)],[(false,.val .bool)],fun n x=>window_TimeMay n x.1⟩
theorem c89_F (n:Nat) (a0:Int):c89.F n (a0,())=window_TimeMay n a0:=rfl
theorem c89_ok:ConOK Tryz.prog 89 c89:=funE_ok TT_ok mixed Tryz.func89 (body:=b89) rfl rfl (by decide +kernel) (fun n=>opE_ok TT_ok OVS_ok NTS DFS MTS_ok (G:=G89) (GOK.nil) n) (H:=H89) fun n x y h=>(window_TimeMay_eq n x).trans h
noncomputable def b91:Go.Code:=Tryz.f91.body.getD .skip
def H91:HL:=[]
noncomputable def G91:List (Nat×Con):=[]
noncomputable def window_Step (n:Nat) (a0:tQ):Option Int :=
 bif a0.fst == (1:Int) then some a0.snd.snd.snd.fst else some a0.snd.snd.fst
theorem window_Step_eq (n:Nat) (x:DPs [(.iref kQ)]):funE TT [(.iref kQ)] [(false,.val ki)] (opE TT OVS NTS DFS MTS G91 n) H91 Tryz.f91.ntmps Tryz.f91.results.toList b91 n x=window_Step n x.1:=by
 kernel_rfl
noncomputable def c91:Con:=⟨[(.iref kQ)],[(false,.val ki)],fun n x=>window_Step n x.1⟩
theorem c91_F (n:Nat) (a0:tQ):c91.F n (a0,())=window_Step n a0:=rfl
theorem c91_ok:ConOK Tryz.prog 91 c91:=funE_ok TT_ok mixed Tryz.func91 (body:=b91) rfl rfl (by decide +kernel) (fun n=>opE_ok TT_ok OVS_ok NTS DFS MTS_ok (G:=G91) (GOK.nil) n) (H:=H91) fun n x y h=>(window_Step_eq n x).trans h
noncomputable def b119:Go.Code:=Tryz.f119.body.getD .skip
def H119:HL:=[]
noncomputable def G119 (F91:CT c91) (F145:CT c145):List (Nat×Con):=[(91,⟨c91.ps,c91.rs,F91⟩),(145,⟨c145.ps,c145.rs,F145⟩)]
noncomputable def window_LastOf_g (n:Nat) (F91:CT c91) (F145:CT c145) (a0:tQ) (a1:Int):Option Int :=
 Option.bind (α:=Int) (F91 n (a0,())) fun r0↦Option.bind (α:=Int×Int) (F145 n (a1,r0,())) fun r1↦Option.bind (α:=Int) (F91 n (a0,())) fun r2↦some (IntKind.i64.wrap (r1.fst * r2))
theorem window_LastOf_eq (n:Nat) (F91:CT c91) (F145:CT c145) (x:DPs [(.iref kQ),(.val false ki)]):funE TT [(.iref kQ),(.val false ki)] [(false,.val ki)] (opE TT OVS NTS DFS MTS (G119 F91 F145) n) H119 Tryz.f119.ntmps Tryz.f119.results.toList b119 n x=window_LastOf_g n F91 F145 x.1 x.2.1:=by
 kernel_rfl
noncomputable def window_LastOf (n:Nat) (a0:tQ) (a1:Int):Option Int:=window_LastOf_g n c91.F c145.F a0 a1
noncomputable def c119:Con:=⟨[(.iref kQ),(.val false ki)],[(false,.val ki)],fun n x=>window_LastOf n x.1 x.2.1⟩
theorem c119_F (n:Nat) (a0:tQ) (a1:Int):c119.F n (a0,a1,())=window_LastOf n a0 a1:=rfl
theorem c119_ok:ConOK Tryz.prog 119 c119:=funE_ok TT_ok mixed Tryz.func119 (body:=b119) rfl rfl (by decide +kernel) (fun n=>opE_ok TT_ok OVS_ok NTS DFS MTS_ok (G:=G119 c91.F c145.F) (GOK.cons c91_ok (GOK.cons c145_ok (GOK.nil))) n) (H:=H119) fun n x y h=>(window_LastOf_eq n c91.F c145.F x).trans h
noncomputable def b90:Go.Code:=Tryz.f90.body.getD .skip
def H90:HL:=[]
noncomputable def G90 (F119:CT c119) (F91:CT c91):List (Nat×Con):=[(119,⟨c119.ps,c119.rs,F119⟩),(91,⟨c91.ps,c91.rs,F91⟩)]
noncomputable def window_FirstOf_g (n:Nat) (F119:CT c119) (F91:CT c91) (a0:tQ) (a1:Int):Option Int :=
 Option.bind (α:=Int) (F119 n (a0,IntKind.i64.wrap (a1 - a0.snd.snd.fst),())) fun r0↦Option.bind (α:=Int) (F91 n (a0,())) fun r1↦some (IntKind.i64.wrap (r0 + r1))
theorem window_FirstOf_eq (n:Nat) (F119:CT c119) (F91:CT c91) (x:DPs [(.iref kQ),(.val false ki)]):funE TT [(.iref kQ),(.val false ki)] [(false,.val ki)] (opE TT OVS NTS DFS MTS (G90 F119 F91) n) H90 Tryz.f90.ntmps Tryz.f90.results.toList b90 n x=window_FirstOf_g n F119 F91 x.1 x.2.1:=by
 kernel_rfl
noncomputable def window_FirstOf (n:Nat) (a0:tQ) (a1:Int):Option Int:=window_FirstOf_g n c119.F c91.F a0 a1
noncomputable def c90:Con:=⟨[(.iref kQ),(.val false ki)],[(false,.val ki)],fun n x=>window_FirstOf n x.1 x.2.1⟩
theorem c90_F (n:Nat) (a0:tQ) (a1:Int):c90.F n (a0,a1,())=window_FirstOf n a0 a1:=rfl
theorem c90_ok:ConOK Tryz.prog 90 c90:=funE_ok TT_ok mixed Tryz.func90 (body:=b90) rfl rfl (by decide +kernel) (fun n=>opE_ok TT_ok OVS_ok NTS DFS MTS_ok (G:=G90 c119.F c91.F) (GOK.cons c119_ok (GOK.cons c91_ok (GOK.nil))) n) (H:=H90) fun n x y h=>(window_FirstOf_eq n c119.F c91.F x).trans h
noncomputable def b118:Go.Code:=Tryz.f118.body.getD .skip
def H118:HL:=[]
noncomputable def G118 (F144:CT c144):List (Nat×Con):=[(144,⟨c144.ps,c144.rs,F144⟩)]
noncomputable def window_sliding_g (n:Nat) (F144:CT c144) (a0:tQ):Option Bool :=
 bif decide (a0.snd.snd.snd.fst < (1:Int)) then some false else bif decide (a0.snd.snd.snd.fst > a0.snd.snd.fst) then some false else bif decide (a0.snd.snd.snd.fst ≠ (0:Int)) then bif decide (IntKind.i64.wrap ((IntKind.i64.wrap (a0.snd.snd.fst - (1:Int))).tdiv a0.snd.snd.snd.fst)≥(64:Int)) then some false else Option.bind (α:=Int×Int) (F144 n (a0.snd.snd.fst,a0.snd.snd.snd.fst,())) fun r0↦bif decide (r0.fst ≠ (0:Int)) then some (decide (IntKind.i64.wrap (a0.snd.snd.fst.tdiv r0.fst)≤(256:Int))) else none else none
theorem window_sliding_eq (n:Nat) (F144:CT c144) (x:DPs [(.iref kQ)]):funE TT [(.iref kQ)] [(false,.val .bool)] (opE TT OVS NTS DFS MTS (G118 F144) n) H118 Tryz.f118.ntmps Tryz.f118.results.toList b118 n x=window_sliding_g n F144 x.1:=by
 kernel_rfl
noncomputable def window_sliding (n:Nat) (a0:tQ):Option Bool:=window_sliding_g n c144.F a0
noncomputable def c118:Con:=⟨[(.iref kQ)],[(false,.val .bool)],fun n x=>window_sliding n x.1⟩
theorem c118_F (n:Nat) (a0:tQ):c118.F n (a0,())=window_sliding n a0:=rfl
theorem c118_ok:ConOK Tryz.prog 118 c118:=funE_ok TT_ok mixed Tryz.func118 (body:=b118) rfl rfl (by decide +kernel) (fun n=>opE_ok TT_ok OVS_ok NTS DFS MTS_ok (G:=G118 c144.F) (GOK.cons c144_ok (GOK.nil)) n) (H:=H118) fun n x y h=>(window_sliding_eq n c144.F x).trans h
noncomputable def b117:Go.Code:=Tryz.f117.body.getD .skip
def H117:HL:=[]
noncomputable def G117 (F92:CT c92):List (Nat×Con):=[(92,⟨c92.ps,c92.rs,F92⟩)]
noncomputable def window_asks_g (n:Nat) (F92:CT c92) (a0:tQ):Option Bool :=
 bif decide (a0.snd.fst < (0:Int)) then some false else bif decide (a0.snd.fst > (7:Int)) then some false else bif a0.snd.fst != (7:Int) then bif a0.snd.snd.snd.snd.snd != (0:Int) then some false else bif decide (a0.snd.snd.snd.snd.snd < (0:Int)) then some false else bif decide (a0.snd.snd.snd.snd.snd > (1000:Int)) then some false else bif a0.snd.fst == (6:Int) then bif true == decide ((a0.snd.snd.snd.snd.fst.length:Int) > (0:Int)) then Option.bind (α:=Bool) (F92 n (a0.snd.snd.snd.snd.fst,())) fun r0↦some r0 else some false else bif (a0.snd.fst == (7:Int)) == decide ((a0.snd.snd.snd.snd.fst.length:Int) > (0:Int)) then Option.bind (α:=Bool) (F92 n (a0.snd.snd.snd.snd.fst,())) fun r1↦some r1 else some false else bif decide (a0.snd.snd.snd.snd.snd < (0:Int)) then some false else bif decide (a0.snd.snd.snd.snd.snd > (1000:Int)) then some false else bif a0.snd.fst == (6:Int) then bif true == decide ((a0.snd.snd.snd.snd.fst.length:Int) > (0:Int)) then Option.bind (α:=Bool) (F92 n (a0.snd.snd.snd.snd.fst,())) fun r2↦some r2 else some false else bif (a0.snd.fst == (7:Int)) == decide ((a0.snd.snd.snd.snd.fst.length:Int) > (0:Int)) then Option.bind (α:=Bool) (F92 n (a0.snd.snd.snd.snd.fst,())) fun r3↦some r3 else some false
theorem window_asks_eq (n:Nat) (F92:CT c92) (x:DPs [(.iref kQ)]):funE TT [(.iref kQ)] [(false,.val .bool)] (opE TT OVS NTS DFS MTS (G117 F92) n) H117 Tryz.f117.ntmps Tryz.f117.results.toList b117 n x=window_asks_g n F92 x.1:=by
 kernel_rfl
noncomputable def window_asks (n:Nat) (a0:tQ):Option Bool:=window_asks_g n c92.F a0
noncomputable def c117:Con:=⟨[(.iref kQ)],[(false,.val .bool)],fun n x=>window_asks n x.1⟩
theorem c117_F (n:Nat) (a0:tQ):c117.F n (a0,())=window_asks n a0:=rfl
theorem c117_ok:ConOK Tryz.prog 117 c117:=funE_ok TT_ok mixed Tryz.func117 (body:=b117) rfl rfl (by decide +kernel) (fun n=>opE_ok TT_ok OVS_ok NTS DFS MTS_ok (G:=G117 c92.F) (GOK.cons c92_ok (GOK.nil)) n) (H:=H117) fun n x y h=>(window_asks_eq n c92.F x).trans h
noncomputable def st85_0 (u0_0:Bool) (a0:tQ):LS:=({ env:=[(nat_lit 1,vP (nat_lit 0) (nat_lit 0)),(nat_lit 20,vB u0_0)],heap:=[(nat_lit 0,hC ([cI a0.fst,cI a0.snd.fst,cI a0.snd.snd.fst,cI a0.snd.snd.snd.fst,CV.imm (nat_lit 3) ki a0.snd.snd.snd.snd.fst,cI a0.snd.snd.snd.snd.snd]))],next:=nat_lit 1,pins:=[] })
noncomputable def b85:Go.Code:=Tryz.f85.body.getD .skip
def H85:HL:=[(1000008,[1,20],[])]
noncomputable def G85 (F117:CT c117) (F118:CT c118):List (Nat×Con):=[(117,⟨c117.ps,c117.rs,F117⟩),(118,⟨c118.ps,c118.rs,F118⟩)]
noncomputable def window_May_j0_step (n:Nat) (F117:CT c117) (F118:CT c118) (a0:tQ) (u0_0:Bool):Option Bool :=
 bif u0_0 then some (a0.snd.snd.snd.fst == (0:Int)) else some false
noncomputable def window_May_j0 (n:Nat) (F117:CT c117) (F118:CT c118) (a0:tQ) (u0_0:Bool):Option Bool:=window_May_j0_step n F117 F118 a0 u0_0
noncomputable def window_May_h (n:Nat) (F117:CT c117) (F118:CT c118) (h0:(tQ)→(Bool)→Option Bool) (a0:tQ):Option Bool :=
 bif decide (a0.snd.snd.fst < (1:Int)) then some false else bif decide (a0.snd.snd.fst > (1073741824:Int)) then some false else Option.bind (α:=Bool) (F117 n (a0,())) fun r0↦bif !r0 then some false else bif a0.fst == (1:Int) then Option.bind (α:=Bool) (F118 n (a0,())) fun r1↦some r1 else bif a0.fst == (0:Int) then h0 a0 (a0.fst == (0:Int)) else h0 a0 (a0.fst == (2:Int))
noncomputable def window_May_g (n:Nat) (F117:CT c117) (F118:CT c118) (a0:tQ):Option Bool:=window_May_h n F117 F118 (fun a0 u0_0=>window_May_j0 n F117 F118 a0 u0_0) a0
theorem window_May_j0_ok (n:Nat) (F117:CT c117) (F118:CT c118) (a0:tQ) (u0_0:Bool):(jnR (codeE (opE TT OVS NTS DFS MTS (G85 F117 F118) n) Tryz.f85.ntmps H85 n (codeAt b85 [.r,.r,.l,.r,.b,.r,.r,.r])) (st85_0 u0_0 a0) (kAt (opE TT OVS NTS DFS MTS (G85 F117 F118) n) Tryz.f85.ntmps H85 n b85 [.r,.r,.l,.r,.b,.r,.r,.r] (kRet TT [(.val true kQ)] [(false,.val .bool)] Tryz.f85.results.toList)))=window_May_j0 n F117 F118 a0 u0_0:=by
  refine Eq.trans (b:=window_May_j0_step n F117 F118 a0 u0_0) (by kernel_rfl) ?_
  first | rfl | kernel_rfl
theorem window_May_eq (n:Nat) (F117:CT c117) (F118:CT c118) (x:DPs [(.val true kQ)]):funE TT [(.val true kQ)] [(false,.val .bool)] (opE TT OVS NTS DFS MTS (G85 F117 F118) n) H85 Tryz.f85.ntmps Tryz.f85.results.toList b85 n x=window_May_g n F117 F118 x.1:=by
 refine Eq.trans (b:=window_May_h n F117 F118 (fun a0 u0_0=>(jnR (codeE (opE TT OVS NTS DFS MTS (G85 F117 F118) n) Tryz.f85.ntmps H85 n (codeAt b85 [.r,.r,.l,.r,.b,.r,.r,.r])) (st85_0 u0_0 a0) (kAt (opE TT OVS NTS DFS MTS (G85 F117 F118) n) Tryz.f85.ntmps H85 n b85 [.r,.r,.l,.r,.b,.r,.r,.r] (kRet TT [(.val true kQ)] [(false,.val .bool)] Tryz.f85.results.toList)))) x.1) (by kernel_rfl) ?_
 try rw [show (fun a0 u0_0=>(jnR (codeE (opE TT OVS NTS DFS MTS (G85 F117 F118) n) Tryz.f85.ntmps H85 n (codeAt b85 [.r,.r,.l,.r,.b,.r,.r,.r])) (st85_0 u0_0 a0) (kAt (opE TT OVS NTS DFS MTS (G85 F117 F118) n) Tryz.f85.ntmps H85 n b85 [.r,.r,.l,.r,.b,.r,.r,.r] (kRet TT [(.val true kQ)] [(false,.val .bool)] Tryz.f85.results.toList))))=(fun a0 u0_0=>window_May_j0 n F117 F118 a0 u0_0) from funext fun a0=>funext fun u0_0=>window_May_j0_ok n F117 F118 a0 u0_0]
 first | rfl | kernel_rfl
noncomputable def window_May (n:Nat) (a0:tQ):Option Bool:=window_May_g n c117.F c118.F a0
noncomputable def c85:Con:=⟨[(.val true kQ)],[(false,.val .bool)],fun n x=>window_May n x.1⟩
theorem c85_F (n:Nat) (a0:tQ):c85.F n (a0,())=window_May n a0:=rfl
theorem c85_ok:ConOK Tryz.prog 85 c85:=funE_ok TT_ok mixed Tryz.func85 (body:=b85) rfl rfl (by decide +kernel) (fun n=>opE_ok TT_ok OVS_ok NTS DFS MTS_ok (G:=G85 c117.F c118.F) (GOK.cons c117_ok (GOK.cons c118_ok (GOK.nil))) n) (H:=H85) fun n x y h=>(window_May_eq n c117.F c118.F x).trans h
noncomputable def b55:Go.Code:=Tryz.f55.body.getD .skip
def H55:HL:=[]
noncomputable def G55:List (Nat×Con):=[]
noncomputable def admit_LeastMay (n:Nat) (a0:Int):Option Bool :=
 bif decide (a0≥(-4398046511104:Int)) then some (decide (a0≤(4398046511104:Int))) else some false
theorem admit_LeastMay_eq (n:Nat) (x:DPs [(.val false ki)]):funE TT [(.val false ki)] [(false,.val .bool)] (opE TT OVS NTS DFS MTS G55 n) H55 Tryz.f55.ntmps Tryz.f55.results.toList b55 n x=admit_LeastMay n x.1:=by
 kernel_rfl
noncomputable def c55:Con:=⟨[(.val false ki)],[(false,.val .bool)],fun n x=>admit_LeastMay n x.1⟩
theorem c55_F (n:Nat) (a0:Int):c55.F n (a0,())=admit_LeastMay n a0:=rfl
theorem c55_ok:ConOK Tryz.prog 55 c55:=funE_ok TT_ok mixed Tryz.func55 (body:=b55) rfl rfl (by decide +kernel) (fun n=>opE_ok TT_ok OVS_ok NTS DFS MTS_ok (G:=G55) (GOK.nil) n) (H:=H55) fun n x y h=>(admit_LeastMay_eq n x).trans h
noncomputable def b54:Go.Code:=Tryz.f54.body.getD .skip
def H54:HL:=[]
noncomputable def G54 (F55:CT c55):List (Nat×Con):=[(55,⟨c55.ps,c55.rs,F55⟩)]
noncomputable def spec_may_1_g (n:Nat) (F55:CT c55) (a0:Int):Option Bool :=
 Option.bind (α:=Bool) (F55 n (a0,())) fun r0↦some !r0
theorem spec_may_1_eq (n:Nat) (F55:CT c55) (x:DPs [(.val false ki)]):funE TT [(.val false ki)] [(false,.val .bool)] (opE TT OVS NTS DFS MTS (G54 F55) n) H54 Tryz.f54.ntmps Tryz.f54.results.toList b54 n x=spec_may_1_g n F55 x.1:=by
 kernel_rfl
noncomputable def spec_may_1 (n:Nat) (a0:Int):Option Bool:=spec_may_1_g n c55.F a0
noncomputable def c54:Con:=⟨[(.val false ki)],[(false,.val .bool)],fun n x=>spec_may_1 n x.1⟩
theorem c54_F (n:Nat) (a0:Int):c54.F n (a0,())=spec_may_1 n a0:=rfl
theorem c54_ok:ConOK Tryz.prog 54 c54:=funE_ok TT_ok mixed Tryz.func54 (body:=b54) rfl rfl (by decide +kernel) (fun n=>opE_ok TT_ok OVS_ok NTS DFS MTS_ok (G:=G54 c55.F) (GOK.cons c55_ok (GOK.nil)) n) (H:=H54) fun n x y h=>(spec_may_1_eq n c55.F x).trans h
noncomputable def st63_0 (a1:Int) (v0_1:Int) (a0:tQ) (v0_8:List (Int×Int)):LS:=({ env:=[(nat_lit 1,vI a1),(nat_lit 2,vP (nat_lit 0) (nat_lit 0)),(nat_lit 6,vO (nat_lit 1)),(nat_lit 7,vI v0_1)],heap:=[(nat_lit 0,hC ([cI a0.fst,cI a0.snd.fst,cI a0.snd.snd.fst,cI a0.snd.snd.snd.fst,CV.imm (nat_lit 3) ki a0.snd.snd.snd.snd.fst,cI a0.snd.snd.snd.snd.snd])),(nat_lit 1,some (HV.row (nat_lit 48) (ki.pair ki) v0_8))],next:=nat_lit 2,pins:=[] })
noncomputable def b63:Go.Code:=Tryz.f63.body.getD .skip
def H63:HL:=[(5,[1,2,6,7],[⟨6,false,0,48,ki.pair ki,false,false⟩])]
noncomputable def G63 (F85:CT c85) (F89:CT c89) (F90:CT c90) (F91:CT c91):List (Nat×Con):=[(85,⟨c85.ps,c85.rs,F85⟩),(89,⟨c89.ps,c89.rs,F89⟩),(90,⟨c90.ps,c90.rs,F90⟩),(91,⟨c91.ps,c91.rs,F91⟩)]
noncomputable def window_Of_l0_step (n:Nat) (F85:CT c85) (F89:CT c89) (F90:CT c90) (F91:CT c91) (a0:tQ) (a1:Int) (ih0:(Int)→(List (Int×Int))→Option (List (Int×Int)×Int)) (v0_1:Int) (v0_8:List (Int×Int)):Option (List (Int×Int)×Int) :=
 bif decide (v0_1≤a1) then if (v0_8.length + ((List.replicate (1:Nat) ((0:Int),(0:Int))).set (0:Nat) (v0_1,IntKind.i64.wrap (v0_1 + a0.snd.snd.fst))).length) * (16:Nat)≤(140737488355328:Nat)∧(0:Nat) < (16:Nat) then Option.bind (α:=Int) (F91 n (a0,())) fun r3↦ih0 (IntKind.i64.wrap (v0_1 + r3)) (v0_8++(List.replicate (1:Nat) ((0:Int),(0:Int))).set (0:Nat) (v0_1,IntKind.i64.wrap (v0_1 + a0.snd.snd.fst))) else none else some (v0_8,(0:Int))
noncomputable def window_Of_l0 (n:Nat) (F85:CT c85) (F89:CT c89) (F90:CT c90) (F91:CT c91) (a0:tQ) (a1:Int):Nat→(Int)→(List (Int×Int))→Option (List (Int×Int)×Int)
 | 0,_,_=>none
 | m0 + 1,v0_1,v0_8=>window_Of_l0_step n F85 F89 F90 F91 a0 a1 (window_Of_l0 n F85 F89 F90 F91 a0 a1 m0) v0_1 v0_8
noncomputable def window_Of_h (n:Nat) (F85:CT c85) (F89:CT c89) (F90:CT c90) (F91:CT c91) (h0:(tQ)→(Int)→Nat→(Int)→(List (Int×Int))→Option (List (Int×Int)×Int)) (a0:tQ) (a1:Int):Option (List (Int×Int)×Int) :=
 Option.bind (α:=Bool) (F85 n (a0,())) fun r0↦bif !r0 then some (nl (Int×Int),(400:Int)) else bif a0.fst == (2:Int) then some (nl (Int×Int),(400:Int)) else Option.bind (α:=Bool) (F89 n (a1,())) fun r1↦bif !r1 then some (nl (Int×Int),(400:Int)) else Option.bind (α:=Int) (F90 n (a0,a1,())) fun r2↦h0 a0 a1 n r2 (nl (Int×Int))
noncomputable def window_Of_g (n:Nat) (F85:CT c85) (F89:CT c89) (F90:CT c90) (F91:CT c91) (a0:tQ) (a1:Int):Option (List (Int×Int)×Int):=window_Of_h n F85 F89 F90 F91 (fun a0 a1 m v0_1 v0_8=>window_Of_l0 n F85 F89 F90 F91 a0 a1 m v0_1 v0_8) a0 a1
theorem window_Of_l0_ok (n:Nat) (F85:CT c85) (F89:CT c89) (F90:CT c90) (F91:CT c91) (a0:tQ) (a1:Int):∀ (m0:Nat) (v0_1:Int) (v0_8:List (Int×Int)),(loopAt (opE TT OVS NTS DFS MTS (G63 F85 F89 F90 F91) n) Tryz.f63.ntmps H63 n b63 [.r,.r,.r,.l,.r,.b] (kRet TT [(.val true kQ),(.val false ki)] [(false,.vec 48 (.pair ki ki)),(false,.val ki)] Tryz.f63.results.toList) m0 (st63_0 a1 v0_1 a0 v0_8))=window_Of_l0 n F85 F89 F90 F91 a0 a1 m0 v0_1 v0_8:=by
 intro m0
 induction m0 with
 | zero=>intros; kernel_rfl
 | succ m0 ih =>
  intro v0_1 v0_8
  refine Eq.trans (b:=window_Of_l0_step n F85 F89 F90 F91 a0 a1 (fun v0_1 v0_8=>(loopAt (opE TT OVS NTS DFS MTS (G63 F85 F89 F90 F91) n) Tryz.f63.ntmps H63 n b63 [.r,.r,.r,.l,.r,.b] (kRet TT [(.val true kQ),(.val false ki)] [(false,.vec 48 (.pair ki ki)),(false,.val ki)] Tryz.f63.results.toList) m0 (st63_0 a1 v0_1 a0 v0_8))) v0_1 v0_8) (by kernel_rfl) ?_
  rw [show (fun v0_1 v0_8=>(loopAt (opE TT OVS NTS DFS MTS (G63 F85 F89 F90 F91) n) Tryz.f63.ntmps H63 n b63 [.r,.r,.r,.l,.r,.b] (kRet TT [(.val true kQ),(.val false ki)] [(false,.vec 48 (.pair ki ki)),(false,.val ki)] Tryz.f63.results.toList) m0 (st63_0 a1 v0_1 a0 v0_8)))=window_Of_l0 n F85 F89 F90 F91 a0 a1 m0 from funext fun v0_1=>funext fun v0_8=>ih v0_1 v0_8]
  first | rfl | kernel_rfl
theorem window_Of_eq (n:Nat) (F85:CT c85) (F89:CT c89) (F90:CT c90) (F91:CT c91) (x:DPs [(.val true kQ),(.val false ki)]):funE TT [(.val true kQ),(.val false ki)] [(false,.vec 48 (.pair ki ki)),(false,.val ki)] (opE TT OVS NTS DFS MTS (G63 F85 F89 F90 F91) n) H63 Tryz.f63.ntmps Tryz.f63.results.toList b63 n x=window_Of_g n F85 F89 F90 F91 x.1 x.2.1:=by
 refine Eq.trans (b:=window_Of_h n F85 F89 F90 F91 (fun a0 a1 m v0_1 v0_8=>(loopAt (opE TT OVS NTS DFS MTS (G63 F85 F89 F90 F91) n) Tryz.f63.ntmps H63 n b63 [.r,.r,.r,.l,.r,.b] (kRet TT [(.val true kQ),(.val false ki)] [(false,.vec 48 (.pair ki ki)),(false,.val ki)] Tryz.f63.results.toList) m (st63_0 a1 v0_1 a0 v0_8))) x.1 x.2.1) (by kernel_rfl) ?_
 try rw [show (fun a0 a1 m v0_1 v0_8=>(loopAt (opE TT OVS NTS DFS MTS (G63 F85 F89 F90 F91) n) Tryz.f63.ntmps H63 n b63 [.r,.r,.r,.l,.r,.b] (kRet TT [(.val true kQ),(.val false ki)] [(false,.vec 48 (.pair ki ki)),(false,.val ki)] Tryz.f63.results.toList) m (st63_0 a1 v0_1 a0 v0_8)))=(fun a0 a1 m v0_1 v0_8=>window_Of_l0 n F85 F89 F90 F91 a0 a1 m v0_1 v0_8) from funext fun a0=>funext fun a1=>funext fun m=>funext fun v0_1=>funext fun v0_8=>window_Of_l0_ok n F85 F89 F90 F91 a0 a1 m v0_1 v0_8]
 first | rfl | kernel_rfl
noncomputable def window_Of (n:Nat) (a0:tQ) (a1:Int):Option (List (Int×Int)×Int):=window_Of_g n c85.F c89.F c90.F c91.F a0 a1
noncomputable def c63:Con:=⟨[(.val true kQ),(.val false ki)],[(false,.vec 48 (.pair ki ki)),(false,.val ki)],fun n x=>window_Of n x.1 x.2.1⟩
theorem c63_F (n:Nat) (a0:tQ) (a1:Int):c63.F n (a0,a1,())=window_Of n a0 a1:=rfl
theorem c63_ok:ConOK Tryz.prog 63 c63:=funE_ok TT_ok mixed Tryz.func63 (body:=b63) rfl rfl (by decide +kernel) (fun n=>opE_ok TT_ok OVS_ok NTS DFS MTS_ok (G:=G63 c85.F c89.F c90.F c91.F) (GOK.cons c85_ok (GOK.cons c89_ok (GOK.cons c90_ok (GOK.cons c91_ok (GOK.nil))))) n) (H:=H63) fun n x y h=>(window_Of_eq n c85.F c89.F c90.F c91.F x).trans h
noncomputable def st86_0 (a0:List Int) (v0_2:Int):LS:=({ env:=[(nat_lit 0,vS (nat_lit 3) ki a0),(nat_lit 1,some (AV.sv false [CV.clo (nat_lit 54) []])),(nat_lit 7,vI (a0.length:Int)),(nat_lit 8,vI v0_2)],heap:=nl (Nat×Option HV),next:=nat_lit 0,pins:=[] })
noncomputable def b86:Go.Code:=Tryz.f86.body.getD .skip
def H86:HL:=[(2,[0,1,7,8],[])]
noncomputable def G86 (F54:CT c54):List (Nat×Con):=[(54,⟨c54.ps,c54.rs,F54⟩)]
noncomputable def slices_IndexFunc_int_int_l0_step (n:Nat) (F54:CT c54) (a0:List Int) (ih0:(Int)→Option Int) (v0_2:Int):Option Int :=
 bif decide (v0_2 < (a0.length:Int)) then if (0:Int)≤v0_2∧v0_2 < (a0.length:Int) then Option.bind (α:=Bool) (F54 n (a0.getD v0_2.toNat (0:Int),())) fun r0↦bif r0 then some v0_2 else ih0 (IntKind.i64.wrap (v0_2 + (1:Int))) else none else some (-1:Int)
noncomputable def slices_IndexFunc_int_int_l0 (n:Nat) (F54:CT c54) (a0:List Int):Nat→(Int)→Option Int
 | 0,_=>none
 | m0 + 1,v0_2=>slices_IndexFunc_int_int_l0_step n F54 a0 (slices_IndexFunc_int_int_l0 n F54 a0 m0) v0_2
noncomputable def slices_IndexFunc_int_int_h (n:Nat) (F54:CT c54) (h0:(List Int)→Nat→(Int)→Option Int) (a0:List Int) (a1:PUnit):Option Int :=
 h0 a0 n (0:Int)
noncomputable def slices_IndexFunc_int_int_g (n:Nat) (F54:CT c54) (a0:List Int) (a1:PUnit):Option Int:=slices_IndexFunc_int_int_h n F54 (fun a0 m v0_2=>slices_IndexFunc_int_int_l0 n F54 a0 m v0_2) a0 a1
theorem slices_IndexFunc_int_int_l0_ok (n:Nat) (F54:CT c54) (a0:List Int):∀ (m0:Nat) (v0_2:Int),(loopAt (opE TT OVS NTS DFS MTS (G86 F54) n) Tryz.f86.ntmps H86 n b86 [.r,.l,.r,.b] (kRet TT [(.val false (.seq 3 ki)),(.clo 54 [])] [(false,.val ki)] Tryz.f86.results.toList) m0 (st86_0 a0 v0_2))=slices_IndexFunc_int_int_l0 n F54 a0 m0 v0_2:=by
 intro m0
 induction m0 with
 | zero=>intros; kernel_rfl
 | succ m0 ih =>
  intro v0_2
  refine Eq.trans (b:=slices_IndexFunc_int_int_l0_step n F54 a0 (fun v0_2=>(loopAt (opE TT OVS NTS DFS MTS (G86 F54) n) Tryz.f86.ntmps H86 n b86 [.r,.l,.r,.b] (kRet TT [(.val false (.seq 3 ki)),(.clo 54 [])] [(false,.val ki)] Tryz.f86.results.toList) m0 (st86_0 a0 v0_2))) v0_2) (by kernel_rfl) ?_
  rw [show (fun v0_2=>(loopAt (opE TT OVS NTS DFS MTS (G86 F54) n) Tryz.f86.ntmps H86 n b86 [.r,.l,.r,.b] (kRet TT [(.val false (.seq 3 ki)),(.clo 54 [])] [(false,.val ki)] Tryz.f86.results.toList) m0 (st86_0 a0 v0_2)))=slices_IndexFunc_int_int_l0 n F54 a0 m0 from funext fun v0_2=>ih v0_2]
  first | rfl | kernel_rfl
theorem slices_IndexFunc_int_int_eq (n:Nat) (F54:CT c54) (x:DPs [(.val false (.seq 3 ki)),(.clo 54 [])]):funE TT [(.val false (.seq 3 ki)),(.clo 54 [])] [(false,.val ki)] (opE TT OVS NTS DFS MTS (G86 F54) n) H86 Tryz.f86.ntmps Tryz.f86.results.toList b86 n x=slices_IndexFunc_int_int_g n F54 x.1 x.2.1:=by
 refine Eq.trans (b:=slices_IndexFunc_int_int_h n F54 (fun a0 m v0_2=>(loopAt (opE TT OVS NTS DFS MTS (G86 F54) n) Tryz.f86.ntmps H86 n b86 [.r,.l,.r,.b] (kRet TT [(.val false (.seq 3 ki)),(.clo 54 [])] [(false,.val ki)] Tryz.f86.results.toList) m (st86_0 a0 v0_2))) x.1 x.2.1) (by kernel_rfl) ?_
 try rw [show (fun a0 m v0_2=>(loopAt (opE TT OVS NTS DFS MTS (G86 F54) n) Tryz.f86.ntmps H86 n b86 [.r,.l,.r,.b] (kRet TT [(.val false (.seq 3 ki)),(.clo 54 [])] [(false,.val ki)] Tryz.f86.results.toList) m (st86_0 a0 v0_2)))=(fun a0 m v0_2=>slices_IndexFunc_int_int_l0 n F54 a0 m v0_2) from funext fun a0=>funext fun m=>funext fun v0_2=>slices_IndexFunc_int_int_l0_ok n F54 a0 m v0_2]
 first | rfl | kernel_rfl
noncomputable def slices_IndexFunc_int_int (n:Nat) (a0:List Int) (a1:PUnit):Option Int:=slices_IndexFunc_int_int_g n c54.F a0 a1
noncomputable def c86:Con:=⟨[(.val false (.seq 3 ki)),(.clo 54 [])],[(false,.val ki)],fun n x=>slices_IndexFunc_int_int n x.1 x.2.1⟩
theorem c86_F (n:Nat) (a0:List Int) (a1:PUnit):c86.F n (a0,a1,())=slices_IndexFunc_int_int n a0 a1:=rfl
theorem c86_ok:ConOK Tryz.prog 86 c86:=funE_ok TT_ok mixed Tryz.func86 (body:=b86) rfl rfl (by decide +kernel) (fun n=>opE_ok TT_ok OVS_ok NTS DFS MTS_ok (G:=G86 c54.F) (GOK.cons c54_ok (GOK.nil)) n) (H:=H86) fun n x y h=>(slices_IndexFunc_int_int_eq n c54.F x).trans h
noncomputable def b57:Go.Code:=Tryz.f57.body.getD .skip
def H57:HL:=[]
noncomputable def G57 (F86:CT c86) (F54:CT c54):List (Nat×Con):=[(86,⟨c86.ps,c86.rs,F86⟩),(54,⟨c54.ps,c54.rs,F54⟩)]
noncomputable def slices_ContainsFunc_int_int_g (n:Nat) (F86:CT c86) (F54:CT c54) (a0:List Int) (a1:PUnit):Option Bool :=
 Option.bind (α:=Int) (F86 n (a0,(),())) fun r0↦some (decide (r0≥(0:Int)))
theorem slices_ContainsFunc_int_int_eq (n:Nat) (F86:CT c86) (F54:CT c54) (x:DPs [(.val false (.seq 3 ki)),(.clo 54 [])]):funE TT [(.val false (.seq 3 ki)),(.clo 54 [])] [(false,.val .bool)] (opE TT OVS NTS DFS MTS (G57 F86 F54) n) H57 Tryz.f57.ntmps Tryz.f57.results.toList b57 n x=slices_ContainsFunc_int_int_g n F86 F54 x.1 x.2.1:=by
 kernel_rfl
noncomputable def slices_ContainsFunc_int_int (n:Nat) (a0:List Int) (a1:PUnit):Option Bool:=slices_ContainsFunc_int_int_g n c86.F c54.F a0 a1
noncomputable def c57:Con:=⟨[(.val false (.seq 3 ki)),(.clo 54 [])],[(false,.val .bool)],fun n x=>slices_ContainsFunc_int_int n x.1 x.2.1⟩
theorem c57_F (n:Nat) (a0:List Int) (a1:PUnit):c57.F n (a0,a1,())=slices_ContainsFunc_int_int n a0 a1:=rfl
theorem c57_ok:ConOK Tryz.prog 57 c57:=funE_ok TT_ok mixed Tryz.func57 (body:=b57) rfl rfl (by decide +kernel) (fun n=>opE_ok TT_ok OVS_ok NTS DFS MTS_ok (G:=G57 c86.F c54.F) (GOK.cons c86_ok (GOK.cons c54_ok (GOK.nil))) n) (H:=H57) fun n x y h=>(slices_ContainsFunc_int_int_eq n c86.F c54.F x).trans h
noncomputable def b87:Go.Code:=Tryz.f87.body.getD .skip
def H87:HL:=[]
noncomputable def G87 (F88:CT c88):List (Nat×Con):=[(88,⟨c88.ps,c88.rs,F88⟩)]
noncomputable def cmp_Less_int_g (n:Nat) (F88:CT c88) (a0:Int) (a1:Int):Option Bool :=
 Option.bind (α:=Bool) (F88 n (a0,())) fun r0↦bif r0 then Option.bind (α:=Bool) (F88 n (a1,())) fun r1↦bif !r1 then some true else some (decide (a0 < a1)) else some (decide (a0 < a1))
theorem cmp_Less_int_eq (n:Nat) (F88:CT c88) (x:DPs [(.val false ki),(.val false ki)]):funE TT [(.val false ki),(.val false ki)] [(false,.val .bool)] (opE TT OVS NTS DFS MTS (G87 F88) n) H87 Tryz.f87.ntmps Tryz.f87.results.toList b87 n x=cmp_Less_int_g n F88 x.1 x.2.1:=by
 kernel_rfl
noncomputable def cmp_Less_int (n:Nat) (a0:Int) (a1:Int):Option Bool:=cmp_Less_int_g n c88.F a0 a1
noncomputable def c87:Con:=⟨[(.val false ki),(.val false ki)],[(false,.val .bool)],fun n x=>cmp_Less_int n x.1 x.2.1⟩
theorem c87_F (n:Nat) (a0:Int) (a1:Int):c87.F n (a0,a1,())=cmp_Less_int n a0 a1:=rfl
theorem c87_ok:ConOK Tryz.prog 87 c87:=funE_ok TT_ok mixed Tryz.func87 (body:=b87) rfl rfl (by decide +kernel) (fun n=>opE_ok TT_ok OVS_ok NTS DFS MTS_ok (G:=G87 c88.F) (GOK.cons c88_ok (GOK.nil)) n) (H:=H87) fun n x y h=>(cmp_Less_int_eq n c88.F x).trans h
noncomputable def st58_0 (a0:List Int) (v0_1:Int):LS:=({ env:=[(nat_lit 0,vS (nat_lit 3) ki a0),(nat_lit 3,vI v0_1)],heap:=nl (Nat×Option HV),next:=nat_lit 0,pins:=[] })
noncomputable def b58:Go.Code:=Tryz.f58.body.getD .skip
def H58:HL:=[(2,[0,3],[])]
noncomputable def G58 (F87:CT c87):List (Nat×Con):=[(87,⟨c87.ps,c87.rs,F87⟩)]
noncomputable def slices_IsSorted_int_int_l0_step (n:Nat) (F87:CT c87) (a0:List Int) (ih0:(Int)→Option Bool) (v0_1:Int):Option Bool :=
 bif decide (v0_1 > (0:Int)) then if (0:Int)≤v0_1∧v0_1 < (a0.length:Int) then if (0:Int)≤IntKind.i64.wrap (v0_1 - (1:Int))∧IntKind.i64.wrap (v0_1 - (1:Int)) < (a0.length:Int) then Option.bind (α:=Bool) (F87 n (a0.getD v0_1.toNat (0:Int),a0.getD (IntKind.i64.wrap (v0_1 - (1:Int))).toNat (0:Int),())) fun r0↦bif r0 then some false else ih0 (IntKind.i64.wrap (v0_1 - (1:Int))) else none else none else some true
noncomputable def slices_IsSorted_int_int_l0 (n:Nat) (F87:CT c87) (a0:List Int):Nat→(Int)→Option Bool
 | 0,_=>none
 | m0 + 1,v0_1=>slices_IsSorted_int_int_l0_step n F87 a0 (slices_IsSorted_int_int_l0 n F87 a0 m0) v0_1
noncomputable def slices_IsSorted_int_int_h (n:Nat) (F87:CT c87) (h0:(List Int)→Nat→(Int)→Option Bool) (a0:List Int):Option Bool :=
 h0 a0 n (IntKind.i64.wrap ((a0.length:Int) - (1:Int)))
noncomputable def slices_IsSorted_int_int_g (n:Nat) (F87:CT c87) (a0:List Int):Option Bool:=slices_IsSorted_int_int_h n F87 (fun a0 m v0_1=>slices_IsSorted_int_int_l0 n F87 a0 m v0_1) a0
theorem slices_IsSorted_int_int_l0_ok (n:Nat) (F87:CT c87) (a0:List Int):∀ (m0:Nat) (v0_1:Int),(loopAt (opE TT OVS NTS DFS MTS (G58 F87) n) Tryz.f58.ntmps H58 n b58 [.r,.l,.r,.b] (kRet TT [(.val false (.seq 3 ki))] [(false,.val .bool)] Tryz.f58.results.toList) m0 (st58_0 a0 v0_1))=slices_IsSorted_int_int_l0 n F87 a0 m0 v0_1:=by
 intro m0
 induction m0 with
 | zero=>intros; kernel_rfl
 | succ m0 ih =>
  intro v0_1
  refine Eq.trans (b:=slices_IsSorted_int_int_l0_step n F87 a0 (fun v0_1=>(loopAt (opE TT OVS NTS DFS MTS (G58 F87) n) Tryz.f58.ntmps H58 n b58 [.r,.l,.r,.b] (kRet TT [(.val false (.seq 3 ki))] [(false,.val .bool)] Tryz.f58.results.toList) m0 (st58_0 a0 v0_1))) v0_1) (by kernel_rfl) ?_
  rw [show (fun v0_1=>(loopAt (opE TT OVS NTS DFS MTS (G58 F87) n) Tryz.f58.ntmps H58 n b58 [.r,.l,.r,.b] (kRet TT [(.val false (.seq 3 ki))] [(false,.val .bool)] Tryz.f58.results.toList) m0 (st58_0 a0 v0_1)))=slices_IsSorted_int_int_l0 n F87 a0 m0 from funext fun v0_1=>ih v0_1]
  first | rfl | kernel_rfl
theorem slices_IsSorted_int_int_eq (n:Nat) (F87:CT c87) (x:DPs [(.val false (.seq 3 ki))]):funE TT [(.val false (.seq 3 ki))] [(false,.val .bool)] (opE TT OVS NTS DFS MTS (G58 F87) n) H58 Tryz.f58.ntmps Tryz.f58.results.toList b58 n x=slices_IsSorted_int_int_g n F87 x.1:=by
 refine Eq.trans (b:=slices_IsSorted_int_int_h n F87 (fun a0 m v0_1=>(loopAt (opE TT OVS NTS DFS MTS (G58 F87) n) Tryz.f58.ntmps H58 n b58 [.r,.l,.r,.b] (kRet TT [(.val false (.seq 3 ki))] [(false,.val .bool)] Tryz.f58.results.toList) m (st58_0 a0 v0_1))) x.1) (by kernel_rfl) ?_
 try rw [show (fun a0 m v0_1=>(loopAt (opE TT OVS NTS DFS MTS (G58 F87) n) Tryz.f58.ntmps H58 n b58 [.r,.l,.r,.b] (kRet TT [(.val false (.seq 3 ki))] [(false,.val .bool)] Tryz.f58.results.toList) m (st58_0 a0 v0_1)))=(fun a0 m v0_1=>slices_IsSorted_int_int_l0 n F87 a0 m v0_1) from funext fun a0=>funext fun m=>funext fun v0_1=>slices_IsSorted_int_int_l0_ok n F87 a0 m v0_1]
 first | rfl | kernel_rfl
noncomputable def slices_IsSorted_int_int (n:Nat) (a0:List Int):Option Bool:=slices_IsSorted_int_int_g n c87.F a0
noncomputable def c58:Con:=⟨[(.val false (.seq 3 ki))],[(false,.val .bool)],fun n x=>slices_IsSorted_int_int n x.1⟩
theorem c58_F (n:Nat) (a0:List Int):c58.F n (a0,())=slices_IsSorted_int_int n a0:=rfl
theorem c58_ok:ConOK Tryz.prog 58 c58:=funE_ok TT_ok mixed Tryz.func58 (body:=b58) rfl rfl (by decide +kernel) (fun n=>opE_ok TT_ok OVS_ok NTS DFS MTS_ok (G:=G58 c87.F) (GOK.cons c87_ok (GOK.nil)) n) (H:=H58) fun n x y h=>(slices_IsSorted_int_int_eq n c87.F x).trans h
noncomputable def b84:Go.Code:=Tryz.f84.body.getD .skip
def H84:HL:=[]
noncomputable def G84 (F85:CT c85):List (Nat×Con):=[(85,⟨c85.ps,c85.rs,F85⟩)]
noncomputable def admit_May_1_g (n:Nat) (F85:CT c85) (a0:tQ):Option Bool :=
 Option.bind (α:=Bool) (F85 n (a0,())) fun r0↦some !r0
theorem admit_May_1_eq (n:Nat) (F85:CT c85) (x:DPs [(.val true kQ)]):funE TT [(.val true kQ)] [(false,.val .bool)] (opE TT OVS NTS DFS MTS (G84 F85) n) H84 Tryz.f84.ntmps Tryz.f84.results.toList b84 n x=admit_May_1_g n F85 x.1:=by
 kernel_rfl
noncomputable def admit_May_1 (n:Nat) (a0:tQ):Option Bool:=admit_May_1_g n c85.F a0
noncomputable def c84:Con:=⟨[(.val true kQ)],[(false,.val .bool)],fun n x=>admit_May_1 n x.1⟩
theorem c84_F (n:Nat) (a0:tQ):c84.F n (a0,())=admit_May_1 n a0:=rfl
theorem c84_ok:ConOK Tryz.prog 84 c84:=funE_ok TT_ok mixed Tryz.func84 (body:=b84) rfl rfl (by decide +kernel) (fun n=>opE_ok TT_ok OVS_ok NTS DFS MTS_ok (G:=G84 c85.F) (GOK.cons c85_ok (GOK.nil)) n) (H:=H84) fun n x y h=>(admit_May_1_eq n c85.F x).trans h
noncomputable def st116_0 (a0:List (tQ)) (v0_2:Int):LS:=({ env:=[(nat_lit 0,vS (nat_lit 58) kQ a0),(nat_lit 1,some (AV.sv false [CV.clo (nat_lit 84) []])),(nat_lit 7,vI (a0.length:Int)),(nat_lit 8,vI v0_2)],heap:=nl (Nat×Option HV),next:=nat_lit 0,pins:=[] })
noncomputable def b116:Go.Code:=Tryz.f116.body.getD .skip
def H116:HL:=[(2,[0,1,7,8],[])]
noncomputable def G116 (F84:CT c84):List (Nat×Con):=[(84,⟨c84.ps,c84.rs,F84⟩)]
noncomputable def slices_IndexFunc_api_Query_l0_step (n:Nat) (F84:CT c84) (a0:List (tQ)) (ih0:(Int)→Option Int) (v0_2:Int):Option Int :=
 bif decide (v0_2 < (a0.length:Int)) then if (0:Int)≤v0_2∧v0_2 < (a0.length:Int) then Option.bind (α:=Bool) (F84 n (a0.getD v0_2.toNat ((0:Int),(0:Int),(0:Int),(0:Int),nl Int,(0:Int)),())) fun r0↦bif r0 then some v0_2 else ih0 (IntKind.i64.wrap (v0_2 + (1:Int))) else none else some (-1:Int)
noncomputable def slices_IndexFunc_api_Query_l0 (n:Nat) (F84:CT c84) (a0:List (tQ)):Nat→(Int)→Option Int
 | 0,_=>none
 | m0 + 1,v0_2=>slices_IndexFunc_api_Query_l0_step n F84 a0 (slices_IndexFunc_api_Query_l0 n F84 a0 m0) v0_2
noncomputable def slices_IndexFunc_api_Query_h (n:Nat) (F84:CT c84) (h0:(List (tQ))→Nat→(Int)→Option Int) (a0:List (tQ)) (a1:PUnit):Option Int :=
 h0 a0 n (0:Int)
noncomputable def slices_IndexFunc_api_Query_g (n:Nat) (F84:CT c84) (a0:List (tQ)) (a1:PUnit):Option Int:=slices_IndexFunc_api_Query_h n F84 (fun a0 m v0_2=>slices_IndexFunc_api_Query_l0 n F84 a0 m v0_2) a0 a1
theorem slices_IndexFunc_api_Query_l0_ok (n:Nat) (F84:CT c84) (a0:List (tQ)):∀ (m0:Nat) (v0_2:Int),(loopAt (opE TT OVS NTS DFS MTS (G116 F84) n) Tryz.f116.ntmps H116 n b116 [.r,.l,.r,.b] (kRet TT [(.val false (.seq 58 kQ)),(.clo 84 [])] [(false,.val ki)] Tryz.f116.results.toList) m0 (st116_0 a0 v0_2))=slices_IndexFunc_api_Query_l0 n F84 a0 m0 v0_2:=by
 intro m0
 induction m0 with
 | zero=>intros; kernel_rfl
 | succ m0 ih =>
  intro v0_2
  refine Eq.trans (b:=slices_IndexFunc_api_Query_l0_step n F84 a0 (fun v0_2=>(loopAt (opE TT OVS NTS DFS MTS (G116 F84) n) Tryz.f116.ntmps H116 n b116 [.r,.l,.r,.b] (kRet TT [(.val false (.seq 58 kQ)),(.clo 84 [])] [(false,.val ki)] Tryz.f116.results.toList) m0 (st116_0 a0 v0_2))) v0_2) (by kernel_rfl) ?_
  rw [show (fun v0_2=>(loopAt (opE TT OVS NTS DFS MTS (G116 F84) n) Tryz.f116.ntmps H116 n b116 [.r,.l,.r,.b] (kRet TT [(.val false (.seq 58 kQ)),(.clo 84 [])] [(false,.val ki)] Tryz.f116.results.toList) m0 (st116_0 a0 v0_2)))=slices_IndexFunc_api_Query_l0 n F84 a0 m0 from funext fun v0_2=>ih v0_2]
  first | rfl | kernel_rfl
theorem slices_IndexFunc_api_Query_eq (n:Nat) (F84:CT c84) (x:DPs [(.val false (.seq 58 kQ)),(.clo 84 [])]):funE TT [(.val false (.seq 58 kQ)),(.clo 84 [])] [(false,.val ki)] (opE TT OVS NTS DFS MTS (G116 F84) n) H116 Tryz.f116.ntmps Tryz.f116.results.toList b116 n x=slices_IndexFunc_api_Query_g n F84 x.1 x.2.1:=by
 refine Eq.trans (b:=slices_IndexFunc_api_Query_h n F84 (fun a0 m v0_2=>(loopAt (opE TT OVS NTS DFS MTS (G116 F84) n) Tryz.f116.ntmps H116 n b116 [.r,.l,.r,.b] (kRet TT [(.val false (.seq 58 kQ)),(.clo 84 [])] [(false,.val ki)] Tryz.f116.results.toList) m (st116_0 a0 v0_2))) x.1 x.2.1) (by kernel_rfl) ?_
 try rw [show (fun a0 m v0_2=>(loopAt (opE TT OVS NTS DFS MTS (G116 F84) n) Tryz.f116.ntmps H116 n b116 [.r,.l,.r,.b] (kRet TT [(.val false (.seq 58 kQ)),(.clo 84 [])] [(false,.val ki)] Tryz.f116.results.toList) m (st116_0 a0 v0_2)))=(fun a0 m v0_2=>slices_IndexFunc_api_Query_l0 n F84 a0 m v0_2) from funext fun a0=>funext fun m=>funext fun v0_2=>slices_IndexFunc_api_Query_l0_ok n F84 a0 m v0_2]
 first | rfl | kernel_rfl
noncomputable def slices_IndexFunc_api_Query (n:Nat) (a0:List (tQ)) (a1:PUnit):Option Int:=slices_IndexFunc_api_Query_g n c84.F a0 a1
noncomputable def c116:Con:=⟨[(.val false (.seq 58 kQ)),(.clo 84 [])],[(false,.val ki)],fun n x=>slices_IndexFunc_api_Query n x.1 x.2.1⟩
theorem c116_F (n:Nat) (a0:List (tQ)) (a1:PUnit):c116.F n (a0,a1,())=slices_IndexFunc_api_Query n a0 a1:=rfl
theorem c116_ok:ConOK Tryz.prog 116 c116:=funE_ok TT_ok mixed Tryz.func116 (body:=b116) rfl rfl (by decide +kernel) (fun n=>opE_ok TT_ok OVS_ok NTS DFS MTS_ok (G:=G116 c84.F) (GOK.cons c84_ok (GOK.nil)) n) (H:=H116) fun n x y h=>(slices_IndexFunc_api_Query_eq n c84.F x).trans h
noncomputable def b83:Go.Code:=Tryz.f83.body.getD .skip
def H83:HL:=[]
noncomputable def G83 (F116:CT c116) (F84:CT c84):List (Nat×Con):=[(116,⟨c116.ps,c116.rs,F116⟩),(84,⟨c84.ps,c84.rs,F84⟩)]
noncomputable def slices_ContainsFunc_api_Query_g (n:Nat) (F116:CT c116) (F84:CT c84) (a0:List (tQ)) (a1:PUnit):Option Bool :=
 Option.bind (α:=Int) (F116 n (a0,(),())) fun r0↦some (decide (r0≥(0:Int)))
theorem slices_ContainsFunc_api_Query_eq (n:Nat) (F116:CT c116) (F84:CT c84) (x:DPs [(.val false (.seq 58 kQ)),(.clo 84 [])]):funE TT [(.val false (.seq 58 kQ)),(.clo 84 [])] [(false,.val .bool)] (opE TT OVS NTS DFS MTS (G83 F116 F84) n) H83 Tryz.f83.ntmps Tryz.f83.results.toList b83 n x=slices_ContainsFunc_api_Query_g n F116 F84 x.1 x.2.1:=by
 kernel_rfl
noncomputable def slices_ContainsFunc_api_Query (n:Nat) (a0:List (tQ)) (a1:PUnit):Option Bool:=slices_ContainsFunc_api_Query_g n c116.F c84.F a0 a1
noncomputable def c83:Con:=⟨[(.val false (.seq 58 kQ)),(.clo 84 [])],[(false,.val .bool)],fun n x=>slices_ContainsFunc_api_Query n x.1 x.2.1⟩
theorem c83_F (n:Nat) (a0:List (tQ)) (a1:PUnit):c83.F n (a0,a1,())=slices_ContainsFunc_api_Query n a0 a1:=rfl
theorem c83_ok:ConOK Tryz.prog 83 c83:=funE_ok TT_ok mixed Tryz.func83 (body:=b83) rfl rfl (by decide +kernel) (fun n=>opE_ok TT_ok OVS_ok NTS DFS MTS_ok (G:=G83 c116.F c84.F) (GOK.cons c116_ok (GOK.cons c84_ok (GOK.nil))) n) (H:=H83) fun n x y h=>(slices_ContainsFunc_api_Query_eq n c116.F c84.F x).trans h
noncomputable def b56:Go.Code:=Tryz.f56.body.getD .skip
def H56:HL:=[]
noncomputable def G56 (F83:CT c83):List (Nat×Con):=[(83,⟨c83.ps,c83.rs,F83⟩)]
noncomputable def admit_May_g (n:Nat) (F83:CT c83) (a0:tC):Option Bool :=
 bif decide ((a0.fst.length:Int) < (1:Int)) then some false else bif decide ((a0.fst.length:Int) > (8:Int)) then some false else Option.bind (α:=Bool) (F83 n (a0.fst,(),())) fun r0↦bif r0 then some false else bif decide (a0.snd.fst≥(0:Int)) then bif decide (a0.snd.fst≤(1073741824:Int)) then bif decide (a0.snd.snd.fst≥(1:Int)) then bif decide (a0.snd.snd.fst≤(4096:Int)) then bif decide (a0.snd.snd.snd.fst≥(1:Int)) then bif decide (a0.snd.snd.snd.fst≤(64:Int)) then bif decide (a0.snd.snd.snd.snd≥(1:Int)) then some (decide (a0.snd.snd.snd.snd≤(8:Int))) else some false else some false else some false else some false else some false else some false else some false
theorem admit_May_eq (n:Nat) (F83:CT c83) (x:DPs [(.val true (.pair (.seq 58 kQ) kI))]):funE TT [(.val true (.pair (.seq 58 kQ) kI))] [(false,.val .bool)] (opE TT OVS NTS DFS MTS (G56 F83) n) H56 Tryz.f56.ntmps Tryz.f56.results.toList b56 n x=admit_May_g n F83 x.1:=by
 kernel_rfl
noncomputable def admit_May (n:Nat) (a0:tC):Option Bool:=admit_May_g n c83.F a0
noncomputable def c56:Con:=⟨[(.val true (.pair (.seq 58 kQ) kI))],[(false,.val .bool)],fun n x=>admit_May n x.1⟩
theorem c56_F (n:Nat) (a0:tC):c56.F n (a0,())=admit_May n a0:=rfl
theorem c56_ok:ConOK Tryz.prog 56 c56:=funE_ok TT_ok mixed Tryz.func56 (body:=b56) rfl rfl (by decide +kernel) (fun n=>opE_ok TT_ok OVS_ok NTS DFS MTS_ok (G:=G56 c83.F) (GOK.cons c83_ok (GOK.nil)) n) (H:=H56) fun n x y h=>(admit_May_eq n c83.F x).trans h
noncomputable def b59:Go.Code:=Tryz.f59.body.getD .skip
def H59:HL:=[]
noncomputable def G59 (F61:CT c61) (F49:CT c49) (F60:CT c60):List (Nat×Con):=[(61,⟨c61.ps,c61.rs,F61⟩),(49,⟨c49.ps,c49.rs,F49⟩),(60,⟨c60.ps,c60.rs,F60⟩)]
noncomputable def spec_row_1_g (n:Nat) (F61:CT c61) (F49:CT c49) (F60:CT c60) (a0:tI) (a1:tI):Option Int :=
 Option.bind (α:=Int) (F61 n (a0.fst,a1.fst,())) fun r0↦Option.bind (α:=Int) (F49 n (a0,a1,())) fun r1↦Option.bind (α:=Int) (F60 n (((List.replicate (2:Nat) (0:Int)).set (0:Nat) r0).set (1:Nat) r1,())) fun r2↦some r2
theorem spec_row_1_eq (n:Nat) (F61:CT c61) (F49:CT c49) (F60:CT c60) (x:DPs [(.val true kI),(.val true kI)]):funE TT [(.val true kI),(.val true kI)] [(false,.val ki)] (opE TT OVS NTS DFS MTS (G59 F61 F49 F60) n) H59 Tryz.f59.ntmps Tryz.f59.results.toList b59 n x=spec_row_1_g n F61 F49 F60 x.1 x.2.1:=by
 kernel_rfl
noncomputable def spec_row_1 (n:Nat) (a0:tI) (a1:tI):Option Int:=spec_row_1_g n c61.F c49.F c60.F a0 a1
noncomputable def c59:Con:=⟨[(.val true kI),(.val true kI)],[(false,.val ki)],fun n x=>spec_row_1 n x.1 x.2.1⟩
theorem c59_F (n:Nat) (a0:tI) (a1:tI):c59.F n (a0,a1,())=spec_row_1 n a0 a1:=rfl
theorem c59_ok:ConOK Tryz.prog 59 c59:=funE_ok TT_ok mixed Tryz.func59 (body:=b59) rfl rfl (by decide +kernel) (fun n=>opE_ok TT_ok OVS_ok NTS DFS MTS_ok (G:=G59 c61.F c49.F c60.F) (GOK.cons c61_ok (GOK.cons c49_ok (GOK.cons c60_ok (GOK.nil)))) n) (H:=H59) fun n x y h=>(spec_row_1_eq n c61.F c49.F c60.F x).trans h
noncomputable def b68:Go.Code:=Tryz.f68.body.getD .skip
def H68:HL:=[]
noncomputable def G68 (F61:CT c61) (F60:CT c60):List (Nat×Con):=[(61,⟨c61.ps,c61.rs,F61⟩),(60,⟨c60.ps,c60.rs,F60⟩)]
noncomputable def admit_Sort_1_g (n:Nat) (F61:CT c61) (F60:CT c60) (a0:tR) (a1:tR):Option Int :=
 Option.bind (α:=Int) (F61 n (a0.snd.snd.fst.snd,a1.snd.snd.fst.snd,())) fun r0↦Option.bind (α:=Int) (F61 n (a0.fst,a1.fst,())) fun r1↦Option.bind (α:=Int) (F61 n (a0.snd.fst,a1.snd.fst,())) fun r2↦Option.bind (α:=Int) (F61 n (a0.snd.snd.fst.fst,a1.snd.snd.fst.fst,())) fun r3↦Option.bind (α:=Int) (F60 n (((((List.replicate (4:Nat) (0:Int)).set (0:Nat) r0).set (1:Nat) r1).set (2:Nat) r2).set (3:Nat) r3,())) fun r4↦some r4
theorem admit_Sort_1_eq (n:Nat) (F61:CT c61) (F60:CT c60) (x:DPs [(.val true kR),(.val true kR)]):funE TT [(.val true kR),(.val true kR)] [(false,.val ki)] (opE TT OVS NTS DFS MTS (G68 F61 F60) n) H68 Tryz.f68.ntmps Tryz.f68.results.toList b68 n x=admit_Sort_1_g n F61 F60 x.1 x.2.1:=by
 kernel_rfl
noncomputable def admit_Sort_1 (n:Nat) (a0:tR) (a1:tR):Option Int:=admit_Sort_1_g n c61.F c60.F a0 a1
noncomputable def c68:Con:=⟨[(.val true kR),(.val true kR)],[(false,.val ki)],fun n x=>admit_Sort_1 n x.1 x.2.1⟩
theorem c68_F (n:Nat) (a0:tR) (a1:tR):c68.F n (a0,a1,())=admit_Sort_1 n a0 a1:=rfl
theorem c68_ok:ConOK Tryz.prog 68 c68:=funE_ok TT_ok mixed Tryz.func68 (body:=b68) rfl rfl (by decide +kernel) (fun n=>opE_ok TT_ok OVS_ok NTS DFS MTS_ok (G:=G68 c61.F c60.F) (GOK.cons c61_ok (GOK.cons c60_ok (GOK.nil))) n) (H:=H68) fun n x y h=>(admit_Sort_1_eq n c61.F c60.F x).trans h
noncomputable def b33:Go.Code:=Tryz.f33.body.getD .skip
def H33:HL:=[]
noncomputable def G33:List (Nat×Con):=[]
noncomputable def spec_isOut (n:Nat) (a0:tC) (a1:Int×Int) (a2:Int):Option Bool :=
 some (decide (IntKind.i64.wrap (a1.snd + a0.snd.fst)≤a2))
theorem spec_isOut_eq (n:Nat) (x:DPs [(.iref (.pair (.seq 58 kQ) kI)),(.val true (.pair ki ki)),(.val false ki)]):funE TT [(.iref (.pair (.seq 58 kQ) kI)),(.val true (.pair ki ki)),(.val false ki)] [(false,.val .bool)] (opE TT OVS NTS DFS MTS G33 n) H33 Tryz.f33.ntmps Tryz.f33.results.toList b33 n x=spec_isOut n x.1 x.2.1 x.2.2.1:=by
 kernel_rfl
noncomputable def c33:Con:=⟨[(.iref (.pair (.seq 58 kQ) kI)),(.val true (.pair ki ki)),(.val false ki)],[(false,.val .bool)],fun n x=>spec_isOut n x.1 x.2.1 x.2.2.1⟩
theorem c33_F (n:Nat) (a0:tC) (a1:Int×Int) (a2:Int):c33.F n (a0,a1,a2,())=spec_isOut n a0 a1 a2:=rfl
theorem c33_ok:ConOK Tryz.prog 33 c33:=funE_ok TT_ok mixed Tryz.func33 (body:=b33) rfl rfl (by decide +kernel) (fun n=>opE_ok TT_ok OVS_ok NTS DFS MTS_ok (G:=G33) (GOK.nil) n) (H:=H33) fun n x y h=>(spec_isOut_eq n x).trans h
noncomputable def b120:Go.Code:=Tryz.f120.body.getD .skip
def H120:HL:=[]
noncomputable def G120:List (Nat×Con):=[]
noncomputable def low_count (n:Nat) (a0:tQ) (a1:tA):Option (Int×Bool×List Int) :=
 some (a1.fst,false,nl Int)
theorem low_count_eq (n:Nat) (x:DPs [(.iref kQ),(.iref kA)]):funE TT [(.iref kQ),(.iref kA)] [(true,.val (.pair ki (.pair .bool (.seq 3 ki))))] (opE TT OVS NTS DFS MTS G120 n) H120 Tryz.f120.ntmps Tryz.f120.results.toList b120 n x=low_count n x.1 x.2.1:=by
 kernel_rfl
noncomputable def c120:Con:=⟨[(.iref kQ),(.iref kA)],[(true,.val (.pair ki (.pair .bool (.seq 3 ki))))],fun n x=>low_count n x.1 x.2.1⟩
theorem c120_F (n:Nat) (a0:tQ) (a1:tA):c120.F n (a0,a1,())=low_count n a0 a1:=rfl
theorem c120_ok:ConOK Tryz.prog 120 c120:=funE_ok TT_ok mixed Tryz.func120 (body:=b120) rfl rfl (by decide +kernel) (fun n=>opE_ok TT_ok OVS_ok NTS DFS MTS_ok (G:=G120) (GOK.nil) n) (H:=H120) fun n x y h=>(low_count_eq n x).trans h
noncomputable def b121:Go.Code:=Tryz.f121.body.getD .skip
def H121:HL:=[]
noncomputable def G121:List (Nat×Con):=[]
noncomputable def low_sum (n:Nat) (a0:tQ) (a1:tA):Option (Int×Bool×List Int) :=
 bif decide (a1.snd.fst < (-1125899906842624:Int)) then some ((0:Int),true,nl Int) else bif decide (a1.snd.fst > (1125899906842624:Int)) then some ((0:Int),true,nl Int) else some (a1.snd.fst,false,nl Int)
theorem low_sum_eq (n:Nat) (x:DPs [(.iref kQ),(.iref kA)]):funE TT [(.iref kQ),(.iref kA)] [(true,.val (.pair ki (.pair .bool (.seq 3 ki))))] (opE TT OVS NTS DFS MTS G121 n) H121 Tryz.f121.ntmps Tryz.f121.results.toList b121 n x=low_sum n x.1 x.2.1:=by
 kernel_rfl
noncomputable def c121:Con:=⟨[(.iref kQ),(.iref kA)],[(true,.val (.pair ki (.pair .bool (.seq 3 ki))))],fun n x=>low_sum n x.1 x.2.1⟩
theorem c121_F (n:Nat) (a0:tQ) (a1:tA):c121.F n (a0,a1,())=low_sum n a0 a1:=rfl
theorem c121_ok:ConOK Tryz.prog 121 c121:=funE_ok TT_ok mixed Tryz.func121 (body:=b121) rfl rfl (by decide +kernel) (fun n=>opE_ok TT_ok OVS_ok NTS DFS MTS_ok (G:=G121) (GOK.nil) n) (H:=H121) fun n x y h=>(low_sum_eq n x).trans h
noncomputable def b122:Go.Code:=Tryz.f122.body.getD .skip
def H122:HL:=[]
noncomputable def G122:List (Nat×Con):=[]
noncomputable def low_least (n:Nat) (a0:tQ) (a1:tA):Option (Int×Bool×List Int) :=
 some (a1.snd.snd.fst,false,nl Int)
theorem low_least_eq (n:Nat) (x:DPs [(.iref kQ),(.iref kA)]):funE TT [(.iref kQ),(.iref kA)] [(true,.val (.pair ki (.pair .bool (.seq 3 ki))))] (opE TT OVS NTS DFS MTS G122 n) H122 Tryz.f122.ntmps Tryz.f122.results.toList b122 n x=low_least n x.1 x.2.1:=by
 kernel_rfl
noncomputable def c122:Con:=⟨[(.iref kQ),(.iref kA)],[(true,.val (.pair ki (.pair .bool (.seq 3 ki))))],fun n x=>low_least n x.1 x.2.1⟩
theorem c122_F (n:Nat) (a0:tQ) (a1:tA):c122.F n (a0,a1,())=low_least n a0 a1:=rfl
theorem c122_ok:ConOK Tryz.prog 122 c122:=funE_ok TT_ok mixed Tryz.func122 (body:=b122) rfl rfl (by decide +kernel) (fun n=>opE_ok TT_ok OVS_ok NTS DFS MTS_ok (G:=G122) (GOK.nil) n) (H:=H122) fun n x y h=>(low_least_eq n x).trans h
noncomputable def b123:Go.Code:=Tryz.f123.body.getD .skip
def H123:HL:=[]
noncomputable def G123:List (Nat×Con):=[]
noncomputable def low_greatest (n:Nat) (a0:tQ) (a1:tA):Option (Int×Bool×List Int) :=
 some (a1.snd.snd.snd.fst,false,nl Int)
theorem low_greatest_eq (n:Nat) (x:DPs [(.iref kQ),(.iref kA)]):funE TT [(.iref kQ),(.iref kA)] [(true,.val (.pair ki (.pair .bool (.seq 3 ki))))] (opE TT OVS NTS DFS MTS G123 n) H123 Tryz.f123.ntmps Tryz.f123.results.toList b123 n x=low_greatest n x.1 x.2.1:=by
 kernel_rfl
noncomputable def c123:Con:=⟨[(.iref kQ),(.iref kA)],[(true,.val (.pair ki (.pair .bool (.seq 3 ki))))],fun n x=>low_greatest n x.1 x.2.1⟩
theorem c123_F (n:Nat) (a0:tQ) (a1:tA):c123.F n (a0,a1,())=low_greatest n a0 a1:=rfl
theorem c123_ok:ConOK Tryz.prog 123 c123:=funE_ok TT_ok mixed Tryz.func123 (body:=b123) rfl rfl (by decide +kernel) (fun n=>opE_ok TT_ok OVS_ok NTS DFS MTS_ok (G:=G123) (GOK.nil) n) (H:=H123) fun n x y h=>(low_greatest_eq n x).trans h
noncomputable def b124:Go.Code:=Tryz.f124.body.getD .skip
def H124:HL:=[]
noncomputable def G124:List (Nat×Con):=[]
noncomputable def low_first (n:Nat) (a0:tQ) (a1:tA):Option (Int×Bool×List Int) :=
 some (a1.snd.snd.snd.snd.fst.snd.snd.snd,false,nl Int)
theorem low_first_eq (n:Nat) (x:DPs [(.iref kQ),(.iref kA)]):funE TT [(.iref kQ),(.iref kA)] [(true,.val (.pair ki (.pair .bool (.seq 3 ki))))] (opE TT OVS NTS DFS MTS G124 n) H124 Tryz.f124.ntmps Tryz.f124.results.toList b124 n x=low_first n x.1 x.2.1:=by
 kernel_rfl
noncomputable def c124:Con:=⟨[(.iref kQ),(.iref kA)],[(true,.val (.pair ki (.pair .bool (.seq 3 ki))))],fun n x=>low_first n x.1 x.2.1⟩
theorem c124_F (n:Nat) (a0:tQ) (a1:tA):c124.F n (a0,a1,())=low_first n a0 a1:=rfl
theorem c124_ok:ConOK Tryz.prog 124 c124:=funE_ok TT_ok mixed Tryz.func124 (body:=b124) rfl rfl (by decide +kernel) (fun n=>opE_ok TT_ok OVS_ok NTS DFS MTS_ok (G:=G124) (GOK.nil) n) (H:=H124) fun n x y h=>(low_first_eq n x).trans h
noncomputable def b125:Go.Code:=Tryz.f125.body.getD .skip
def H125:HL:=[]
noncomputable def G125:List (Nat×Con):=[]
noncomputable def low_last (n:Nat) (a0:tQ) (a1:tA):Option (Int×Bool×List Int) :=
 some (a1.snd.snd.snd.snd.snd.fst.snd.snd.snd,false,nl Int)
theorem low_last_eq (n:Nat) (x:DPs [(.iref kQ),(.iref kA)]):funE TT [(.iref kQ),(.iref kA)] [(true,.val (.pair ki (.pair .bool (.seq 3 ki))))] (opE TT OVS NTS DFS MTS G125 n) H125 Tryz.f125.ntmps Tryz.f125.results.toList b125 n x=low_last n x.1 x.2.1:=by
 kernel_rfl
noncomputable def c125:Con:=⟨[(.iref kQ),(.iref kA)],[(true,.val (.pair ki (.pair .bool (.seq 3 ki))))],fun n x=>low_last n x.1 x.2.1⟩
theorem c125_F (n:Nat) (a0:tQ) (a1:tA):c125.F n (a0,a1,())=low_last n a0 a1:=rfl
theorem c125_ok:ConOK Tryz.prog 125 c125:=funE_ok TT_ok mixed Tryz.func125 (body:=b125) rfl rfl (by decide +kernel) (fun n=>opE_ok TT_ok OVS_ok NTS DFS MTS_ok (G:=G125) (GOK.nil) n) (H:=H125) fun n x y h=>(low_last_eq n x).trans h
noncomputable def b126:Go.Code:=Tryz.f126.body.getD .skip
def H126:HL:=[]
noncomputable def G126 (F146:CT c146):List (Nat×Con):=[(146,⟨c146.ps,c146.rs,F146⟩)]
noncomputable def low_hist_g (n:Nat) (F146:CT c146) (a0:tQ) (a1:tA):Option (Int×Bool×List Int) :=
 Option.bind (α:=List Int) (F146 n (a1.snd.snd.snd.snd.snd.snd,())) fun r0↦some ((0:Int),false,r0)
theorem low_hist_eq (n:Nat) (F146:CT c146) (x:DPs [(.iref kQ),(.iref kA)]):funE TT [(.iref kQ),(.iref kA)] [(true,.val (.pair ki (.pair .bool (.seq 3 ki))))] (opE TT OVS NTS DFS MTS (G126 F146) n) H126 Tryz.f126.ntmps Tryz.f126.results.toList b126 n x=low_hist_g n F146 x.1 x.2.1:=by
 kernel_rfl
noncomputable def low_hist (n:Nat) (a0:tQ) (a1:tA):Option (Int×Bool×List Int):=low_hist_g n c146.F a0 a1
noncomputable def c126:Con:=⟨[(.iref kQ),(.iref kA)],[(true,.val (.pair ki (.pair .bool (.seq 3 ki))))],fun n x=>low_hist n x.1 x.2.1⟩
theorem c126_F (n:Nat) (a0:tQ) (a1:tA):c126.F n (a0,a1,())=low_hist n a0 a1:=rfl
theorem c126_ok:ConOK Tryz.prog 126 c126:=funE_ok TT_ok mixed Tryz.func126 (body:=b126) rfl rfl (by decide +kernel) (fun n=>opE_ok TT_ok OVS_ok NTS DFS MTS_ok (G:=G126 c146.F) (GOK.cons c146_ok (GOK.nil)) n) (H:=H126) fun n x y h=>(low_hist_eq n c146.F x).trans h
noncomputable def st127_0 (a1:tA) (v0_1:Int) (a0:tQ) (v0_4:Int):LS:=({ env:=[(nat_lit 1,some (AV.sv false [CV.iptr (ki.pair (ki.pair (ki.pair (ki.pair (kI.pair (kI.pair (Ty.seq (nat_lit 3) ki))))))) a1 (nat_lit 0)])),(nat_lit 4,vP (nat_lit 0) (nat_lit 0)),(nat_lit 5,vI v0_1),(nat_lit 24,vS (nat_lit 3) ki a0.snd.snd.snd.snd.fst),(nat_lit 25,vI (a0.snd.snd.snd.snd.fst.length:Int)),(nat_lit 26,vI v0_4)],heap:=[(nat_lit 0,hC ([cI (0:Int),CV.lit (Value.bool false),CV.lit (Value.slice none (nat_lit 0) (0:Nat))]))],next:=nat_lit 1,pins:=[] })
noncomputable def b127:Go.Code:=Tryz.f127.body.getD .skip
def H127:HL:=[(3,[1,4,5,24,25,26],[])]
noncomputable def G127:List (Nat×Con):=[]
noncomputable def low_rank_l0_step (n:Nat) (a0:tQ) (a1:tA) (ih0:(Int)→(Int)→Option (Int×Bool×List Int)) (v0_1:Int) (v0_4:Int):Option (Int×Bool×List Int) :=
 bif decide (v0_4 < (a0.snd.snd.snd.snd.fst.length:Int)) then if (0:Int)≤v0_4∧v0_4 < (a0.snd.snd.snd.snd.fst.length:Int) then if (0:Int)≤v0_4∧v0_4 < (a1.snd.snd.snd.snd.snd.snd.length:Int) then bif decide (IntKind.i64.wrap (v0_1 - a1.snd.snd.snd.snd.snd.snd.getD v0_4.toNat (0:Int))≤(0:Int)) then some (a0.snd.snd.snd.snd.fst.getD v0_4.toNat (0:Int),false,nl Int) else ih0 (IntKind.i64.wrap (v0_1 - a1.snd.snd.snd.snd.snd.snd.getD v0_4.toNat (0:Int))) (IntKind.i64.wrap (v0_4 + (1:Int))) else none else none else some (a1.snd.snd.snd.fst,false,nl Int)
noncomputable def low_rank_l0 (n:Nat) (a0:tQ) (a1:tA):Nat→(Int)→(Int)→Option (Int×Bool×List Int)
 | 0,_,_=>none
 | m0 + 1,v0_1,v0_4=>low_rank_l0_step n a0 a1 (low_rank_l0 n a0 a1 m0) v0_1 v0_4
noncomputable def low_rank_h (n:Nat) (h0:(tQ)→(tA)→Nat→(Int)→(Int)→Option (Int×Bool×List Int)) (a0:tQ) (a1:tA):Option (Int×Bool×List Int) :=
 h0 a0 a1 n (if (1:Int) < IntKind.i64.wrap ((IntKind.i64.wrap (IntKind.i64.wrap (IntKind.i64.wrap (a0.snd.snd.snd.snd.snd * a1.fst) + (1000:Int)) - (1:Int))).tdiv (1000:Int)) then IntKind.i64.wrap ((IntKind.i64.wrap (IntKind.i64.wrap (IntKind.i64.wrap (a0.snd.snd.snd.snd.snd * a1.fst) + (1000:Int)) - (1:Int))).tdiv (1000:Int)) else (1:Int)) (0:Int)
noncomputable def low_rank (n:Nat) (a0:tQ) (a1:tA):Option (Int×Bool×List Int):=low_rank_h n (fun a0 a1 m v0_1 v0_4=>low_rank_l0 n a0 a1 m v0_1 v0_4) a0 a1
theorem low_rank_l0_ok (n:Nat) (a0:tQ) (a1:tA):∀ (m0:Nat) (v0_1:Int) (v0_4:Int),(loopAt (opE TT OVS NTS DFS MTS G127 n) Tryz.f127.ntmps H127 n b127 [.r,.r,.l,.r,.b] (kRet TT [(.iref kQ),(.iref kA)] [(true,.val (.pair ki (.pair .bool (.seq 3 ki))))] Tryz.f127.results.toList) m0 (st127_0 a1 v0_1 a0 v0_4))=low_rank_l0 n a0 a1 m0 v0_1 v0_4:=by
 intro m0
 induction m0 with
 | zero=>intros; kernel_rfl
 | succ m0 ih =>
  intro v0_1 v0_4
  refine Eq.trans (b:=low_rank_l0_step n a0 a1 (fun v0_1 v0_4=>(loopAt (opE TT OVS NTS DFS MTS G127 n) Tryz.f127.ntmps H127 n b127 [.r,.r,.l,.r,.b] (kRet TT [(.iref kQ),(.iref kA)] [(true,.val (.pair ki (.pair .bool (.seq 3 ki))))] Tryz.f127.results.toList) m0 (st127_0 a1 v0_1 a0 v0_4))) v0_1 v0_4) (by kernel_rfl) ?_
  rw [show (fun v0_1 v0_4=>(loopAt (opE TT OVS NTS DFS MTS G127 n) Tryz.f127.ntmps H127 n b127 [.r,.r,.l,.r,.b] (kRet TT [(.iref kQ),(.iref kA)] [(true,.val (.pair ki (.pair .bool (.seq 3 ki))))] Tryz.f127.results.toList) m0 (st127_0 a1 v0_1 a0 v0_4)))=low_rank_l0 n a0 a1 m0 from funext fun v0_1=>funext fun v0_4=>ih v0_1 v0_4]
  first | rfl | kernel_rfl
theorem low_rank_eq (n:Nat) (x:DPs [(.iref kQ),(.iref kA)]):funE TT [(.iref kQ),(.iref kA)] [(true,.val (.pair ki (.pair .bool (.seq 3 ki))))] (opE TT OVS NTS DFS MTS G127 n) H127 Tryz.f127.ntmps Tryz.f127.results.toList b127 n x=low_rank n x.1 x.2.1:=by
 refine Eq.trans (b:=low_rank_h n (fun a0 a1 m v0_1 v0_4=>(loopAt (opE TT OVS NTS DFS MTS G127 n) Tryz.f127.ntmps H127 n b127 [.r,.r,.l,.r,.b] (kRet TT [(.iref kQ),(.iref kA)] [(true,.val (.pair ki (.pair .bool (.seq 3 ki))))] Tryz.f127.results.toList) m (st127_0 a1 v0_1 a0 v0_4))) x.1 x.2.1) (by kernel_rfl) ?_
 try rw [show (fun a0 a1 m v0_1 v0_4=>(loopAt (opE TT OVS NTS DFS MTS G127 n) Tryz.f127.ntmps H127 n b127 [.r,.r,.l,.r,.b] (kRet TT [(.iref kQ),(.iref kA)] [(true,.val (.pair ki (.pair .bool (.seq 3 ki))))] Tryz.f127.results.toList) m (st127_0 a1 v0_1 a0 v0_4)))=(fun a0 a1 m v0_1 v0_4=>low_rank_l0 n a0 a1 m v0_1 v0_4) from funext fun a0=>funext fun a1=>funext fun m=>funext fun v0_1=>funext fun v0_4=>low_rank_l0_ok n a0 a1 m v0_1 v0_4]
 first | rfl | kernel_rfl
noncomputable def c127:Con:=⟨[(.iref kQ),(.iref kA)],[(true,.val (.pair ki (.pair .bool (.seq 3 ki))))],fun n x=>low_rank n x.1 x.2.1⟩
theorem c127_F (n:Nat) (a0:tQ) (a1:tA):c127.F n (a0,a1,())=low_rank n a0 a1:=rfl
theorem c127_ok:ConOK Tryz.prog 127 c127:=funE_ok TT_ok mixed Tryz.func127 (body:=b127) rfl rfl (by decide +kernel) (fun n=>opE_ok TT_ok OVS_ok NTS DFS MTS_ok (G:=G127) (GOK.nil) n) (H:=H127) fun n x y h=>(low_rank_eq n x).trans h
noncomputable def st52_0 (a0:List Int) (a1:List Int) (v0_2:Int):LS:=({ env:=[(nat_lit 0,vS (nat_lit 3) ki a0),(nat_lit 1,vS (nat_lit 3) ki a1),(nat_lit 5,vI v0_2)],heap:=nl (Nat×Option HV),next:=nat_lit 0,pins:=[] })
noncomputable def b52:Go.Code:=Tryz.f52.body.getD .skip
def H52:HL:=[(4,[0,1,5],[])]
noncomputable def G52:List (Nat×Con):=[]
noncomputable def bournelaw0_SameInts_l0_step (n:Nat) (a0:List Int) (a1:List Int) (ih0:(Int)→Option Bool) (v0_2:Int):Option Bool :=
 bif decide (v0_2 < (a0.length:Int)) then if (0:Int)≤v0_2∧v0_2 < (a0.length:Int) then if (0:Int)≤v0_2∧v0_2 < (a1.length:Int) then bif a0.getD v0_2.toNat (0:Int) != a1.getD v0_2.toNat (0:Int) then some false else ih0 (IntKind.i64.wrap (v0_2 + (1:Int))) else none else none else some true
noncomputable def bournelaw0_SameInts_l0 (n:Nat) (a0:List Int) (a1:List Int):Nat→(Int)→Option Bool
 | 0,_=>none
 | m0 + 1,v0_2=>bournelaw0_SameInts_l0_step n a0 a1 (bournelaw0_SameInts_l0 n a0 a1 m0) v0_2
noncomputable def bournelaw0_SameInts_h (n:Nat) (h0:(List Int)→(List Int)→Nat→(Int)→Option Bool) (a0:List Int) (a1:List Int):Option Bool :=
 bif (a0.length:Int) != (a1.length:Int) then some false else h0 a0 a1 n (0:Int)
noncomputable def bournelaw0_SameInts (n:Nat) (a0:List Int) (a1:List Int):Option Bool:=bournelaw0_SameInts_h n (fun a0 a1 m v0_2=>bournelaw0_SameInts_l0 n a0 a1 m v0_2) a0 a1
theorem bournelaw0_SameInts_l0_ok (n:Nat) (a0:List Int) (a1:List Int):∀ (m0:Nat) (v0_2:Int),(loopAt (opE TT OVS NTS DFS MTS G52 n) Tryz.f52.ntmps H52 n b52 [.r,.r,.l,.r,.b] (kRet TT [(.val false (.seq 3 ki)),(.val false (.seq 3 ki))] [(false,.val .bool)] Tryz.f52.results.toList) m0 (st52_0 a0 a1 v0_2))=bournelaw0_SameInts_l0 n a0 a1 m0 v0_2:=by
 intro m0
 induction m0 with
 | zero=>intros; kernel_rfl
 | succ m0 ih =>
  intro v0_2
  refine Eq.trans (b:=bournelaw0_SameInts_l0_step n a0 a1 (fun v0_2=>(loopAt (opE TT OVS NTS DFS MTS G52 n) Tryz.f52.ntmps H52 n b52 [.r,.r,.l,.r,.b] (kRet TT [(.val false (.seq 3 ki)),(.val false (.seq 3 ki))] [(false,.val .bool)] Tryz.f52.results.toList) m0 (st52_0 a0 a1 v0_2))) v0_2) (by kernel_rfl) ?_
  rw [show (fun v0_2=>(loopAt (opE TT OVS NTS DFS MTS G52 n) Tryz.f52.ntmps H52 n b52 [.r,.r,.l,.r,.b] (kRet TT [(.val false (.seq 3 ki)),(.val false (.seq 3 ki))] [(false,.val .bool)] Tryz.f52.results.toList) m0 (st52_0 a0 a1 v0_2)))=bournelaw0_SameInts_l0 n a0 a1 m0 from funext fun v0_2=>ih v0_2]
  first | rfl | kernel_rfl
theorem bournelaw0_SameInts_eq (n:Nat) (x:DPs [(.val false (.seq 3 ki)),(.val false (.seq 3 ki))]):funE TT [(.val false (.seq 3 ki)),(.val false (.seq 3 ki))] [(false,.val .bool)] (opE TT OVS NTS DFS MTS G52 n) H52 Tryz.f52.ntmps Tryz.f52.results.toList b52 n x=bournelaw0_SameInts n x.1 x.2.1:=by
 refine Eq.trans (b:=bournelaw0_SameInts_h n (fun a0 a1 m v0_2=>(loopAt (opE TT OVS NTS DFS MTS G52 n) Tryz.f52.ntmps H52 n b52 [.r,.r,.l,.r,.b] (kRet TT [(.val false (.seq 3 ki)),(.val false (.seq 3 ki))] [(false,.val .bool)] Tryz.f52.results.toList) m (st52_0 a0 a1 v0_2))) x.1 x.2.1) (by kernel_rfl) ?_
 try rw [show (fun a0 a1 m v0_2=>(loopAt (opE TT OVS NTS DFS MTS G52 n) Tryz.f52.ntmps H52 n b52 [.r,.r,.l,.r,.b] (kRet TT [(.val false (.seq 3 ki)),(.val false (.seq 3 ki))] [(false,.val .bool)] Tryz.f52.results.toList) m (st52_0 a0 a1 v0_2)))=(fun a0 a1 m v0_2=>bournelaw0_SameInts_l0 n a0 a1 m v0_2) from funext fun a0=>funext fun a1=>funext fun m=>funext fun v0_2=>bournelaw0_SameInts_l0_ok n a0 a1 m v0_2]
 first | rfl | kernel_rfl
noncomputable def c52:Con:=⟨[(.val false (.seq 3 ki)),(.val false (.seq 3 ki))],[(false,.val .bool)],fun n x=>bournelaw0_SameInts n x.1 x.2.1⟩
theorem c52_F (n:Nat) (a0:List Int) (a1:List Int):c52.F n (a0,a1,())=bournelaw0_SameInts n a0 a1:=rfl
theorem c52_ok:ConOK Tryz.prog 52 c52:=funE_ok TT_ok mixed Tryz.func52 (body:=b52) rfl rfl (by decide +kernel) (fun n=>opE_ok TT_ok OVS_ok NTS DFS MTS_ok (G:=G52) (GOK.nil) n) (H:=H52) fun n x y h=>(bournelaw0_SameInts_eq n x).trans h
noncomputable def b29:Go.Code:=Tryz.f29.body.getD .skip
def H29:HL:=[]
noncomputable def G29 (F52:CT c52):List (Nat×Con):=[(52,⟨c52.ps,c52.rs,F52⟩)]
noncomputable def bournelaw0_SameOut_g (n:Nat) (F52:CT c52) (a0:Int×Bool×List Int) (a1:Int×Bool×List Int):Option Bool :=
 bif a0.fst == a1.fst then bif a0.snd.fst == a1.snd.fst then Option.bind (α:=Bool) (F52 n (a0.snd.snd,a1.snd.snd,())) fun r0↦some r0 else some false else some false
theorem bournelaw0_SameOut_eq (n:Nat) (F52:CT c52) (x:DPs [(.val true (.pair ki (.pair .bool (.seq 3 ki)))),(.val true (.pair ki (.pair .bool (.seq 3 ki))))]):funE TT [(.val true (.pair ki (.pair .bool (.seq 3 ki)))),(.val true (.pair ki (.pair .bool (.seq 3 ki))))] [(false,.val .bool)] (opE TT OVS NTS DFS MTS (G29 F52) n) H29 Tryz.f29.ntmps Tryz.f29.results.toList b29 n x=bournelaw0_SameOut_g n F52 x.1 x.2.1:=by
 kernel_rfl
noncomputable def bournelaw0_SameOut (n:Nat) (a0:Int×Bool×List Int) (a1:Int×Bool×List Int):Option Bool:=bournelaw0_SameOut_g n c52.F a0 a1
noncomputable def c29:Con:=⟨[(.val true (.pair ki (.pair .bool (.seq 3 ki)))),(.val true (.pair ki (.pair .bool (.seq 3 ki))))],[(false,.val .bool)],fun n x=>bournelaw0_SameOut n x.1 x.2.1⟩
theorem c29_F (n:Nat) (a0:Int×Bool×List Int) (a1:Int×Bool×List Int):c29.F n (a0,a1,())=bournelaw0_SameOut n a0 a1:=rfl
theorem c29_ok:ConOK Tryz.prog 29 c29:=funE_ok TT_ok mixed Tryz.func29 (body:=b29) rfl rfl (by decide +kernel) (fun n=>opE_ok TT_ok OVS_ok NTS DFS MTS_ok (G:=G29 c52.F) (GOK.cons c52_ok (GOK.nil)) n) (H:=H29) fun n x y h=>(bournelaw0_SameOut_eq n c52.F x).trans h
noncomputable def st18_0 (a0:List (tR)) (a1:List (tR)) (v0_2:Int):LS:=({ env:=[(nat_lit 0,vS (nat_lit 53) (ki.pair (ki.pair ((ki.pair ki).pair (ki.pair (Ty.bool.pair (Ty.seq (nat_lit 3) ki)))))) a0),(nat_lit 1,vS (nat_lit 53) (ki.pair (ki.pair ((ki.pair ki).pair (ki.pair (Ty.bool.pair (Ty.seq (nat_lit 3) ki)))))) a1),(nat_lit 5,vI v0_2)],heap:=nl (Nat×Option HV),next:=nat_lit 0,pins:=[] })
noncomputable def b18:Go.Code:=Tryz.f18.body.getD .skip
def H18:HL:=[(4,[0,1,5],[])]
noncomputable def G18 (F29:CT c29):List (Nat×Con):=[(29,⟨c29.ps,c29.rs,F29⟩)]
noncomputable def bournelaw0_SameResults_l0_step (n:Nat) (F29:CT c29) (a0:List (tR)) (a1:List (tR)) (ih0:(Int)→Option Bool) (v0_2:Int):Option Bool :=
 bif decide (v0_2 < (a0.length:Int)) then if (0:Int)≤v0_2∧v0_2 < (a0.length:Int) then if (0:Int)≤v0_2∧v0_2 < (a1.length:Int) then bif (a0.getD v0_2.toNat ((0:Int),(0:Int),((0:Int),(0:Int)),(0:Int),false,nl Int)).fst != (a1.getD v0_2.toNat ((0:Int),(0:Int),((0:Int),(0:Int)),(0:Int),false,nl Int)).fst then some false else if (0:Int)≤v0_2∧v0_2 < (a0.length:Int) then if (0:Int)≤v0_2∧v0_2 < (a1.length:Int) then bif (a0.getD v0_2.toNat ((0:Int),(0:Int),((0:Int),(0:Int)),(0:Int),false,nl Int)).snd.fst != (a1.getD v0_2.toNat ((0:Int),(0:Int),((0:Int),(0:Int)),(0:Int),false,nl Int)).snd.fst then some false else if (0:Int)≤v0_2∧v0_2 < (a0.length:Int) then if (0:Int)≤v0_2∧v0_2 < (a1.length:Int) then bif !((a0.getD v0_2.toNat ((0:Int),(0:Int),((0:Int),(0:Int)),(0:Int),false,nl Int)).snd.snd.fst.fst == (a1.getD v0_2.toNat ((0:Int),(0:Int),((0:Int),(0:Int)),(0:Int),false,nl Int)).snd.snd.fst.fst&&((a0.getD v0_2.toNat ((0:Int),(0:Int),((0:Int),(0:Int)),(0:Int),false,nl Int)).snd.snd.fst.snd == (a1.getD v0_2.toNat ((0:Int),(0:Int),((0:Int),(0:Int)),(0:Int),false,nl Int)).snd.snd.fst.snd&&true)) then some false else if (0:Int)≤v0_2∧v0_2 < (a0.length:Int) then if (0:Int)≤v0_2∧v0_2 < (a1.length:Int) then Option.bind (α:=Bool) (F29 n ((a0.getD v0_2.toNat ((0:Int),(0:Int),((0:Int),(0:Int)),(0:Int),false,nl Int)).snd.snd.snd,(a1.getD v0_2.toNat ((0:Int),(0:Int),((0:Int),(0:Int)),(0:Int),false,nl Int)).snd.snd.snd,())) fun r0↦bif !r0 then some false else ih0 (IntKind.i64.wrap (v0_2 + (1:Int))) else none else none else none else none else none else none else none else none else some true
noncomputable def bournelaw0_SameResults_l0 (n:Nat) (F29:CT c29) (a0:List (tR)) (a1:List (tR)):Nat→(Int)→Option Bool
 | 0,_=>none
 | m0 + 1,v0_2=>bournelaw0_SameResults_l0_step n F29 a0 a1 (bournelaw0_SameResults_l0 n F29 a0 a1 m0) v0_2
noncomputable def bournelaw0_SameResults_h (n:Nat) (F29:CT c29) (h0:(List (tR))→(List (tR))→Nat→(Int)→Option Bool) (a0:List (tR)) (a1:List (tR)):Option Bool :=
 bif (a0.length:Int) != (a1.length:Int) then some false else h0 a0 a1 n (0:Int)
noncomputable def bournelaw0_SameResults_g (n:Nat) (F29:CT c29) (a0:List (tR)) (a1:List (tR)):Option Bool:=bournelaw0_SameResults_h n F29 (fun a0 a1 m v0_2=>bournelaw0_SameResults_l0 n F29 a0 a1 m v0_2) a0 a1
theorem bournelaw0_SameResults_l0_ok (n:Nat) (F29:CT c29) (a0:List (tR)) (a1:List (tR)):∀ (m0:Nat) (v0_2:Int),(loopAt (opE TT OVS NTS DFS MTS (G18 F29) n) Tryz.f18.ntmps H18 n b18 [.r,.r,.l,.r,.b] (kRet TT [(.val false (.seq 53 kR)),(.val false (.seq 53 kR))] [(false,.val .bool)] Tryz.f18.results.toList) m0 (st18_0 a0 a1 v0_2))=bournelaw0_SameResults_l0 n F29 a0 a1 m0 v0_2:=by
 intro m0
 induction m0 with
 | zero=>intros; kernel_rfl
 | succ m0 ih =>
  intro v0_2
  refine Eq.trans (b:=bournelaw0_SameResults_l0_step n F29 a0 a1 (fun v0_2=>(loopAt (opE TT OVS NTS DFS MTS (G18 F29) n) Tryz.f18.ntmps H18 n b18 [.r,.r,.l,.r,.b] (kRet TT [(.val false (.seq 53 kR)),(.val false (.seq 53 kR))] [(false,.val .bool)] Tryz.f18.results.toList) m0 (st18_0 a0 a1 v0_2))) v0_2) (by kernel_rfl) ?_
  rw [show (fun v0_2=>(loopAt (opE TT OVS NTS DFS MTS (G18 F29) n) Tryz.f18.ntmps H18 n b18 [.r,.r,.l,.r,.b] (kRet TT [(.val false (.seq 53 kR)),(.val false (.seq 53 kR))] [(false,.val .bool)] Tryz.f18.results.toList) m0 (st18_0 a0 a1 v0_2)))=bournelaw0_SameResults_l0 n F29 a0 a1 m0 from funext fun v0_2=>ih v0_2]
  first | rfl | kernel_rfl
theorem bournelaw0_SameResults_eq (n:Nat) (F29:CT c29) (x:DPs [(.val false (.seq 53 kR)),(.val false (.seq 53 kR))]):funE TT [(.val false (.seq 53 kR)),(.val false (.seq 53 kR))] [(false,.val .bool)] (opE TT OVS NTS DFS MTS (G18 F29) n) H18 Tryz.f18.ntmps Tryz.f18.results.toList b18 n x=bournelaw0_SameResults_g n F29 x.1 x.2.1:=by
 refine Eq.trans (b:=bournelaw0_SameResults_h n F29 (fun a0 a1 m v0_2=>(loopAt (opE TT OVS NTS DFS MTS (G18 F29) n) Tryz.f18.ntmps H18 n b18 [.r,.r,.l,.r,.b] (kRet TT [(.val false (.seq 53 kR)),(.val false (.seq 53 kR))] [(false,.val .bool)] Tryz.f18.results.toList) m (st18_0 a0 a1 v0_2))) x.1 x.2.1) (by kernel_rfl) ?_
 try rw [show (fun a0 a1 m v0_2=>(loopAt (opE TT OVS NTS DFS MTS (G18 F29) n) Tryz.f18.ntmps H18 n b18 [.r,.r,.l,.r,.b] (kRet TT [(.val false (.seq 53 kR)),(.val false (.seq 53 kR))] [(false,.val .bool)] Tryz.f18.results.toList) m (st18_0 a0 a1 v0_2)))=(fun a0 a1 m v0_2=>bournelaw0_SameResults_l0 n F29 a0 a1 m v0_2) from funext fun a0=>funext fun a1=>funext fun m=>funext fun v0_2=>bournelaw0_SameResults_l0_ok n F29 a0 a1 m v0_2]
 first | rfl | kernel_rfl
noncomputable def bournelaw0_SameResults (n:Nat) (a0:List (tR)) (a1:List (tR)):Option Bool:=bournelaw0_SameResults_g n c29.F a0 a1
noncomputable def c18:Con:=⟨[(.val false (.seq 53 kR)),(.val false (.seq 53 kR))],[(false,.val .bool)],fun n x=>bournelaw0_SameResults n x.1 x.2.1⟩
theorem c18_F (n:Nat) (a0:List (tR)) (a1:List (tR)):c18.F n (a0,a1,())=bournelaw0_SameResults n a0 a1:=rfl
theorem c18_ok:ConOK Tryz.prog 18 c18:=funE_ok TT_ok mixed Tryz.func18 (body:=b18) rfl rfl (by decide +kernel) (fun n=>opE_ok TT_ok OVS_ok NTS DFS MTS_ok (G:=G18 c29.F) (GOK.cons c29_ok (GOK.nil)) n) (H:=H18) fun n x y h=>(bournelaw0_SameResults_eq n c29.F x).trans h
noncomputable def st20_0 (a0:List (tI)) (a1:List (tI)) (v0_2:Int):LS:=({ env:=[(nat_lit 0,vS (nat_lit 60) kI a0),(nat_lit 1,vS (nat_lit 60) kI a1),(nat_lit 5,vI v0_2)],heap:=nl (Nat×Option HV),next:=nat_lit 0,pins:=[] })
noncomputable def b20:Go.Code:=Tryz.f20.body.getD .skip
def H20:HL:=[(4,[0,1,5],[])]
noncomputable def G20:List (Nat×Con):=[]
noncomputable def bournelaw0_SameItems_l0_step (n:Nat) (a0:List (tI)) (a1:List (tI)) (ih0:(Int)→Option Bool) (v0_2:Int):Option Bool :=
 bif decide (v0_2 < (a0.length:Int)) then if (0:Int)≤v0_2∧v0_2 < (a0.length:Int) then if (0:Int)≤v0_2∧v0_2 < (a1.length:Int) then bif !((a0.getD v0_2.toNat ((0:Int),(0:Int),(0:Int),(0:Int))).fst == (a1.getD v0_2.toNat ((0:Int),(0:Int),(0:Int),(0:Int))).fst&&((a0.getD v0_2.toNat ((0:Int),(0:Int),(0:Int),(0:Int))).snd.fst == (a1.getD v0_2.toNat ((0:Int),(0:Int),(0:Int),(0:Int))).snd.fst&&((a0.getD v0_2.toNat ((0:Int),(0:Int),(0:Int),(0:Int))).snd.snd.fst == (a1.getD v0_2.toNat ((0:Int),(0:Int),(0:Int),(0:Int))).snd.snd.fst&&((a0.getD v0_2.toNat ((0:Int),(0:Int),(0:Int),(0:Int))).snd.snd.snd == (a1.getD v0_2.toNat ((0:Int),(0:Int),(0:Int),(0:Int))).snd.snd.snd&&true)))) then some false else ih0 (IntKind.i64.wrap (v0_2 + (1:Int))) else none else none else some true
noncomputable def bournelaw0_SameItems_l0 (n:Nat) (a0:List (tI)) (a1:List (tI)):Nat→(Int)→Option Bool
 | 0,_=>none
 | m0 + 1,v0_2=>bournelaw0_SameItems_l0_step n a0 a1 (bournelaw0_SameItems_l0 n a0 a1 m0) v0_2
noncomputable def bournelaw0_SameItems_h (n:Nat) (h0:(List (tI))→(List (tI))→Nat→(Int)→Option Bool) (a0:List (tI)) (a1:List (tI)):Option Bool :=
 bif (a0.length:Int) != (a1.length:Int) then some false else h0 a0 a1 n (0:Int)
noncomputable def bournelaw0_SameItems (n:Nat) (a0:List (tI)) (a1:List (tI)):Option Bool:=bournelaw0_SameItems_h n (fun a0 a1 m v0_2=>bournelaw0_SameItems_l0 n a0 a1 m v0_2) a0 a1
theorem bournelaw0_SameItems_l0_ok (n:Nat) (a0:List (tI)) (a1:List (tI)):∀ (m0:Nat) (v0_2:Int),(loopAt (opE TT OVS NTS DFS MTS G20 n) Tryz.f20.ntmps H20 n b20 [.r,.r,.l,.r,.b] (kRet TT [(.val false (.seq 60 kI)),(.val false (.seq 60 kI))] [(false,.val .bool)] Tryz.f20.results.toList) m0 (st20_0 a0 a1 v0_2))=bournelaw0_SameItems_l0 n a0 a1 m0 v0_2:=by
 intro m0
 induction m0 with
 | zero=>intros; kernel_rfl
 | succ m0 ih =>
  intro v0_2
  refine Eq.trans (b:=bournelaw0_SameItems_l0_step n a0 a1 (fun v0_2=>(loopAt (opE TT OVS NTS DFS MTS G20 n) Tryz.f20.ntmps H20 n b20 [.r,.r,.l,.r,.b] (kRet TT [(.val false (.seq 60 kI)),(.val false (.seq 60 kI))] [(false,.val .bool)] Tryz.f20.results.toList) m0 (st20_0 a0 a1 v0_2))) v0_2) (by kernel_rfl) ?_
  rw [show (fun v0_2=>(loopAt (opE TT OVS NTS DFS MTS G20 n) Tryz.f20.ntmps H20 n b20 [.r,.r,.l,.r,.b] (kRet TT [(.val false (.seq 60 kI)),(.val false (.seq 60 kI))] [(false,.val .bool)] Tryz.f20.results.toList) m0 (st20_0 a0 a1 v0_2)))=bournelaw0_SameItems_l0 n a0 a1 m0 from funext fun v0_2=>ih v0_2]
  first | rfl | kernel_rfl
theorem bournelaw0_SameItems_eq (n:Nat) (x:DPs [(.val false (.seq 60 kI)),(.val false (.seq 60 kI))]):funE TT [(.val false (.seq 60 kI)),(.val false (.seq 60 kI))] [(false,.val .bool)] (opE TT OVS NTS DFS MTS G20 n) H20 Tryz.f20.ntmps Tryz.f20.results.toList b20 n x=bournelaw0_SameItems n x.1 x.2.1:=by
 refine Eq.trans (b:=bournelaw0_SameItems_h n (fun a0 a1 m v0_2=>(loopAt (opE TT OVS NTS DFS MTS G20 n) Tryz.f20.ntmps H20 n b20 [.r,.r,.l,.r,.b] (kRet TT [(.val false (.seq 60 kI)),(.val false (.seq 60 kI))] [(false,.val .bool)] Tryz.f20.results.toList) m (st20_0 a0 a1 v0_2))) x.1 x.2.1) (by kernel_rfl) ?_
 try rw [show (fun a0 a1 m v0_2=>(loopAt (opE TT OVS NTS DFS MTS G20 n) Tryz.f20.ntmps H20 n b20 [.r,.r,.l,.r,.b] (kRet TT [(.val false (.seq 60 kI)),(.val false (.seq 60 kI))] [(false,.val .bool)] Tryz.f20.results.toList) m (st20_0 a0 a1 v0_2)))=(fun a0 a1 m v0_2=>bournelaw0_SameItems_l0 n a0 a1 m v0_2) from funext fun a0=>funext fun a1=>funext fun m=>funext fun v0_2=>bournelaw0_SameItems_l0_ok n a0 a1 m v0_2]
 first | rfl | kernel_rfl
noncomputable def c20:Con:=⟨[(.val false (.seq 60 kI)),(.val false (.seq 60 kI))],[(false,.val .bool)],fun n x=>bournelaw0_SameItems n x.1 x.2.1⟩
theorem c20_F (n:Nat) (a0:List (tI)) (a1:List (tI)):c20.F n (a0,a1,())=bournelaw0_SameItems n a0 a1:=rfl
theorem c20_ok:ConOK Tryz.prog 20 c20:=funE_ok TT_ok mixed Tryz.func20 (body:=b20) rfl rfl (by decide +kernel) (fun n=>opE_ok TT_ok OVS_ok NTS DFS MTS_ok (G:=G20) (GOK.nil) n) (H:=H20) fun n x y h=>(bournelaw0_SameItems_eq n x).trans h
noncomputable def b19:Go.Code:=Tryz.f19.body.getD .skip
def H19:HL:=[]
noncomputable def G19:List (Nat×Con):=[]
noncomputable def bournelaw0_Num (n:Nat) (a0:Int):Option Int :=
 some a0
theorem bournelaw0_Num_eq (n:Nat) (x:DPs [(.val false ki)]):funE TT [(.val false ki)] [(false,.val ki)] (opE TT OVS NTS DFS MTS G19 n) H19 Tryz.f19.ntmps Tryz.f19.results.toList b19 n x=bournelaw0_Num n x.1:=by
 kernel_rfl
noncomputable def c19:Con:=⟨[(.val false ki)],[(false,.val ki)],fun n x=>bournelaw0_Num n x.1⟩
theorem c19_F (n:Nat) (a0:Int):c19.F n (a0,())=bournelaw0_Num n a0:=rfl
theorem c19_ok:ConOK Tryz.prog 19 c19:=funE_ok TT_ok mixed Tryz.func19 (body:=b19) rfl rfl (by decide +kernel) (fun n=>opE_ok TT_ok OVS_ok NTS DFS MTS_ok (G:=G19) (GOK.nil) n) (H:=H19) fun n x y h=>(bournelaw0_Num_eq n x).trans h
noncomputable def b27:Go.Code:=Tryz.f27.body.getD .skip
def H27:HL:=[]
noncomputable def G27:List (Nat×Con):=[]
noncomputable def bournelaw21_count (n:Nat) (a0:Int) (a1:Int):Option (tC) :=
 some ((List.replicate (1:Nat) ((0:Int),(0:Int),(0:Int),(0:Int),nl Int,(0:Int))).set (0:Nat) ((0:Int),(0:Int),(10:Int),(0:Int),nl Int,(0:Int)),a0,a1,(2:Int),(1:Int))
theorem bournelaw21_count_eq (n:Nat) (x:DPs [(.val false ki),(.val false ki)]):funE TT [(.val false ki),(.val false ki)] [(true,.val (.pair (.seq 58 kQ) kI))] (opE TT OVS NTS DFS MTS G27 n) H27 Tryz.f27.ntmps Tryz.f27.results.toList b27 n x=bournelaw21_count n x.1 x.2.1:=by
 kernel_rfl
noncomputable def c27:Con:=⟨[(.val false ki),(.val false ki)],[(true,.val (.pair (.seq 58 kQ) kI))],fun n x=>bournelaw21_count n x.1 x.2.1⟩
theorem c27_F (n:Nat) (a0:Int) (a1:Int):c27.F n (a0,a1,())=bournelaw21_count n a0 a1:=rfl
theorem c27_ok:ConOK Tryz.prog 27 c27:=funE_ok TT_ok mixed Tryz.func27 (body:=b27) rfl rfl (by decide +kernel) (fun n=>opE_ok TT_ok OVS_ok NTS DFS MTS_ok (G:=G27) (GOK.nil) n) (H:=H27) fun n x y h=>(bournelaw21_count_eq n x).trans h
noncomputable def b28:Go.Code:=Tryz.f28.body.getD .skip
def H28:HL:=[]
noncomputable def G28:List (Nat×Con):=[]
noncomputable def bournelaw21_item (n:Nat) (a0:Int) (a1:Int) (a2:Int) (a3:Int):Option (tI) :=
 some (a0,a1,a2,a3)
theorem bournelaw21_item_eq (n:Nat) (x:DPs [(.val false ki),(.val false ki),(.val false ki),(.val false ki)]):funE TT [(.val false ki),(.val false ki),(.val false ki),(.val false ki)] [(true,.val kI)] (opE TT OVS NTS DFS MTS G28 n) H28 Tryz.f28.ntmps Tryz.f28.results.toList b28 n x=bournelaw21_item n x.1 x.2.1 x.2.2.1 x.2.2.2.1:=by
 kernel_rfl
noncomputable def c28:Con:=⟨[(.val false ki),(.val false ki),(.val false ki),(.val false ki)],[(true,.val kI)],fun n x=>bournelaw21_item n x.1 x.2.1 x.2.2.1 x.2.2.2.1⟩
theorem c28_F (n:Nat) (a0:Int) (a1:Int) (a2:Int) (a3:Int):c28.F n (a0,a1,a2,a3,())=bournelaw21_item n a0 a1 a2 a3:=rfl
theorem c28_ok:ConOK Tryz.prog 28 c28:=funE_ok TT_ok mixed Tryz.func28 (body:=b28) rfl rfl (by decide +kernel) (fun n=>opE_ok TT_ok OVS_ok NTS DFS MTS_ok (G:=G28) (GOK.nil) n) (H:=H28) fun n x y h=>(bournelaw21_item_eq n x).trans h
end Go.Proofs.YtohnakoineakdaaGreat
