/- Functions of the program as plain Lean functions, printed by a program of our own. -/
import Derived.Test.YtjdlancjbdmkhaaQAb
import Derived.Test.YtjdlancjbdmkhaaQChkA
namespace Go.Proofs.Ytjdlancjbdmkhaa
noncomputable section
open Go Go.Ev
set_option maxRecDepth 100000
set_option linter.unusedVariables false
def st57_0 (a0:tC) (a1:List (tI)) (a2:List Int) (v0_5:Int) (v0_6:List (Int×Bool)):LS:=({ env:=[(nat_lit 0,some (AV.sv false [CV.iptr ((Ty.seq (nat_lit 50) kQ).pair kI) a0 (nat_lit 0)])),(nat_lit 1,vS (nat_lit 44) kI a1),(nat_lit 2,vS (nat_lit 3) ki a2),(nat_lit 7,vO (nat_lit 0)),(nat_lit 12,vS (nat_lit 44) kI a1),(nat_lit 13,vI (a1.length:Int)),(nat_lit 14,vI v0_5)],heap:=[(nat_lit 0,some (HV.map v0_6))],next:=nat_lit 1,pins:=[] })
def b57:Go.Code:=Try.f57.body.getD .skip
def H57:HL:=[(3,[0,1,2,7,12,13,14],[])]
def G57 (F42:CT c42) (F20:CT c20) (F39:CT c39) (F70:CT c70):List (Nat×Con):=[(42,⟨c42.ps,c42.rs,F42⟩),(20,⟨c20.ps,c20.rs,F20⟩),(39,⟨c39.ps,c39.rs,F39⟩),(70,⟨c70.ps,c70.rs,F70⟩)]
def spec_may_l0_step (n:Nat) (F42:CT c42) (F20:CT c20) (F39:CT c39) (F70:CT c70) (a0:tC) (a1:List (tI)) (a2:List Int) (ih0:(Int)→(List (Int×Bool))→Option Bool) (v0_5:Int) (v0_6:List (Int×Bool)):Option Bool :=
 bif decide (v0_5 < (a1.length:Int)) then if (0:Int)≤v0_5∧v0_5 < (a1.length:Int) then Option.bind (α:=Bool) (F42 n (a1.getD v0_5.toNat ((0:Int),(0:Int),(0:Int),(0:Int)),())) fun r0↦bif !r0 then some false else if wfI (a1.getD v0_5.toNat ((0:Int),(0:Int),(0:Int),(0:Int))).snd.snd.fst=true then bif mget v0_6 (a1.getD v0_5.toNat ((0:Int),(0:Int),(0:Int),(0:Int))).snd.snd.fst then some false else if wfI (a1.getD v0_5.toNat ((0:Int),(0:Int),(0:Int),(0:Int))).snd.snd.fst=true then ih0 (IntKind.i64.wrap (v0_5 + (1:Int))) (((a1.getD v0_5.toNat ((0:Int),(0:Int),(0:Int),(0:Int))).snd.snd.fst,true) :: v0_6) else none else none else none else Option.bind (α:=Bool) (F20 n (a0,())) fun r1↦bif r1 then bif decide ((a1.length:Int)≤(8192:Int)) then Option.bind (α:=Bool) (F39 n (a2,(),())) fun r2↦bif !r2 then Option.bind (α:=Bool) (F70 n (a2,())) fun r3↦some r3 else some false else some false else some false
def spec_may_l0 (n:Nat) (F42:CT c42) (F20:CT c20) (F39:CT c39) (F70:CT c70) (a0:tC) (a1:List (tI)) (a2:List Int):Nat→(Int)→(List (Int×Bool))→Option Bool
 | 0,_,_=>none
 | m0 + 1,v0_5,v0_6=>spec_may_l0_step n F42 F20 F39 F70 a0 a1 a2 (spec_may_l0 n F42 F20 F39 F70 a0 a1 a2 m0) v0_5 v0_6
def spec_may_h (n:Nat) (F42:CT c42) (F20:CT c20) (F39:CT c39) (F70:CT c70) (h0:(tC)→(List (tI))→(List Int)→Nat→(Int)→(List (Int×Bool))→Option Bool) (a0:tC) (a1:List (tI)) (a2:List Int):Option Bool :=
 h0 a0 a1 a2 n (0:Int) (nl (Int×Bool))
def spec_may_g (n:Nat) (F42:CT c42) (F20:CT c20) (F39:CT c39) (F70:CT c70) (a0:tC) (a1:List (tI)) (a2:List Int):Option Bool:=spec_may_h n F42 F20 F39 F70 (fun a0 a1 a2 m v0_5 v0_6=>spec_may_l0 n F42 F20 F39 F70 a0 a1 a2 m v0_5 v0_6) a0 a1 a2
theorem spec_may_l0_ok (n:Nat) (F42:CT c42) (F20:CT c20) (F39:CT c39) (F70:CT c70) (a0:tC) (a1:List (tI)) (a2:List Int):∀ (m0:Nat) (v0_5:Int) (v0_6:List (Int×Bool)),(loopAt (opE TT OVS NTS DFS MTS (G57 F42 F20 F39 F70) n) Try.f57.ntmps H57 n b57 [.r,.r,.l,.r,.b] (kRet TT [(.iref (.pair (.seq 50 kQ) kI)),(.val false (.seq 44 kI)),(.val false (.seq 3 ki))] [(false,.val .bool)] Try.f57.results.toList) m0 (st57_0 a0 a1 a2 v0_5 v0_6))=spec_may_l0 n F42 F20 F39 F70 a0 a1 a2 m0 v0_5 v0_6:=by
 intro m0
 induction m0 with
 | zero=>intros; kernel_rfl
 | succ m0 ih =>
  intro v0_5 v0_6
  refine Eq.trans (b:=spec_may_l0_step n F42 F20 F39 F70 a0 a1 a2 (fun v0_5 v0_6=>(loopAt (opE TT OVS NTS DFS MTS (G57 F42 F20 F39 F70) n) Try.f57.ntmps H57 n b57 [.r,.r,.l,.r,.b] (kRet TT [(.iref (.pair (.seq 50 kQ) kI)),(.val false (.seq 44 kI)),(.val false (.seq 3 ki))] [(false,.val .bool)] Try.f57.results.toList) m0 (st57_0 a0 a1 a2 v0_5 v0_6))) v0_5 v0_6) (by kernel_rfl) ?_
  rw [show (fun v0_5 v0_6=>(loopAt (opE TT OVS NTS DFS MTS (G57 F42 F20 F39 F70) n) Try.f57.ntmps H57 n b57 [.r,.r,.l,.r,.b] (kRet TT [(.iref (.pair (.seq 50 kQ) kI)),(.val false (.seq 44 kI)),(.val false (.seq 3 ki))] [(false,.val .bool)] Try.f57.results.toList) m0 (st57_0 a0 a1 a2 v0_5 v0_6)))=spec_may_l0 n F42 F20 F39 F70 a0 a1 a2 m0 from funext fun v0_5=>funext fun v0_6=>ih v0_5 v0_6]
  first | rfl | kernel_rfl
theorem spec_may_eq (n:Nat) (F42:CT c42) (F20:CT c20) (F39:CT c39) (F70:CT c70) (x:DPs [(.iref (.pair (.seq 50 kQ) kI)),(.val false (.seq 44 kI)),(.val false (.seq 3 ki))]):funE TT [(.iref (.pair (.seq 50 kQ) kI)),(.val false (.seq 44 kI)),(.val false (.seq 3 ki))] [(false,.val .bool)] (opE TT OVS NTS DFS MTS (G57 F42 F20 F39 F70) n) H57 Try.f57.ntmps Try.f57.results.toList b57 n x=spec_may_g n F42 F20 F39 F70 x.1 x.2.1 x.2.2.1:=by
 refine Eq.trans (b:=spec_may_h n F42 F20 F39 F70 (fun a0 a1 a2 m v0_5 v0_6=>(loopAt (opE TT OVS NTS DFS MTS (G57 F42 F20 F39 F70) n) Try.f57.ntmps H57 n b57 [.r,.r,.l,.r,.b] (kRet TT [(.iref (.pair (.seq 50 kQ) kI)),(.val false (.seq 44 kI)),(.val false (.seq 3 ki))] [(false,.val .bool)] Try.f57.results.toList) m (st57_0 a0 a1 a2 v0_5 v0_6))) x.1 x.2.1 x.2.2.1) (by kernel_rfl) ?_
 try rw [show (fun a0 a1 a2 m v0_5 v0_6=>(loopAt (opE TT OVS NTS DFS MTS (G57 F42 F20 F39 F70) n) Try.f57.ntmps H57 n b57 [.r,.r,.l,.r,.b] (kRet TT [(.iref (.pair (.seq 50 kQ) kI)),(.val false (.seq 44 kI)),(.val false (.seq 3 ki))] [(false,.val .bool)] Try.f57.results.toList) m (st57_0 a0 a1 a2 v0_5 v0_6)))=(fun a0 a1 a2 m v0_5 v0_6=>spec_may_l0 n F42 F20 F39 F70 a0 a1 a2 m v0_5 v0_6) from funext fun a0=>funext fun a1=>funext fun a2=>funext fun m=>funext fun v0_5=>funext fun v0_6=>spec_may_l0_ok n F42 F20 F39 F70 a0 a1 a2 m v0_5 v0_6]
 first | rfl | kernel_rfl
def spec_may (n:Nat) (a0:tC) (a1:List (tI)) (a2:List Int):Option Bool:=spec_may_g n c42.F c20.F c39.F c70.F a0 a1 a2
def c57:Con:=⟨[(.iref (.pair (.seq 50 kQ) kI)),(.val false (.seq 44 kI)),(.val false (.seq 3 ki))],[(false,.val .bool)],fun n x=>spec_may n x.1 x.2.1 x.2.2.1⟩
theorem c57_ok:ConOK Try.prog 57 c57:=funE_ok TT_ok mixed Try.func57 (body:=b57) rfl rfl (by decide +kernel) (fun n=>opE_ok TT_ok OVS_ok NTS DFS MTS_ok (G:=G57 c42.F c20.F c39.F c70.F) (GOK.cons c42_ok (GOK.cons c20_ok (GOK.cons c39_ok (GOK.cons c70_ok (GOK.nil))))) n) (H:=H57) fun n x y h=>(spec_may_eq n c42.F c20.F c39.F c70.F x).trans h
end
end Go.Proofs.Ytjdlancjbdmkhaa
