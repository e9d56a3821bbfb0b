/- Functions of the program as plain Lean functions, printed by a program of our own. -/
import Derived.Test.YtjdlancjbdmkhaaQAb
import Derived.Test.YtjdlancjbdmkhaaQChkA
import Derived.Test.YtjdlancjbdmkhaaQChkM
import Derived.Test.YtjdlancjbdmkhaaQChkB
import Derived.Test.YtjdlancjbdmkhaaQChkF
import Derived.Test.YtjdlancjbdmkhaaQSoL
import Derived.Test.YtjdlancjbdmkhaaQSpecZ
import Derived.Test.YtjdlancjbdmkhaaQSoC
import Derived.Test.YtjdlancjbdmkhaaQChkD
import Derived.Test.YtjdlancjbdmkhaaQChkE
import Derived.Test.YtjdlancjbdmkhaaQChkW
namespace Go.Proofs.Ytjdlancjbdmkhaa
noncomputable section
open Go Go.Ev
set_option maxRecDepth 100000
set_option linter.unusedVariables false
def st3_0 (a1:ByteArray):LS:=({ env:=[(nat_lit 1,some (AV.sv false [CV.lit (Value.string a1)]))],heap:=nl (Nat×Option HV),next:=nat_lit 0,pins:=[] })
def b3:Go.Code:=Try.f3.body.getD .skip
def H3:HL:=[(1000010,[1],[])]
def G3 (F7:CT c7) (F8:CT c8) (F9:CT c9) (F10:CT c10) (F11:CT c11) (F12:CT c12) (F13v:CT c13v) (F14v:CT c14v):List (Nat×Con):=[(7,⟨c7.ps,c7.rs,F7⟩),(8,⟨c8.ps,c8.rs,F8⟩),(9,⟨c9.ps,c9.rs,F9⟩),(10,⟨c10.ps,c10.rs,F10⟩),(11,⟨c11.ps,c11.rs,F11⟩),(12,⟨c12.ps,c12.rs,F12⟩),(13,⟨c13v.ps,c13v.rs,F13v⟩),(14,⟨c14v.ps,c14v.rs,F14v⟩)]
def bournelaw22_CheckBack_j0_step (n:Nat) (F7:CT c7) (F8:CT c8) (F9:CT c9) (F10:CT c10) (F11:CT c11) (F12:CT c12) (F13v:CT c13v) (F14v:CT c14v) (a1:ByteArray):Option Bool :=
 Option.bind (α:=((tC)×Int×List Int×List Int×Int×List (tI)×ByteArray×Int)×Int) (F11 n (a1,())) fun r9↦Option.bind (α:=Int) (F9 n (r9.snd,())) fun r10↦bif r10 != (0:Int) then Option.bind (α:=Bool) (F12 n (r9.fst,((nl (tQ),(0:Int),(0:Int),(0:Int),(0:Int)),(0:Int),nl Int,nl Int,(0:Int),nl (tI),ByteArray.empty,(0:Int)),())) fun r11↦some r11 else Option.bind (α:=ByteArray×Int) (F8 n (r9.fst,())) fun r12↦Option.bind (α:=Int) (F9 n (r12.snd,())) fun r13↦bif r13 == (0:Int) then bif eqS r12.fst a1 then Option.bind (α:=Bool) (F10 n (r9.fst,())) fun r14↦some r14 else some false else some false
def bournelaw22_CheckBack_j0 (n:Nat) (F7:CT c7) (F8:CT c8) (F9:CT c9) (F10:CT c10) (F11:CT c11) (F12:CT c12) (F13v:CT c13v) (F14v:CT c14v) (a1:ByteArray):Option Bool:=bournelaw22_CheckBack_j0_step n F7 F8 F9 F10 F11 F12 F13v F14v a1
def bournelaw22_CheckBack_h (n:Nat) (F7:CT c7) (F8:CT c8) (F9:CT c9) (F10:CT c10) (F11:CT c11) (F12:CT c12) (F13v:CT c13v) (F14v:CT c14v) (h0:(ByteArray)→Option Bool) (a0:(tC)×Int×List Int×List Int×Int×List (tI)×ByteArray×Int) (a1:ByteArray):Option Bool :=
 Option.bind (α:=Bool) (F7 n ()) fun r0↦bif !r0 then some false else Option.bind (α:=ByteArray×Int) (F8 n (a0,())) fun r1↦Option.bind (α:=Int) (F9 n (r1.snd,())) fun r2↦Option.bind (α:=Bool) (F10 n (a0,())) fun r3↦bif !(r2 == (0:Int)) == r3 then some false else Option.bind (α:=Int) (F9 n (r1.snd,())) fun r4↦bif r4 == (0:Int) then bif eqS r1.fst (ByteArray.mk #[]) then some false else Option.bind (α:=Int) (F9 n (r1.snd,())) fun r5↦bif r5 == (0:Int) then Option.bind (α:=((tC)×Int×List Int×List Int×Int×List (tI)×ByteArray×Int)×Int) (F11 n (r1.fst,())) fun r6↦Option.bind (α:=Int) (F9 n (r6.snd,())) fun r7↦bif r7 != (0:Int) then some false else Option.bind (α:=Bool) (F12 n (r6.fst,a0,())) fun r8↦bif !r8 then some false else h0 a1 else h0 a1 else Option.bind (α:=Int) (F9 n (r1.snd,())) fun r15↦bif r15 == (0:Int) then Option.bind (α:=((tC)×Int×List Int×List Int×Int×List (tI)×ByteArray×Int)×Int) (F11 n (r1.fst,())) fun r16↦Option.bind (α:=Int) (F9 n (r16.snd,())) fun r17↦bif r17 != (0:Int) then some false else Option.bind (α:=Bool) (F12 n (r16.fst,a0,())) fun r18↦bif !r18 then some false else h0 a1 else h0 a1
def bournelaw22_CheckBack_g (n:Nat) (F7:CT c7) (F8:CT c8) (F9:CT c9) (F10:CT c10) (F11:CT c11) (F12:CT c12) (F13v:CT c13v) (F14v:CT c14v) (a0:(tC)×Int×List Int×List Int×Int×List (tI)×ByteArray×Int) (a1:ByteArray):Option Bool:=bournelaw22_CheckBack_h n F7 F8 F9 F10 F11 F12 F13v F14v (fun a1=>bournelaw22_CheckBack_j0 n F7 F8 F9 F10 F11 F12 F13v F14v a1) a0 a1
theorem bournelaw22_CheckBack_j0_ok (n:Nat) (F7:CT c7) (F8:CT c8) (F9:CT c9) (F10:CT c10) (F11:CT c11) (F12:CT c12) (F13v:CT c13v) (F14v:CT c14v) (a1:ByteArray):(jnR (codeE (opE TT OVS NTS DFS MTS (G3 F7 F8 F9 F10 F11 F12 F13v F14v) n) Try.f3.ntmps H3 n (codeAt b3 [.r,.r,.r,.r,.r])) (st3_0 a1) (kAt (opE TT OVS NTS DFS MTS (G3 F7 F8 F9 F10 F11 F12 F13v F14v) n) Try.f3.ntmps H3 n b3 [.r,.r,.r,.r,.r] (kRet TT [(.val true (.pair (.pair (.seq 50 kQ) kI) (.pair ki (.pair (.seq 3 ki) (.pair (.seq 3 ki) (.pair ki (.pair (.seq 44 kI) (.pair .str ki)))))))),(.val false .str)] [(false,.val .bool)] Try.f3.results.toList)))=bournelaw22_CheckBack_j0 n F7 F8 F9 F10 F11 F12 F13v F14v a1:=by
  refine Eq.trans (b:=bournelaw22_CheckBack_j0_step n F7 F8 F9 F10 F11 F12 F13v F14v a1) (by kernel_rfl) ?_
  first | rfl | kernel_rfl
theorem bournelaw22_CheckBack_eq (n:Nat) (F7:CT c7) (F8:CT c8) (F9:CT c9) (F10:CT c10) (F11:CT c11) (F12:CT c12) (F13v:CT c13v) (F14v:CT c14v) (x:DPs [(.val true (.pair (.pair (.seq 50 kQ) kI) (.pair ki (.pair (.seq 3 ki) (.pair (.seq 3 ki) (.pair ki (.pair (.seq 44 kI) (.pair .str ki)))))))),(.val false .str)]):funE TT [(.val true (.pair (.pair (.seq 50 kQ) kI) (.pair ki (.pair (.seq 3 ki) (.pair (.seq 3 ki) (.pair ki (.pair (.seq 44 kI) (.pair .str ki)))))))),(.val false .str)] [(false,.val .bool)] (opE TT OVS NTS DFS MTS (G3 F7 F8 F9 F10 F11 F12 F13v F14v) n) H3 Try.f3.ntmps Try.f3.results.toList b3 n x=bournelaw22_CheckBack_g n F7 F8 F9 F10 F11 F12 F13v F14v x.1 x.2.1:=by
 refine Eq.trans (b:=bournelaw22_CheckBack_h n F7 F8 F9 F10 F11 F12 F13v F14v (fun a1=>(jnR (codeE (opE TT OVS NTS DFS MTS (G3 F7 F8 F9 F10 F11 F12 F13v F14v) n) Try.f3.ntmps H3 n (codeAt b3 [.r,.r,.r,.r,.r])) (st3_0 a1) (kAt (opE TT OVS NTS DFS MTS (G3 F7 F8 F9 F10 F11 F12 F13v F14v) n) Try.f3.ntmps H3 n b3 [.r,.r,.r,.r,.r] (kRet TT [(.val true (.pair (.pair (.seq 50 kQ) kI) (.pair ki (.pair (.seq 3 ki) (.pair (.seq 3 ki) (.pair ki (.pair (.seq 44 kI) (.pair .str ki)))))))),(.val false .str)] [(false,.val .bool)] Try.f3.results.toList)))) x.1 x.2.1) (by kernel_rfl) ?_
 try rw [show (fun a1=>(jnR (codeE (opE TT OVS NTS DFS MTS (G3 F7 F8 F9 F10 F11 F12 F13v F14v) n) Try.f3.ntmps H3 n (codeAt b3 [.r,.r,.r,.r,.r])) (st3_0 a1) (kAt (opE TT OVS NTS DFS MTS (G3 F7 F8 F9 F10 F11 F12 F13v F14v) n) Try.f3.ntmps H3 n b3 [.r,.r,.r,.r,.r] (kRet TT [(.val true (.pair (.pair (.seq 50 kQ) kI) (.pair ki (.pair (.seq 3 ki) (.pair (.seq 3 ki) (.pair ki (.pair (.seq 44 kI) (.pair .str ki)))))))),(.val false .str)] [(false,.val .bool)] Try.f3.results.toList))))=(fun a1=>bournelaw22_CheckBack_j0 n F7 F8 F9 F10 F11 F12 F13v F14v a1) from funext fun a1=>bournelaw22_CheckBack_j0_ok n F7 F8 F9 F10 F11 F12 F13v F14v a1]
 first | rfl | kernel_rfl
def bournelaw22_CheckBack (n:Nat) (a0:(tC)×Int×List Int×List Int×Int×List (tI)×ByteArray×Int) (a1:ByteArray):Option Bool:=bournelaw22_CheckBack_g n c7.F c8.F c9.F c10.F c11.F c12.F c13v.F c14v.F a0 a1
def c3:Con:=⟨[(.val true (.pair (.pair (.seq 50 kQ) kI) (.pair ki (.pair (.seq 3 ki) (.pair (.seq 3 ki) (.pair ki (.pair (.seq 44 kI) (.pair .str ki)))))))),(.val false .str)],[(false,.val .bool)],fun n x=>bournelaw22_CheckBack n x.1 x.2.1⟩
theorem c3_F (n:Nat) (a0:(tC)×Int×List Int×List Int×Int×List (tI)×ByteArray×Int) (a1:ByteArray):c3.F n (a0,a1,())=bournelaw22_CheckBack n a0 a1:=rfl
theorem c3_ok:ConOK Try.prog 3 c3:=funE_ok TT_ok mixed Try.func3 (body:=b3) rfl rfl (by decide +kernel) (fun n=>opE_ok TT_ok OVS_ok NTS DFS MTS_ok (G:=G3 c7.F c8.F c9.F c10.F c11.F c12.F c13v.F c14v.F) (GOK.cons c7_ok (GOK.cons c8_ok (GOK.cons c9_ok (GOK.cons c10_ok (GOK.cons c11_ok (GOK.cons c12_ok (GOK.cons c13v_ok (GOK.cons c14v_ok (GOK.nil))))))))) n) (H:=H3) fun n x y h=>(bournelaw22_CheckBack_eq n c7.F c8.F c9.F c10.F c11.F c12.F c13v.F c14v.F x).trans h
end
end Go.Proofs.Ytjdlancjbdmkhaa
