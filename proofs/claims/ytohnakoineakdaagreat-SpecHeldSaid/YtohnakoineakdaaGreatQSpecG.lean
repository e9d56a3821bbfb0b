/- Functions of the program as plain Lean functions, printed by a program of our own. -/
import Derived.Test.YtohnakoineakdaaGreatQAb
import Derived.Test.YtohnakoineakdaaGreatQSpecA
import Derived.Test.YtohnakoineakdaaGreatQSpecB
import Derived.Test.YtohnakoineakdaaGreatQSpecC
import Derived.Test.YtohnakoineakdaaGreatQSoL
import Derived.Test.YtohnakoineakdaaGreatQSpecZ
import Derived.Test.YtohnakoineakdaaGreatQSoC
import Derived.Test.YtohnakoineakdaaGreatQSpecD
import Derived.Test.YtohnakoineakdaaGreatQSpecE
import Derived.Test.YtohnakoineakdaaGreatQSpecF
import Derived.Test.YtohnakoineakdaaGreatQSpecV
import Derived.Test.YtohnakoineakdaaGreatQSpecW
namespace Go.Proofs.YtohnakoineakdaaGreat
open Go Go.Ev
set_option maxRecDepth 100000
set_option linter.unusedVariables false
noncomputable def b5:Go.Code:=Tryz.f5.body.getD .skip
def H5:HL:=[]
noncomputable def G5 (F25:CT c25) (F16w:CT c16w) (F19:CT c19) (F14w:CT c14w) (F18:CT c18) (F20:CT c20):List (Nat×Con):=[(25,⟨c25.ps,c25.rs,F25⟩),(16,⟨c16w.ps,c16w.rs,F16w⟩),(19,⟨c19.ps,c19.rs,F19⟩),(14,⟨c14w.ps,c14w.rs,F14w⟩),(18,⟨c18.ps,c18.rs,F18⟩),(20,⟨c20.ps,c20.rs,F20⟩)]
noncomputable def bournelaw21_SpecHeld_g (n:Nat) (F25:CT c25) (F16w:CT c16w) (F19:CT c19) (F14w:CT c14w) (F18:CT c18) (F20:CT c20) (a0:tC) (a1:List (tI)) (a2:Int):Option Bool :=
 Option.bind (α:=Bool) (F25 n ()) fun r0↦bif !r0 then some false else Option.bind (α:=List (tI)×Int) (F16w n (a0,a1,a2,())) fun r1↦Option.bind (α:=Int) (F19 n (r1.snd,())) fun r2↦bif r2 != (0:Int) then some ((r1.fst.length:Int) == (0:Int)) else Option.bind (α:=List (tR)×Int) (F14w n (a0,a1,a2,(4398046511104:Int),())) fun r3↦Option.bind (α:=List (tR)×Int) (F14w n (a0,r1.fst,a2,(4398046511104:Int),())) fun r4↦Option.bind (α:=List (tI)×Int) (F16w n (a0,r1.fst,a2,())) fun r5↦Option.bind (α:=List (tI)×Int) (F16w n (a0,a1,(4398046511104:Int),())) fun r6↦Option.bind (α:=Int) (F19 n (r3.snd,())) fun r7↦bif r7 == (0:Int) then Option.bind (α:=Int) (F19 n (r4.snd,())) fun r8↦bif r8 == (0:Int) then Option.bind (α:=Bool) (F18 n (r3.fst,r4.fst,())) fun r9↦bif r9 then Option.bind (α:=Int) (F19 n (r5.snd,())) fun r10↦bif r10 == (0:Int) then Option.bind (α:=Bool) (F20 n (r5.fst,r1.fst,())) fun r11↦bif r11 then Option.bind (α:=Int) (F19 n (r6.snd,())) fun r12↦bif r12 == (0:Int) then bif (r6.fst.length:Int) == (0:Int) then some (decide ((r1.fst.length:Int) ≤ (a1.length:Int))) else some false else some false else some false else some false else some false else some false else some false
theorem bournelaw21_SpecHeld_eq (n:Nat) (F25:CT c25) (F16w:CT c16w) (F19:CT c19) (F14w:CT c14w) (F18:CT c18) (F20:CT c20) (x:DPs [(.val true (.pair (.seq 58 kQ) kI)),(.val false (.seq 60 kI)),(.val false ki)]):funE TT [(.val true (.pair (.seq 58 kQ) kI)),(.val false (.seq 60 kI)),(.val false ki)] [(false,.val .bool)] (opE TT OVS NTS DFS MTS (G5 F25 F16w F19 F14w F18 F20) n) H5 Tryz.f5.ntmps Tryz.f5.results.toList b5 n x=bournelaw21_SpecHeld_g n F25 F16w F19 F14w F18 F20 x.1 x.2.1 x.2.2.1:=by
 kernel_rfl
noncomputable def bournelaw21_SpecHeld (n:Nat) (a0:tC) (a1:List (tI)) (a2:Int):Option Bool:=bournelaw21_SpecHeld_g n c25.F c16w.F c19.F c14w.F c18.F c20.F a0 a1 a2
noncomputable def c5:Con:=⟨[(.val true (.pair (.seq 58 kQ) kI)),(.val false (.seq 60 kI)),(.val false ki)],[(false,.val .bool)],fun n x=>bournelaw21_SpecHeld n x.1 x.2.1 x.2.2.1⟩
theorem c5_F (n:Nat) (a0:tC) (a1:List (tI)) (a2:Int):c5.F n (a0,a1,a2,())=bournelaw21_SpecHeld n a0 a1 a2:=rfl
theorem c5_ok:ConOK Tryz.prog 5 c5:=funE_ok TT_ok mixed Tryz.func5 (body:=b5) rfl rfl (by decide +kernel) (fun n=>opE_ok TT_ok OVS_ok NTS DFS MTS_ok (G:=G5 c25.F c16w.F c19.F c14w.F c18.F c20.F) (GOK.cons c25_ok (GOK.cons c16w_ok (GOK.cons c19_ok (GOK.cons c14w_ok (GOK.cons c18_ok (GOK.cons c20_ok (GOK.nil))))))) n) (H:=H5) fun n x y h=>(bournelaw21_SpecHeld_eq n c25.F c16w.F c19.F c14w.F c18.F c20.F x).trans h
end Go.Proofs.YtohnakoineakdaaGreat
