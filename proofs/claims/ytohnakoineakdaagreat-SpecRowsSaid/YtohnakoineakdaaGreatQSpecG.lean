/- Functions of the program as plain Lean functions, printed by a program of our own. -/
import Derived.Test.YtohnakoineakdaaGreatQAb
import Derived.Test.YtohnakoineakdaaGreatQSpecA
import Derived.Test.YtohnakoineakdaaGreatQSpecB
import Derived.Test.YtohnakoineakdaaGreatQSpecC
import Derived.Test.YtohnakoineakdaaGreatQSoL
import Derived.Test.YtohnakoineakdaaGreatQSpecZ
import Derived.Test.YtohnakoineakdaaGreatQSoC
import Derived.Test.YtohnakoineakdaaGreatQSpecD
import Derived.Test.YtohnakoineakdaaGreatQSpecE
import Derived.Test.YtohnakoineakdaaGreatQSpecF
import Derived.Test.YtohnakoineakdaaGreatQSpecV
import Derived.Test.YtohnakoineakdaaGreatQSpecW
namespace Go.Proofs.YtohnakoineakdaaGreat
open Go Go.Ev
set_option maxRecDepth 100000
set_option linter.unusedVariables false
noncomputable def b6:Go.Code:=Tryz.f6.body.getD .skip
def H6:HL:=[]
noncomputable def G6 (F25:CT c25) (F26:CT c26) (F14w:CT c14w) (F16w:CT c16w) (F18:CT c18) (F19:CT c19) (F20:CT c20):List (Nat×Con):=[(25,⟨c25.ps,c25.rs,F25⟩),(26,⟨c26.ps,c26.rs,F26⟩),(14,⟨c14w.ps,c14w.rs,F14w⟩),(16,⟨c16w.ps,c16w.rs,F16w⟩),(18,⟨c18.ps,c18.rs,F18⟩),(19,⟨c19.ps,c19.rs,F19⟩),(20,⟨c20.ps,c20.rs,F20⟩)]
noncomputable def bournelaw21_SpecRows_g (n:Nat) (F25:CT c25) (F26:CT c26) (F14w:CT c14w) (F16w:CT c16w) (F18:CT c18) (F19:CT c19) (F20:CT c20) (a0:tC) (a1:List (tI)) (a2:Int) (a3:Int):Option Bool :=
 Option.bind (α:=Bool) (F25 n ()) fun r0↦bif !r0 then some false else bif decide (IntKind.u64.wrap (IntKind.i64.wrap ((a1.length:Int) + (1:Int))) ≠ (0:Int)) then if (0:Int) ≤ IntKind.i64.wrap ((IntKind.u64.wrap a2).tmod (IntKind.u64.wrap (IntKind.i64.wrap ((a1.length:Int) + (1:Int))))) ∧ IntKind.i64.wrap ((IntKind.u64.wrap a2).tmod (IntKind.u64.wrap (IntKind.i64.wrap ((a1.length:Int) + (1:Int))))) ≤ (a1.length:Int) ∧ (a1.length:Int) ≤ (a1.length:Int) then Option.bind (α:=List (tI)) (F26 n (List.drop (IntKind.i64.wrap ((IntKind.u64.wrap a2).tmod (IntKind.u64.wrap (IntKind.i64.wrap ((a1.length:Int) + (1:Int)))))).toNat (List.take (a1.length:Int).toNat a1),())) fun r1↦if (0:Int) ≤ (0:Int) ∧ (0:Int) ≤ IntKind.i64.wrap ((IntKind.u64.wrap a2).tmod (IntKind.u64.wrap (IntKind.i64.wrap ((a1.length:Int) + (1:Int))))) ∧ IntKind.i64.wrap ((IntKind.u64.wrap a2).tmod (IntKind.u64.wrap (IntKind.i64.wrap ((a1.length:Int) + (1:Int))))) ≤ (a1.length:Int) then if (r1.length + (List.drop (Int.toNat (0:Int)) (List.take (IntKind.i64.wrap ((IntKind.u64.wrap a2).tmod (IntKind.u64.wrap (IntKind.i64.wrap ((a1.length:Int) + (1:Int)))))).toNat a1)).length) * (32:Nat) ≤ (140737488355328:Nat) ∧ (0:Nat) < (32:Nat) then Option.bind (α:=List (tR)×Int) (F14w n (a0,a1,(-4398046511104:Int),a3,())) fun r2↦Option.bind (α:=List (tR)×Int) (F14w n (a0,r1 ++ List.drop (Int.toNat (0:Int)) (List.take (IntKind.i64.wrap ((IntKind.u64.wrap a2).tmod (IntKind.u64.wrap (IntKind.i64.wrap ((a1.length:Int) + (1:Int)))))).toNat a1),(-4398046511104:Int),a3,())) fun r3↦Option.bind (α:=List (tI)×Int) (F16w n (a0,a1,a3,())) fun r4↦Option.bind (α:=List (tI)×Int) (F16w n (a0,r1 ++ List.drop (Int.toNat (0:Int)) (List.take (IntKind.i64.wrap ((IntKind.u64.wrap a2).tmod (IntKind.u64.wrap (IntKind.i64.wrap ((a1.length:Int) + (1:Int)))))).toNat a1),a3,())) fun r5↦Option.bind (α:=Bool) (F18 n (r2.fst,r3.fst,())) fun r6↦bif r6 then Option.bind (α:=Int) (F19 n (r2.snd,())) fun r7↦Option.bind (α:=Int) (F19 n (r3.snd,())) fun r8↦bif r7 == r8 then Option.bind (α:=Bool) (F20 n (r4.fst,r5.fst,())) fun r9↦bif r9 then Option.bind (α:=Int) (F19 n (r4.snd,())) fun r10↦Option.bind (α:=Int) (F19 n (r5.snd,())) fun r11↦some (r10 == r11) else some false else some false else some false else none else none else none else none
theorem bournelaw21_SpecRows_eq (n:Nat) (F25:CT c25) (F26:CT c26) (F14w:CT c14w) (F16w:CT c16w) (F18:CT c18) (F19:CT c19) (F20:CT c20) (x:DPs [(.val true (.pair (.seq 58 kQ) kI)),(.val false (.seq 60 kI)),(.val false ki),(.val false ki)]):funE TT [(.val true (.pair (.seq 58 kQ) kI)),(.val false (.seq 60 kI)),(.val false ki),(.val false ki)] [(false,.val .bool)] (opE TT OVS NTS DFS MTS (G6 F25 F26 F14w F16w F18 F19 F20) n) H6 Tryz.f6.ntmps Tryz.f6.results.toList b6 n x=bournelaw21_SpecRows_g n F25 F26 F14w F16w F18 F19 F20 x.1 x.2.1 x.2.2.1 x.2.2.2.1:=by
 kernel_rfl
noncomputable def bournelaw21_SpecRows (n:Nat) (a0:tC) (a1:List (tI)) (a2:Int) (a3:Int):Option Bool:=bournelaw21_SpecRows_g n c25.F c26.F c14w.F c16w.F c18.F c19.F c20.F a0 a1 a2 a3
noncomputable def c6:Con:=⟨[(.val true (.pair (.seq 58 kQ) kI)),(.val false (.seq 60 kI)),(.val false ki),(.val false ki)],[(false,.val .bool)],fun n x=>bournelaw21_SpecRows n x.1 x.2.1 x.2.2.1 x.2.2.2.1⟩
theorem c6_F (n:Nat) (a0:tC) (a1:List (tI)) (a2:Int) (a3:Int):c6.F n (a0,a1,a2,a3,())=bournelaw21_SpecRows n a0 a1 a2 a3:=rfl
theorem c6_ok:ConOK Tryz.prog 6 c6:=funE_ok TT_ok mixed Tryz.func6 (body:=b6) rfl rfl (by decide +kernel) (fun n=>opE_ok TT_ok OVS_ok NTS DFS MTS_ok (G:=G6 c25.F c26.F c14w.F c16w.F c18.F c19.F c20.F) (GOK.cons c25_ok (GOK.cons c26_ok (GOK.cons c14w_ok (GOK.cons c16w_ok (GOK.cons c18_ok (GOK.cons c19_ok (GOK.cons c20_ok (GOK.nil)))))))) n) (H:=H6) fun n x y h=>(bournelaw21_SpecRows_eq n c25.F c26.F c14w.F c16w.F c18.F c19.F c20.F x).trans h
end Go.Proofs.YtohnakoineakdaaGreat
