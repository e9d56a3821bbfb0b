/- What every program answers that is one: worked out whole. -/
import Derived.Test.YtohnakoineakdaaGreatQSpecF
namespace Go.Proofs.YtohnakoineakdaaGreat
open Go Go.Ev
set_option maxRecDepth 100000
set_option linter.unusedVariables false
noncomputable def b25:Go.Code:=Tryz.f25.body.getD .skip
noncomputable def G25:List (Nat×Con):=[(27,c27),(28,c28),(14,c14),(16,c16),(18,c18),(20,c20),(19,c19)]
noncomputable def bournelaw21_awake (n:Nat):Option Bool:=some true
noncomputable def c25:Con:=⟨[],[(false,.val .bool)],fun n x=>bournelaw21_awake n⟩
theorem c25_F (n:Nat):c25.F n ()=some true:=rfl
theorem bournelaw21_awake_eq (n:Nat) (x:DPs []):funE TT [] [(false,.val .bool)] (opE TT OVS NTS DFS MTS G25 (n + 40)) [] Tryz.f25.ntmps Tryz.f25.results.toList b25 n x=some true:=by
 kernel_rfl
theorem c25_ok:ConOK Tryz.prog 25 c25:=funE_ok TT_ok mixed Tryz.func25 (body:=b25) rfl rfl (by decide +kernel) (fun n=>opE_ok TT_ok OVS_ok NTS DFS MTS_ok (G:=G25) (GOK.cons c27_ok (GOK.cons c28_ok (GOK.cons c14_ok (GOK.cons c16_ok (GOK.cons c18_ok (GOK.cons c20_ok (GOK.cons c19_ok (GOK.nil)))))))) (n + 40)) (H:=[]) fun n x y h=>(bournelaw21_awake_eq n x).trans h
end Go.Proofs.YtohnakoineakdaaGreat
