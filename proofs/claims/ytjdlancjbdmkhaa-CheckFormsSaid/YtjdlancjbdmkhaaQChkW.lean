/- What every program answers that is one: worked out whole. -/
import Derived.Test.YtjdlancjbdmkhaaQChkE
namespace Go.Proofs.Ytjdlancjbdmkhaa
open Go Go.Ev
set_option maxRecDepth 100000
set_option linter.unusedVariables false
noncomputable def b7:Go.Code:=Try.f7.body.getD .skip
noncomputable def G7:List (Nat×Con):=[(13,c13v),(8,c8),(11,c11),(10,c10),(12,c12),(9,c9)]
noncomputable def bournelaw22_awake (n:Nat):Option Bool:=some true
noncomputable def c7:Con:=⟨[],[(false,.val .bool)],fun n x=>bournelaw22_awake n⟩
theorem c7_F (n:Nat):c7.F n ()=some true:=rfl
theorem bournelaw22_awake_eq (n:Nat) (x:DPs []):funE TT [] [(false,.val .bool)] (opE TT OVS NTS DFS MTS G7 (n + 300)) [] Try.f7.ntmps Try.f7.results.toList b7 n x=some true:=by
 kernel_rfl
theorem c7_ok:ConOK Try.prog 7 c7:=funE_ok TT_ok mixed Try.func7 (body:=b7) rfl rfl (by decide +kernel) (fun n=>opE_ok TT_ok OVS_ok NTS DFS MTS_ok (G:=G7) (GOK.cons c13v_ok (GOK.cons c8_ok (GOK.cons c11_ok (GOK.cons c10_ok (GOK.cons c12_ok (GOK.cons c9_ok (GOK.nil))))))) (n + 300)) (H:=[]) fun n x y h=>(bournelaw22_awake_eq n x).trans h
end Go.Proofs.Ytjdlancjbdmkhaa
