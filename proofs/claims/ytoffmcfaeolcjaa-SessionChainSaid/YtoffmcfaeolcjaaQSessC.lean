/- What every program answers that is one: worked out whole. -/
import Derived.Test.YtoffmcfaeolcjaaQSessB
namespace Go.Proofs.Ytoffmcfaeolcjaa
open Go Go.Ev
set_option maxRecDepth 100000
set_option linter.unusedVariables false
noncomputable def b45 : Go.Code := Try.f45.body.getD .skip
noncomputable def G45 : List (Nat × Con) := [(46, c46), (37, c37), (17, c17), (41, c41)]
noncomputable def bournelaw6_awake (n : Nat) : Option Bool := some true
noncomputable def c45 : Con := ⟨[], [(false, .val .bool)], fun n x => bournelaw6_awake n⟩
theorem c45_F (n : Nat) : c45.F n () = some true := rfl
theorem bournelaw6_awake_eq (n : Nat) (x : DPs []) : funE TT [] [(false, .val .bool)] (opE TT OVS G45 (n + 40)) [] Try.f45.ntmps Try.f45.results.toList b45 n x = some true := by
  kernel_rfl
theorem c45_ok : ConOK Try.prog 45 c45 := funE_ok TT_ok mixed Try.func45 (body := b45) rfl rfl (by decide +kernel) (fun n => opE_ok TT_ok OVS_ok (G := G45) (GOK.cons c46_ok (GOK.cons c37_ok (GOK.cons c17_ok (GOK.cons c41_ok (GOK.nil))))) (n + 40)) (H := []) fun n x y h => (bournelaw6_awake_eq n x).trans h
end Go.Proofs.Ytoffmcfaeolcjaa
