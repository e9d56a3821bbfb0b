/- The row of SpecForms, out of its contract and its truth. -/
import Derived.Test.YtohnakoineakdaaGreatRows
import Derived.Test.YtohnakoineakdaaGreatQEvRow
import Derived.Test.YtohnakoineakdaaGreatQM1
import Derived.WalkKit
import Derived.ProofKit
import Derived.OpenShut
import Derived.ShutString
import Derived.ChangeOld
import Derived.Below
import Derived.SizedLaws
import Derived.ChangeSlices
namespace Go.Proofs.YtohnakoineakdaaGreat.specForms
open Go Go.Ev Go.ChangeShapes Go.WideShapes Go.ChangeAt Go.RowKit
open Go.ChangeMaps (open_string shut_string)
set_option linter.unusedVariables false

theorem own : ownKnob Tryz.prog.godebug = none := by kernel_rfl

set_option maxRecDepth 100000 in
theorem lifted (os : Os) (started : os.Started) (H : Type) (enc : TypeId × Value → H) :
    ReturnsInHanded {} Tryz.checked os 10 .any (Rows.specFormsSpec.pre6 enc Tryz.prog Tryz.f10 Rows.specFormsRow.domain false) (Rows.specFormsSpec.post enc Tryz.prog Tryz.f10 false true false false) := by
  refine returnsInHanded_of_change_sized (C := Tryz.checked) own started (by kernel_rfl) Tryz.func10
    (ChangeSpec.witness6 (enc := enc) (C := Tryz.checked) false ⟨#[], #[.int .i64 0, .int .i64 0], []⟩ 8 (by kernel_rfl) (by kernel_rfl) (by kernel_rfl) (by kernel_rfl)) ?_
  intro W base args ds gs before hval0 hW hcnd hsz0 _
  have hsz : (DataW.weightsEach Tryz.prog (Tryz.f10.params.toList ++ Rows.specFormsSpec.plain.varTypes Tryz.prog) (ds ++ gs)).all (· ≤ reachBytes) = true := hsz0
  have hval : ∀ (j : Nat) t v, Tryz.f10.params[j]? = some t → args[j]? = some v → Value.okWide Tryz.prog W .any base t v := hval0
  have hW' := hW
  obtain ⟨p, q, hA0, hV, rfl, hfz, hnd⟩ := hW
  have hA : DataW.TrodAll enc Tryz.prog W 0 (fun _ => true) true Tryz.f10.params.toList args.toList ds p := hA0
  rw [Tryz.params10] at hA hval hsz
  obtain ⟨v0, vs0, d0, ds0, p0, q0, hargs, rfl, rfl, h0, r0⟩ := trodAll_cons hA
  obtain ⟨v1, vs1, d1, ds1, p1, q1, rfl, rfl, rfl, h1, r1⟩ := trodAll_cons r0
  obtain ⟨rfl, rfl, rfl⟩ := trodAll_nil r1
  obtain rfl : args = #[v0, v1] := by cases args; simp_all
  obtain ⟨rfl, rfl⟩ := trodVars_none hV
  obtain ⟨a0, rfl, rfl, rfl, w0⟩ := open_int Tryz.underlying3 (hval 0 3 v0 rfl rfl) h0
  obtain ⟨a1, rfl, rfl, rfl, w1⟩ := open_int Tryz.underlying3 (hval 1 3 v1 rfl rfl) h1
  clear hA0 hval0 hsz0 hsz
  have hF : c10.F 1099511627900 (a0, a1, ()) = some true := (c10_F 1099511627900 a0 a1).trans (Forms_true 1099511627900 (by omega) a0 a1)
  refine (c10_ok.2 1099511627900 _ true hF W (fun _ => False) (fun b => b < W.heap.size) _ [] (fun b hb => hb.elim id False.elim) List.nodup_nil (fun b hb => absurd hb List.not_mem_nil) ⟨_, _, [], [], rfl, rfl, ⟨⟨_, rfl, rfl⟩, rfl⟩, ⟨_, _, [], [], rfl, rfl, ⟨⟨_, rfl, rfl⟩, rfl⟩, ⟨rfl, rfl⟩⟩⟩).mono fun e W' hpost => ?_
  obtain ⟨us, I', B1, B2, he, h1, -, honly, -⟩ := hpost
  obtain ⟨v, vs, rfl, ⟨hrd, -⟩, hpk⟩ := h1
  have hv : v = .bool true := by have := hpk.symm.trans hrd; cases this; rfl
  subst hv
  have bel : Below W.heap.size W W' := ⟨honly.os, honly.tape, honly.output, honly.size, fun k hk => honly.block k hk List.not_mem_nil⟩
  subst he
  exact ⟨_, rfl, _, _, _, [], _, [], hW', trodAll_mk1 (shut_bool Tryz.underlying4 _), (trodAll_cons_mk (shut_int Tryz.underlying3 w0) (trodAll_cons_mk (shut_int Tryz.underlying3 w1) trodAll_mk0)), rfl, bel.frame _, fun h => by cases h⟩

theorem over : Rows.specFormsRow.holds Tryz.pinned (OpenSpec.ofChange Rows.specFormsSpec) :=
  OpenClaim.holds_of_wide 10 Tryz.f10 rfl rfl rfl rfl rfl rfl rfl ⟨rfl, rfl, rfl, rfl, rfl⟩ rfl rfl rfl rfl rfl (by kernel_rfl) Tryz.func10 (by kernel_rfl)
    (of_decide_eq_true (by kernel_rfl)) (by unfold Func.isWrapper; first | (rw [if_pos (by decide +kernel)]; kernel_rfl) | (rw [if_neg (by decide +kernel)]; exact ⟨rfl, rfl⟩))
    (fun os started H enc _ => lifted os started H enc)
theorem proved : Rows.SpecFormsSaid := over
#print axioms proved
end Go.Proofs.YtohnakoineakdaaGreat.specForms

namespace Go.Proofs.YtohnakoineakdaaGreat
/-- The row, under a short name, for the claim. -/
theorem specForms_holds : Rows.SpecFormsSaid := specForms.proved
end Go.Proofs.YtohnakoineakdaaGreat

