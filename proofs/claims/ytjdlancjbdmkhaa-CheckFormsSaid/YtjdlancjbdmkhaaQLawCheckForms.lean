/- The row of CheckForms, out of its contract and its truth. -/
import Derived.Test.YtjdlancjbdmkhaaRows
import Derived.Test.YtjdlancjbdmkhaaQEvRow
import Derived.Test.YtjdlancjbdmkhaaQQ1
import Derived.WalkKit
import Derived.ProofKit
import Derived.OpenShut
import Derived.ShutString
import Derived.ChangeOld
import Derived.Below
import Derived.SizedLaws
import Derived.ChangeSlices
namespace Go.Proofs.Ytjdlancjbdmkhaa.checkForms
open Go Go.Ev Go.ChangeShapes Go.WideShapes Go.ChangeAt Go.RowKit
open Go.ChangeMaps (open_string shut_string)
set_option linter.unusedVariables false
theorem own:ownKnob Try.prog.godebug=none:=by kernel_rfl
set_option maxRecDepth 100000 in
theorem lifted (os:Os) (started:os.Started) (H:Type) (enc:TypeId×Value→H) :
  ReturnsInHanded {} Try.checked os 5 .any (Rows.checkFormsSpec.pre6 enc Try.prog Try.f5 Rows.checkFormsRow.domain false) (Rows.checkFormsSpec.post enc Try.prog Try.f5 false true false false):=by
 refine returnsInHanded_of_change_sized (C:=Try.checked) own started (by kernel_rfl) Try.func5
  (ChangeSpec.witness6 (enc:=enc) (C:=Try.checked) false ⟨#[],#[.int .i64 0,.int .i64 0],[]⟩ 8 (by kernel_rfl) (by kernel_rfl) (by kernel_rfl) (by kernel_rfl)) ?_
 intro W base args ds gs before hval0 hW hcnd hsz0 _
 have hsz:(DataW.weightsEach Try.prog (Try.f5.params.toList ++ Rows.checkFormsSpec.plain.varTypes Try.prog) (ds ++ gs)).all (· ≤ reachBytes)=true:=hsz0
 have hval:∀ (j:Nat) t v,Try.f5.params[j]?=some t→args[j]?=some v→Value.okWide Try.prog W .any base t v:=hval0
 have hW':=hW
 obtain ⟨p,q,hA0,hV,rfl,hfz,hnd⟩:=hW
 have hA:DataW.TrodAll enc Try.prog W 0 (fun _=>true) true Try.f5.params.toList args.toList ds p:=hA0
 rw [Try.params5] at hA hval hsz
 obtain ⟨v0,vs0,d0,ds0,p0,q0,hargs,rfl,rfl,h0,r0⟩:=trodAll_cons hA
 obtain ⟨v1,vs1,d1,ds1,p1,q1,rfl,rfl,rfl,h1,r1⟩:=trodAll_cons r0
 obtain ⟨rfl,rfl,rfl⟩:=trodAll_nil r1
 obtain rfl:args=#[v0,v1]:=by cases args; simp_all
 obtain ⟨rfl,rfl⟩:=trodVars_none hV
 obtain ⟨a0,rfl,rfl,rfl,w0⟩:=open_int Try.underlying3 (hval 0 3 v0 rfl rfl) h0
 obtain ⟨a1,rfl,rfl,rfl,w1⟩:=open_int Try.underlying3 (hval 1 3 v1 rfl rfl) h1
 clear hA0 hval0 hsz0 hsz
 have hF:c5.F 9007199254741100 (a0,a1,())=some true:=(c5_F 9007199254741100 a0 a1).trans (Forms_true 9007199254741100 (by omega) a0 a1)
 refine (c5_ok.2 9007199254741100 _ true hF W (fun _=>False) (fun b=>b < W.heap.size) _ [] (fun b hb=>hb.elim id False.elim) List.nodup_nil (fun b hb=>absurd hb List.not_mem_nil) ⟨_,_,[],[],rfl,rfl,⟨⟨_,rfl,rfl⟩,rfl⟩,⟨_,_,[],[],rfl,rfl,⟨⟨_,rfl,rfl⟩,rfl⟩,⟨rfl,rfl⟩⟩⟩).mono fun e W' hpost=>?_
 obtain ⟨us,I',B1,B2,he,h1,-,honly,-⟩:=hpost
 obtain ⟨v,vs,rfl,⟨hrd,-⟩,hpk⟩:=h1
 have hv:v=.bool true:=by have:=hpk.symm.trans hrd; cases this; rfl
 subst hv
 have bel:Below W.heap.size W W':=⟨honly.os,honly.tape,honly.output,honly.size,fun k hk=>honly.block k hk List.not_mem_nil⟩
 subst he
 exact ⟨_,rfl,_,_,_,[],_,[],hW',trodAll_mk1 (shut_bool Try.underlying4 _),(trodAll_cons_mk (shut_int Try.underlying3 w0) (trodAll_cons_mk (shut_int Try.underlying3 w1) trodAll_mk0)),rfl,bel.frame _,fun h=>by cases h⟩
theorem over:Rows.checkFormsRow.holds Try.pinned (OpenSpec.ofChange Rows.checkFormsSpec) :=
 OpenClaim.holds_of_wide 5 Try.f5 rfl rfl rfl rfl rfl rfl rfl ⟨rfl,rfl,rfl,rfl,rfl⟩ rfl rfl rfl rfl rfl (by kernel_rfl) Try.func5 (by kernel_rfl)
  (of_decide_eq_true (by kernel_rfl)) (by unfold Func.isWrapper; first | (rw [if_pos (by decide +kernel)]; kernel_rfl) | (rw [if_neg (by decide +kernel)]; exact ⟨rfl,rfl⟩))
  (fun os started H enc _=>lifted os started H enc)
theorem proved:Rows.CheckFormsSaid:=over
#print axioms proved
end Go.Proofs.Ytjdlancjbdmkhaa.checkForms
namespace Go.Proofs.Ytjdlancjbdmkhaa
theorem checkForms_holds:Rows.CheckFormsSaid:=checkForms.proved
end Go.Proofs.Ytjdlancjbdmkhaa
