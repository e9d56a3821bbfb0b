/- The row of SpecSlides, out of its contract and its truth. -/
import Derived.Test.YtohnakoineakdaaGreatRows
import Derived.Test.YtohnakoineakdaaGreatQEvRow
import Derived.Test.YtohnakoineakdaaGreatQQ1
import Derived.WalkKit
import Derived.ProofKit
import Derived.OpenShut
import Derived.ShutString
import Derived.ChangeOld
import Derived.Below
import Derived.SizedLaws
import Derived.ChangeSlices
namespace Go.Proofs.YtohnakoineakdaaGreat.specSlides
open Go Go.Ev Go.ChangeShapes Go.WideShapes Go.ChangeAt Go.RowKit
open Go.ChangeMaps (open_string shut_string)
set_option linter.unusedVariables false
theorem own:ownKnob Tryz.prog.godebug=none:=by kernel_rfl
theorem laidOut:laidOutB Tryz.prog=true:=by kernel_rfl
set_option maxRecDepth 100000 in
theorem lifted (os:Os) (started:os.Started) (H:Type) (enc:TypeId×Value→H) :
  ReturnsInHanded {} Tryz.checked os 7 .any (Rows.specSlidesSpec.pre6 enc Tryz.prog Tryz.f7 Rows.specSlidesRow.domain false) (Rows.specSlidesSpec.post enc Tryz.prog Tryz.f7 false true false false):=by
 refine returnsInHanded_of_change_sized (C:=Tryz.checked) own started (by kernel_rfl) Tryz.func7
  (ChangeSpec.witness6 (enc:=enc) (C:=Tryz.checked) false ⟨#[],#[.slice none 0 0,.int .i64 0,.int .i64 0,.int .i64 0],[]⟩ 8 (by kernel_rfl) (by kernel_rfl) (by kernel_rfl) (by kernel_rfl)) ?_
 intro W base args ds gs before hval0 hW hcnd hsz0 _
 have hsz:(DataW.weightsEach Tryz.prog (Tryz.f7.params.toList ++ Rows.specSlidesSpec.plain.varTypes Tryz.prog) (ds ++ gs)).all (· ≤ reachBytes)=true:=hsz0
 have hval:∀ (j:Nat) t v,Tryz.f7.params[j]?=some t→args[j]?=some v→Value.okWide Tryz.prog W .any base t v:=hval0
 have hW':=hW
 obtain ⟨p,q,hA0,hV,rfl,hfz,hnd⟩:=hW
 have hA:DataW.TrodAll enc Tryz.prog W 0 (fun _=>true) true Tryz.f7.params.toList args.toList ds p:=hA0
 rw [Tryz.params7] at hA hval hsz
 obtain ⟨v0,vs0,d0,ds0,p0,q0,hargs,rfl,rfl,h0,r0⟩:=trodAll_cons hA
 obtain ⟨v1,vs1,d1,ds1,p1,q1,rfl,rfl,rfl,h1,r1⟩:=trodAll_cons r0
 obtain ⟨v2,vs2,d2,ds2,p2,q2,rfl,rfl,rfl,h2,r2⟩:=trodAll_cons r1
 obtain ⟨v3,vs3,d3,ds3,p3,q3,rfl,rfl,rfl,h3,r3⟩:=trodAll_cons r2
 obtain ⟨rfl,rfl,rfl⟩:=trodAll_nil r3
 obtain rfl:args=#[v0,v1,v2,v3]:=by cases args; simp_all
 obtain ⟨rfl,rfl⟩:=trodVars_none hV
 obtain ⟨a0,len0,cap0,rfl⟩:=okWide_slice Tryz.underlying49 (hval 0 49 v0 rfl rfl)
 have k0:=h0
 have lt0:∀ x ∈ p0,x.block < W.heap.size:=by obtain ⟨m,hm⟩:=k0; exact DataW.trod_lt m _ _ _ hm
 obtain ⟨m0,g0⟩:=h0
 obtain ⟨z0,w0,y0⟩:=trod_rd m0 9 (.seq 3 (.int .i64)) 49 _ _ _ (by kernel_rfl) g0 (fun x hx=>of_decide_eq_true (List.all_eq_true.1 hsz x (DataW.weights_mem_each (j:=0) rfl rfl x hx)))
 have l0:(z0:List (D (.int .i64))).length < 4611686018427387904:=by
  have q:=y0.1
  rw [show Tryz.prog.bytesOf 3=8 by kernel_rfl] at q
  unfold reachBytes at q
  omega
 obtain ⟨a1,rfl,rfl,rfl,w1⟩:=open_int Tryz.underlying3 (hval 1 3 v1 rfl rfl) h1
 obtain ⟨a2,rfl,rfl,rfl,w2⟩:=open_int Tryz.underlying3 (hval 2 3 v2 rfl rfl) h2
 obtain ⟨a3,rfl,rfl,rfl,w3⟩:=open_int Tryz.underlying3 (hval 3 3 v3 rfl rfl) h3
 clear hA0 hval0 hsz0 hsz
 have hF:c7v.F 9007199254741100 (z0,a1,a2,a3,())=some true:=(c7v_F 9007199254741100 z0 a1 a2 a3).trans (Slides_true 9007199254741100 (by omega) z0 l0 a1 a2 a3)
 refine (c7v_ok.2 9007199254741100 _ true hF W (fun _=>False) (fun b=>b < W.heap.size) _ [] (fun b hb=>hb.elim id False.elim) List.nodup_nil (fun b hb=>absurd hb List.not_mem_nil) ⟨_,_,[],[],rfl,rfl,⟨⟨_,w0,rfl⟩,rfl⟩,⟨_,_,[],[],rfl,rfl,⟨⟨_,rfl,rfl⟩,rfl⟩,⟨_,_,[],[],rfl,rfl,⟨⟨_,rfl,rfl⟩,rfl⟩,⟨_,_,[],[],rfl,rfl,⟨⟨_,rfl,rfl⟩,rfl⟩,⟨rfl,rfl⟩⟩⟩⟩⟩).mono fun e W' hpost=>?_
 obtain ⟨us,I',B1,B2,he,h1,-,honly,-⟩:=hpost
 obtain ⟨v,vs,rfl,⟨hrd,-⟩,hpk⟩:=h1
 have hv:v=.bool true:=by have:=hpk.symm.trans hrd; cases this; rfl
 subst hv
 have bel:Below W.heap.size W W':=⟨honly.os,honly.tape,honly.output,honly.size,fun k hk=>honly.block k hk List.not_mem_nil⟩
 subst he
 exact ⟨_,rfl,_,_,_,[],_,[],hW',trodAll_mk1 (shut_bool Tryz.underlying4 _),(trodAll_cons_mk (Below.trod laidOut (by kernel_rfl) (of_decide_eq_true (by kernel_rfl)) k0 bel lt0) (trodAll_cons_mk (shut_int Tryz.underlying3 w1) (trodAll_cons_mk (shut_int Tryz.underlying3 w2) (trodAll_cons_mk (shut_int Tryz.underlying3 w3) trodAll_mk0)))),rfl,bel.frame _,fun h=>by cases h⟩
theorem over:Rows.specSlidesRow.holds Tryz.pinned (OpenSpec.ofChange Rows.specSlidesSpec) :=
 OpenClaim.holds_of_wide 7 Tryz.f7 rfl rfl rfl rfl rfl rfl rfl ⟨rfl,rfl,rfl,rfl,rfl⟩ rfl rfl rfl rfl rfl (by kernel_rfl) Tryz.func7 (by kernel_rfl)
  (of_decide_eq_true (by kernel_rfl)) (by unfold Func.isWrapper; first | (rw [if_pos (by decide +kernel)]; kernel_rfl) | (rw [if_neg (by decide +kernel)]; exact ⟨rfl,rfl⟩))
  (fun os started H enc _=>lifted os started H enc)
theorem proved:Rows.SpecSlidesSaid:=over
#print axioms proved
end Go.Proofs.YtohnakoineakdaaGreat.specSlides
namespace Go.Proofs.YtohnakoineakdaaGreat
theorem specSlides_holds:Rows.SpecSlidesSaid:=specSlides.proved
end Go.Proofs.YtohnakoineakdaaGreat
