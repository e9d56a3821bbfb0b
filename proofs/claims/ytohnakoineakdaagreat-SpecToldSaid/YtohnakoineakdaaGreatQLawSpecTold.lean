/- The row of SpecTold, out of its contract and its truth. -/
import Derived.Test.YtohnakoineakdaaGreatRows
import Derived.Test.YtohnakoineakdaaGreatQEvRow
import Derived.Test.YtohnakoineakdaaGreatQQ1
import Derived.WalkKit
import Derived.ProofKit
import Derived.OpenShut
import Derived.ShutString
import Derived.ChangeOld
import Derived.Below
import Derived.SizedLaws
import Derived.ChangeSlices
namespace Go.Proofs.YtohnakoineakdaaGreat.specTold
open Go Go.Ev Go.ChangeShapes Go.WideShapes Go.ChangeAt Go.RowKit
open Go.ChangeMaps (open_string shut_string)
set_option linter.unusedVariables false
theorem own:ownKnob Tryz.prog.godebug=none:=by kernel_rfl
theorem laidOut:laidOutB Tryz.prog=true:=by kernel_rfl
set_option maxRecDepth 100000 in
theorem lifted (os:Os) (started:os.Started) (H:Type) (enc:TypeId×Value→H) :
  ReturnsInHanded {} Tryz.checked os 11 .any (Rows.specToldSpec.pre6 enc Tryz.prog Tryz.f11 Rows.specToldRow.domain false) (Rows.specToldSpec.post enc Tryz.prog Tryz.f11 false true false false):=by
 refine returnsInHanded_of_change_sized (C:=Tryz.checked) own started (by kernel_rfl) Tryz.func11
  (ChangeSpec.witness6 (enc:=enc) (C:=Tryz.checked) false ⟨#[],#[.agg #[.slice none 0 0,.int .i64 0,.int .i64 0,.int .i64 0,.int .i64 0],.slice none 0 0,.int .i64 0],[]⟩ 8 (by kernel_rfl) (by kernel_rfl) (by kernel_rfl) (by kernel_rfl)) ?_
 intro W base args ds gs before hval0 hW hcnd hsz0 _
 have hsz:(DataW.weightsEach Tryz.prog (Tryz.f11.params.toList ++ Rows.specToldSpec.plain.varTypes Tryz.prog) (ds ++ gs)).all (· ≤ reachBytes)=true:=hsz0
 have hval:∀ (j:Nat) t v,Tryz.f11.params[j]?=some t→args[j]?=some v→Value.okWide Tryz.prog W .any base t v:=hval0
 have hW':=hW
 obtain ⟨p,q,hA0,hV,rfl,hfz,hnd⟩:=hW
 have hA:DataW.TrodAll enc Tryz.prog W 0 (fun _=>true) true Tryz.f11.params.toList args.toList ds p:=hA0
 rw [Tryz.params11] at hA hval hsz
 obtain ⟨v0,vs0,d0,ds0,p0,q0,hargs,rfl,rfl,h0,r0⟩:=trodAll_cons hA
 obtain ⟨v1,vs1,d1,ds1,p1,q1,rfl,rfl,rfl,h1,r1⟩:=trodAll_cons r0
 obtain ⟨v2,vs2,d2,ds2,p2,q2,rfl,rfl,rfl,h2,r2⟩:=trodAll_cons r1
 obtain ⟨rfl,rfl,rfl⟩:=trodAll_nil r2
 obtain rfl:args=#[v0,v1,v2]:=by cases args; simp_all
 obtain ⟨rfl,rfl⟩:=trodVars_none hV
 obtain ⟨a0,rfl,-⟩:=okWide_struct Tryz.underlying24 (hval 0 24 v0 rfl rfl)
 have k0:=h0
 have lt0:∀ x ∈ p0,x.block < W.heap.size:=by obtain ⟨m,hm⟩:=k0; exact DataW.trod_lt m _ _ _ hm
 obtain ⟨m0,g0⟩:=h0
 obtain ⟨z0,w0,y0⟩:=trod_rd m0 9 (.pair (.seq 58 (.pair (.int .i64) (.pair (.int .i64) (.pair (.int .i64) (.pair (.int .i64) (.pair (.seq 3 (.int .i64)) (.int .i64))))))) (.pair (.int .i64) (.pair (.int .i64) (.pair (.int .i64) (.int .i64))))) 24 _ _ _ (by kernel_rfl) g0 (fun x hx=>of_decide_eq_true (List.all_eq_true.1 hsz x (DataW.weights_mem_each (j:=0) rfl rfl x hx)))
 have l0:List.length z0.1 ≤ 2199023255552:=by
  have q:=y0.1.1
  rw [show Tryz.prog.bytesOf 58=64 by kernel_rfl] at q
  unfold reachBytes at q
  omega
 have lb0:∀ q ∈ z0.1,List.length q.2.2.2.2.1 ≤ 17592186044416:=by
  intro q hq
  have q:=(y0.1.2 q hq).2.2.2.2.1.1
  rw [show Tryz.prog.bytesOf 3=8 by kernel_rfl] at q
  unfold reachBytes at q
  omega
 obtain ⟨a1,len1,cap1,rfl⟩:=okWide_slice Tryz.underlying25 (hval 1 25 v1 rfl rfl)
 have k1:=h1
 have lt1:∀ x ∈ p1,x.block < W.heap.size:=by obtain ⟨m,hm⟩:=k1; exact DataW.trod_lt m _ _ _ hm
 obtain ⟨m1,g1⟩:=h1
 obtain ⟨z1,w1,y1⟩:=trod_rd m1 9 (.seq 60 (.pair (.int .i64) (.pair (.int .i64) (.pair (.int .i64) (.int .i64))))) 25 _ _ _ (by kernel_rfl) g1 (fun x hx=>of_decide_eq_true (List.all_eq_true.1 hsz x (DataW.weights_mem_each (j:=1) rfl rfl x hx)))
 have l1:(z1:List (D (.pair (.int .i64) (.pair (.int .i64) (.pair (.int .i64) (.int .i64)))))).length ≤ 4398046511104:=by
  have q:=y1.1
  rw [show Tryz.prog.bytesOf 60=32 by kernel_rfl] at q
  unfold reachBytes at q
  omega
 obtain ⟨a2,rfl,rfl,rfl,w2⟩:=open_int Tryz.underlying3 (hval 2 3 v2 rfl rfl) h2
 clear hA0 hval0 hsz0 hsz
 have hF:c11v.F 9007199254741100 (z0,z1,a2,())=some true:=(c11v_F 9007199254741100 z0 z1 a2).trans (Told_true 9007199254741100 (by omega) z0 l0 lb0 z1 l1 a2)
 refine (c11v_ok.2 9007199254741100 _ true hF W (fun _=>False) (fun b=>b < W.heap.size) _ [] (fun b hb=>hb.elim id False.elim) List.nodup_nil (fun b hb=>absurd hb List.not_mem_nil) ⟨_,_,[],[],rfl,rfl,⟨⟨_,w0,rfl⟩,rfl⟩,⟨_,_,[],[],rfl,rfl,⟨⟨_,w1,rfl⟩,rfl⟩,⟨_,_,[],[],rfl,rfl,⟨⟨_,rfl,rfl⟩,rfl⟩,⟨rfl,rfl⟩⟩⟩⟩).mono fun e W' hpost=>?_
 obtain ⟨us,I',B1,B2,he,h1,-,honly,-⟩:=hpost
 obtain ⟨v,vs,rfl,⟨hrd,-⟩,hpk⟩:=h1
 have hv:v=.bool true:=by have:=hpk.symm.trans hrd; cases this; rfl
 subst hv
 have bel:Below W.heap.size W W':=⟨honly.os,honly.tape,honly.output,honly.size,fun k hk=>honly.block k hk List.not_mem_nil⟩
 subst he
 exact ⟨_,rfl,_,_,_,[],_,[],hW',trodAll_mk1 (shut_bool Tryz.underlying4 _),(trodAll_cons_mk (Below.trod laidOut (by kernel_rfl) (of_decide_eq_true (by kernel_rfl)) k0 bel lt0) (trodAll_cons_mk (Below.trod laidOut (by kernel_rfl) (of_decide_eq_true (by kernel_rfl)) k1 bel lt1) (trodAll_cons_mk (shut_int Tryz.underlying3 w2) trodAll_mk0))),rfl,bel.frame _,fun h=>by cases h⟩
theorem over:Rows.specToldRow.holds Tryz.pinned (OpenSpec.ofChange Rows.specToldSpec) :=
 OpenClaim.holds_of_wide 11 Tryz.f11 rfl rfl rfl rfl rfl rfl rfl ⟨rfl,rfl,rfl,rfl,rfl⟩ rfl rfl rfl rfl rfl (by kernel_rfl) Tryz.func11 (by kernel_rfl)
  (of_decide_eq_true (by kernel_rfl)) (by unfold Func.isWrapper; first | (rw [if_pos (by decide +kernel)]; kernel_rfl) | (rw [if_neg (by decide +kernel)]; exact ⟨rfl,rfl⟩))
  (fun os started H enc _=>lifted os started H enc)
theorem proved:Rows.SpecToldSaid:=over
#print axioms proved
end Go.Proofs.YtohnakoineakdaaGreat.specTold
namespace Go.Proofs.YtohnakoineakdaaGreat
theorem specTold_holds:Rows.SpecToldSaid:=specTold.proved
end Go.Proofs.YtohnakoineakdaaGreat
