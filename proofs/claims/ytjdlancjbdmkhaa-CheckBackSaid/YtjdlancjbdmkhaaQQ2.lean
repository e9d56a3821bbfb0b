/- What the functions come to, in plain Lean, and what holds of it. -/
import Derived.Test.YtjdlancjbdmkhaaQQ1
namespace Go.Proofs.Ytjdlancjbdmkhaa
open Go Go.Ev
set_option linter.unusedVariables false
set_option linter.unusedSimpArgs false
theorem SameQuery_refl (n:Nat) (hn:1073741825 < n) (q:QY) (h:q.2.2.2.2.1.length ≤ 1073741824):bournelaw0_SameQuery n q q=some true:=by
 rw [bournelaw0_SameQuery_S,SameInts_refl n hn _ h]
 simp only [beq_self_eq_true,cond_true,Option.bind_some]
theorem sameC_l0 (n:Nat) (hn:1073741825 < n) (c:CF) (h9:c.1.length ≤ 1073741824) (hb:∀ q ∈ c.1,q.2.2.2.2.1.length ≤ 1073741824):∀ (k m i:Nat),i + k=c.1.length→k < m→bournelaw0_SameConfig_l0 n c50.F c c m (i:Int)=some true:=by
 intro k
 induction k with
 | zero =>
  intro m i hi hm
  obtain ⟨m,rfl,hm⟩:=sucM hm
  rw [bournelaw0_SameConfig_l0_S]
  have hd:decide ((i:Int) < (c.1.length:Int))=false:=by rw [decide_eq_false_iff_not]; omega
  simp only [hd,cond_false]
 | succ k ih =>
  intro m i hi hm
  obtain ⟨m,rfl,hm⟩:=sucM hm
  have hlt:i < c.1.length:=by omega
  rw [bournelaw0_SameConfig_l0_S]
  have hd:decide ((i:Int) < (c.1.length:Int))=true:=by rw [decide_eq_true_eq]; omega
  have c1:(0:Int) ≤ (i:Int)∧(i:Int) < (c.1.length:Int):=by omega
  have e4:c.1.getD i ((0:Int),(0:Int),(0:Int),(0:Int),Go.Ev.nl Int,(0:Int))=c.1[i]:=getLt hlt _
  simp only [hd,cond_true,if_pos c1,Int.toNat_natCast,e4,SameQuery_refl n hn _ (hb _ (List.getElem_mem hlt)),Option.bind_some,Bool.not_true,cond_false]
  rw [wrapS (i:=i) (by omega)]
  exact ih m (i + 1) (by omega) (by omega)
theorem SameState_refl (n:Nat) (hn:1073741825 < n) (t:ST) (h1:t.1.1.length ≤ 1073741824) (hb:∀ q ∈ t.1.1,q.2.2.2.2.1.length ≤ 1073741824) (h2:t.2.2.1.length ≤ 1073741824) (h3:t.2.2.2.1.length ≤ 1073741824) (h4:t.2.2.2.2.2.1.length ≤ 1073741824):bournelaw0_SameState n t t=some true:=by
 have hc:bournelaw0_SameConfig n t.1 t.1=some true:=by
  rw [bournelaw0_SameConfig_S]
  simp only [bne_self_eq_false,cond_false]
  exact sameC_l0 n hn t.1 h1 hb t.1.1.length n 0 (by omega) (by omega)
 have he:eqS t.2.2.2.2.2.2.1 t.2.2.2.2.2.2.1=true:=by rw [eqS_bs]; simp
 rw [bournelaw0_SameState_S,hc,SameInts_refl n hn _ h2,SameInts_refl n hn _ h3,SameItems_refl n hn _ h4]
 simp only [Option.bind_some,cond_true,beq_self_eq_true,he]
theorem SameState_may (n:Nat) (hn:1073741825 < n) (t:ST) (h:MayF t):bournelaw0_SameState n t t=some true:=by
 have hc:=cfgMay_nums h.cfg
 have h1:=h.marks
 have h2:=h.ser
 have h3:=h.held
 exact SameState_refl n hn t (by omega) (fun q hq=>by have:=bnds_len (hc.2.1 q hq); omega) (by omega) (by omega) (by omega)
theorem SameState_ES (n:Nat) (hn:1073741825 < n):bournelaw0_SameState n ES ES=some true:=SameState_refl n hn ES (by decide) (by simp [ES]) (by decide) (by decide) (by decide)
theorem numE (n:Nat) (x:Int):bournelaw0_Num n x=some x:=rfl
theorem awakeC (n:Nat):c7.F n PUnit.unit=some true:=rfl
theorem put_get (n:Nat) (hn:9007199254740992 < n) (t:ST) (hw:WF t) (hm:MayF t) (h:check_May n t=some true):∃ a,check_Put n t=some (a,0)∧2 ≤ a.size∧check_Get n a=some (t,0):=by
 obtain ⟨body,x,two,h1,h2,h3,h4,h5⟩:=put_may n hn t hw hm h
 have hc:=cfgMay_nums hm.cfg
 have hb:body.size ≤ 10000000:=by
  obtain ⟨bd,x',two',q1,q2,q3,q4,q5⟩:=put_may n hn t hw hm h
  have m1:=hm.marks
  have m2:=hm.ser
  have m3:=hm.held
  have m4:=hm.waits
  rw [← bs_len,h4]
  have ql:∀ q ∈ t.1.1,(queryL q).length ≤ 200:=fun q hq=>queryL_len (hw.qs q hq).1 (hw.qs q hq).2.1 (hw.qs q hq).2.2 (bnds_len (hc.2.1 q hq))
  have fm:∀ {α:Type} (f:α→List Nat) (k:Nat) (l:List α),(∀ x ∈ l,(f x).length ≤ k)→(l.flatMap f).length ≤ l.length * k:=by
   intro α f k l
   induction l with
   | nil=>intro _; simp
   | cons x l ih =>
    intro h
    have:=ih fun y hy=>h y (List.mem_cons_of_mem _ hy)
    have:=h x List.mem_cons_self
    rw [List.flatMap_cons,List.length_append,List.length_cons,Nat.add_mul]; omega
  have f4:∀ x:Int×Int×Int×Int,fourV x→(fourL x).length ≤ 40:=by
   rintro ⟨a,b,c,d⟩ ⟨v1,v2,v3,v4⟩
   have p1:(putL a).length ≤ 10:=(putL_len v1).1
   have p2:(putL b).length ≤ 10:=(putL_len v2).1
   have p3:(putL c).length ≤ 10:=(putL_len v3).1
   have p4:(putL d).length ≤ 10:=(putL_len v4).1
   unfold fourL
   simp only [List.length_append]; omega
  have l1:=fm queryL 200 t.1.1 ql
  have l2:=fm fourL 40 t.2.2.2.2.2.1 (fun x hx=>f4 x (hw.held x hx))
  have l3:=allL_len hw.marks
  have l4:=numsL_len hw.ser (by omega)
  have l5:=f4 _ hw.cfg
  have l6:(putL (t.1.1.length:Int)).length ≤ 10:=(putL_len ⟨by omega,by omega⟩).1
  have l7:=(putL_len hw.eng).1
  have l8:=(putL_len hw.seq).1
  have l9:(putL (t.2.2.2.2.2.1.length:Int)).length ≤ 10:=(putL_len ⟨by omega,by omega⟩).1
  have l10:=(putL_len hw.bad).1
  have l11:(putL (t.2.2.2.2.2.2.1.size:Int)).length ≤ 10:=(putL_len ⟨by omega,by omega⟩).1
  have l12:=bs_len t.2.2.2.2.2.2.1
  unfold stateL configL heldL waitsL
  simp only [List.length_append]
  omega
 refine ⟨catS body two,h5,by rw [catS_size]; omega,?_⟩
 refine get_back n hn t body two x (by omega) h1 h2 h4 (stateV_of hw hm ?_) h
 have:(bs t.2.2.2.2.2.2.1).length ≤ (bs body).length:=by
  rw [h4]
  unfold stateL waitsL
  simp only [List.length_append]; omega
 rw [bs_len,bs_len] at this
 exact this
theorem back_j0 (n:Nat) (hn:9007199254740992 < n) (t:ByteArray) (ht:t.size ≤ 140737488355328):bournelaw22_CheckBack_j0 n c7.F c8.F c9.F c10.F c11.F c12.F c13v.F c14v.F t=some true:=by
 rw [bournelaw22_CheckBack_j0_S]
 rcases get_cases n hn t ht with h | ⟨u,body,x,two,h1,h2,h3,h4,h5,h6,h7,h8⟩
 ·have hs:=SameState_ES n (by omega)
  have hs':bournelaw0_SameState n ES ((Go.Ev.nl QY,(0:Int),(0:Int),(0:Int),(0:Int)),(0:Int),Go.Ev.nl Int,Go.Ev.nl Int,(0:Int),Go.Ev.nl IT,ByteArray.empty,(0:Int))=some true:=hs
  simp only [h,Option.bind_some,numE,show ((2200:Int) != 0)=true from rfl,cond_true,hs']
 ·obtain ⟨m,hm1,hm2⟩:=may_ex n hn u (fits_V h6 (by omega))
  rw [h8] at hm1
  cases hm1
  obtain ⟨body',x',two',q1,q2,q3,q4,q5⟩:=put_may n hn u (stateV_wf h6) (hm2 rfl) h8
  have e1:body'=body:=bs_inj (by rw [q4,h5])
  subst e1
  rw [h3] at q1; cases q1
  rw [h4] at q2; cases q2
  have e2:eqS (catS body' two) t=true:=by rw [h2,eqS_bs]; simp
  simp only [h1,Option.bind_some,numE,show ((0:Int) != 0)=false from rfl,cond_false,q5,show ((0:Int) == 0)=true from rfl,cond_true,e2,h8]
theorem Back_true (n:Nat) (hn:9007199254741092 < n) (s:ST) (hw:WF s) (hf:Fits s) (t:ByteArray) (ht:t.size ≤ 140737488355328):bournelaw22_CheckBack n s t=some true:=by
 rw [bournelaw22_CheckBack_S,awakeC]
 have hj:=back_j0 n (by omega) t ht
 obtain ⟨b,hb,hbm⟩:=may_ex n (by omega) s hf
 cases b with
 | false =>
  simp only [Option.bind_some,Bool.not_true,cond_false,put_not n s hb,numE,hb,show ((2200:Int) == 0)=false from rfl,beq_self_eq_true,hj]
 | true =>
  have hm:=hbm rfl
  obtain ⟨a,h1,h2,h3⟩:=put_get n (by omega) s hw hm hb
  have he:eqS a (ByteArray.mk #[])=false:=by
   rw [eqS_bs,decide_eq_false_iff_not,bs_nil]
   intro e
   have:=bs_len a
   rw [e] at this
   have:0=a.size:=this
   omega
  simp only [Option.bind_some,Bool.not_true,cond_false,h1,numE,hb,show ((0:Int) == 0)=true from rfl,beq_self_eq_true,cond_true,he,h3,show ((0:Int) != 0)=false from rfl,SameState_may n (by omega) s hm,hj]
abbrev stT (q i m:TypeId):Ty:=.pair (.pair (.seq q (.pair (.int .i64) (.pair (.int .i64) (.pair (.int .i64) (.pair (.int .i64) (.pair (.seq i (.int .i64)) (.int .i64))))))) (.pair (.int .i64) (.pair (.int .i64) (.pair (.int .i64) (.int .i64))))) (.pair (.int .i64) (.pair (.seq i (.int .i64)) (.pair (.seq i (.int .i64)) (.pair (.int .i64) (.pair (.seq m (.pair (.int .i64) (.pair (.int .i64) (.pair (.int .i64) (.int .i64))))) (.pair .str (.int .i64)))))))
theorem wf64_lit {x:Int} (h:(Lit.int .i64 x).wf=true):wf64 x:=by
 simp only [Lit.wf,Bool.and_eq_true,decide_eq_true_eq] at h
 obtain ⟨a,b⟩:=h
 change (-9223372036854775808:Int) ≤ x at a
 change x ≤ (9223372036854775807:Int) at b
 exact ⟨a,b⟩
theorem wf_sz {P:Program} {q i m:TypeId} {z:ST} (y:Sz P (stT q i m) z):WF z:=by
 obtain ⟨⟨⟨-,y1⟩,c1,c2,c3,c4⟩,y2,⟨-,y3⟩,⟨-,y4⟩,y5,⟨-,y6⟩,-,y7⟩:=y
 refine ⟨fun x hx=>?_,⟨wf64_lit c1,wf64_lit c2,wf64_lit c3,wf64_lit c4⟩,wf64_lit y2,fun x hx=>wf64_lit (y3 x hx),fun x hx=>wf64_lit (y4 x hx),wf64_lit y5,fun x hx=>?_,wf64_lit y7⟩
 ·obtain ⟨a,b,c,d,⟨-,e⟩,f⟩:=y1 x hx
  exact ⟨⟨wf64_lit a,wf64_lit b,wf64_lit c,wf64_lit d⟩,fun u hu=>wf64_lit (e u hu),wf64_lit f⟩
 ·obtain ⟨a,b,c,d⟩:=y6 x hx
  exact ⟨wf64_lit a,wf64_lit b,wf64_lit c,wf64_lit d⟩
theorem fits_sz {P:Program} {q i m:TypeId} {z:ST} (hi:P.bytesOf i=8) (hm:P.bytesOf m=32) (y:Sz P (stT q i m) z):Fits z:=by
 obtain ⟨-,-,⟨y3,-⟩,⟨y4,-⟩,-,⟨y6,-⟩,y7,-⟩:=y
 rw [hi] at y3 y4
 rw [hm] at y6
 have y7:ByteArray.size z.2.2.2.2.2.2.1 ≤ reachBytes:=y7
 unfold reachBytes at y3 y4 y6 y7
 refine ⟨?_,?_,?_,?_⟩
 ·have:z.2.2.1.length * 8 ≤ 140737488351232:=y3
  omega
 ·have:z.2.2.2.1.length * 8 ≤ 140737488351232:=y4
  omega
 ·have:z.2.2.2.2.2.1.length * 32 ≤ 140737488351232:=y6
  omega
 ·omega
end Go.Proofs.Ytjdlancjbdmkhaa
