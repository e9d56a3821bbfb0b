/- What the functions come to, in plain Lean, and what holds of it. -/
import Derived.Test.YtjdlancjbdmkhaaQQ1
namespace Go.Proofs.Ytjdlancjbdmkhaa
open Go Go.Ev
set_option linter.unusedVariables false
set_option linter.unusedSimpArgs false
theorem copyC_l0 (n:Nat) (c:CF) (hq:c.1.length ≤ 2199023255552) (hb:∀ q ∈ c.1,q.2.2.2.2.1.length ≤ 17592186044416):∀ (k m i:Nat),i + k=c.1.length→k < m→bournelaw0_CopyConfig_v_l0 n c m (i:Int) (c.1.take i)=some (c.1,c.2):=by
 intro k
 induction k with
 | zero =>
  intro m i hi hm
  obtain ⟨m,rfl,hm⟩:=sucM hm
  rw [bournelaw0_CopyConfig_v_l0_S]
  have hd:decide ((i:Int) < (c.1.length:Int))=false:=by simp; omega
  have e:i=c.1.length:=by omega
  subst e
  simp only [hd,cond_false,List.take_length]
 | succ k ih =>
  intro m i hi hm
  obtain ⟨m,rfl,hm⟩:=sucM hm
  have hlt:i < c.1.length:=by omega
  rw [bournelaw0_CopyConfig_v_l0_S]
  have hd:decide ((i:Int) < (c.1.length:Int))=true:=by simp; omega
  have c1:(0:Int) ≤ (i:Int)∧(i:Int) < (c.1.length:Int):=by omega
  have e4:c.1.getD i ((0:Int),(0:Int),(0:Int),(0:Int),Go.Ev.nl Int,(0:Int))=c.1[i]:=getLt hlt _
  have ih':=ih m (i + 1) (by omega) (by omega)
  have hbi:=hb c.1[i] (List.getElem_mem hlt)
  have e5:∀ v:QY,((List.replicate (1:Nat) ((0:Int),(0:Int),(0:Int),(0:Int),Go.Ev.nl Int,(0:Int))).set (0:Nat) v)=[v]:=fun v=>rfl
  have c2:((List.replicate (0:Nat) (0:Int)).length + c.1[i].2.2.2.2.1.length) * 8 ≤ 140737488355328∧0 < 8:=by
   rw [List.length_replicate]; omega
  have c3:∀ v:QY,((c.1.take i).length + [v].length) * 64 ≤ 140737488355328∧0 < 64:=fun v=>by
   simp only [List.length_cons,List.length_nil,List.length_take]; omega
  have e6:List.replicate (0:Nat) (0:Int) ++ c.1[i].2.2.2.2.1=c.1[i].2.2.2.2.1:=rfl
  simp only [hd,cond_true,if_pos c1,Int.toNat_natCast,e4,if_pos c2,e5,if_pos (c3 _),e6]
  rw [wrapS (i:=i) (by omega)]
  rw [List.take_succ_eq_append_getElem hlt] at ih'
  exact ih'
theorem copyC_eq (n:Nat) (c:CF) (hn:c.1.length < n) (hq:c.1.length ≤ 2199023255552) (hb:∀ q ∈ c.1,q.2.2.2.2.1.length ≤ 17592186044416):bournelaw0_CopyConfig_v n c=some c:=by
 rw [bournelaw0_CopyConfig_v_S]
 exact copyC_l0 n c hq hb c.1.length n 0 (by omega) (by omega)
theorem copyS_eq (n:Nat) (hn:9007199254740992 < n) (t:ST) (hm:MayF t):bournelaw0_CopyState_v n t=some t:=by
 have hc:=cfgMay_nums hm.cfg
 have h1:=hm.marks
 have h2:=hm.ser
 have h3:=hm.held
 rw [bournelaw0_CopyState_v_S,copyC_eq n t.1 (by omega) (by omega) (fun q hq=>by have:=bnds_len (hc.2.1 q hq); omega)]
 have c1:((List.replicate (0:Nat) (0:Int)).length + t.2.2.1.length) * 8 ≤ 140737488355328∧0 < 8:=by rw [List.length_replicate]; omega
 have c2:((List.replicate (0:Nat) (0:Int)).length + t.2.2.2.1.length) * 8 ≤ 140737488355328∧0 < 8:=by rw [List.length_replicate]; omega
 have c3:((List.replicate (0:Nat) ((0:Int),(0:Int),(0:Int),(0:Int))).length + t.2.2.2.2.2.1.length) * 32 ≤ 140737488355328∧0 < 32:=by rw [List.length_replicate]; omega
 simp only [Option.bind_some,if_pos c1,if_pos c2,if_pos c3]
 rfl
theorem numE (n:Nat) (x:Int):bournelaw0_Num n x=some x:=rfl
theorem awakeC (n:Nat):c7.F n PUnit.unit=some true:=rfl
theorem put_get (n:Nat) (hn:9007199254740992 < n) (t:ST) (hw:WF t) (hm:MayF t) (h:check_May n t=some true):∃ a,check_Put n t=some (a,0)∧2 ≤ a.size∧check_Get n a=some (t,0):=by
 obtain ⟨body,x,two,h1,h2,h3,h4,h5⟩:=put_may n hn t hw hm h
 have hc:=cfgMay_nums hm.cfg
 have hb:body.size ≤ 10000000:=by
  obtain ⟨bd,x',two',q1,q2,q3,q4,q5⟩:=put_may n hn t hw hm h
  have m1:=hm.marks
  have m2:=hm.ser
  have m3:=hm.held
  have m4:=hm.waits
  rw [← bs_len,h4]
  have ql:∀ q ∈ t.1.1,(queryL q).length ≤ 200:=fun q hq=>queryL_len (hw.qs q hq).1 (hw.qs q hq).2.1 (hw.qs q hq).2.2 (bnds_len (hc.2.1 q hq))
  have fm:∀ {α:Type} (f:α→List Nat) (k:Nat) (l:List α),(∀ x ∈ l,(f x).length ≤ k)→(l.flatMap f).length ≤ l.length * k:=by
   intro α f k l
   induction l with
   | nil=>intro _; simp
   | cons x l ih =>
    intro h
    have:=ih fun y hy=>h y (List.mem_cons_of_mem _ hy)
    have:=h x List.mem_cons_self
    rw [List.flatMap_cons,List.length_append,List.length_cons,Nat.add_mul]; omega
  have f4:∀ x:Int×Int×Int×Int,fourV x→(fourL x).length ≤ 40:=by
   rintro ⟨a,b,c,d⟩ ⟨v1,v2,v3,v4⟩
   have p1:(putL a).length ≤ 10:=(putL_len v1).1
   have p2:(putL b).length ≤ 10:=(putL_len v2).1
   have p3:(putL c).length ≤ 10:=(putL_len v3).1
   have p4:(putL d).length ≤ 10:=(putL_len v4).1
   unfold fourL
   simp only [List.length_append]; omega
  have l1:=fm queryL 200 t.1.1 ql
  have l2:=fm fourL 40 t.2.2.2.2.2.1 (fun x hx=>f4 x (hw.held x hx))
  have l3:=allL_len hw.marks
  have l4:=numsL_len hw.ser (by omega)
  have l5:=f4 _ hw.cfg
  have l6:(putL (t.1.1.length:Int)).length ≤ 10:=(putL_len ⟨by omega,by omega⟩).1
  have l7:=(putL_len hw.eng).1
  have l8:=(putL_len hw.seq).1
  have l9:(putL (t.2.2.2.2.2.1.length:Int)).length ≤ 10:=(putL_len ⟨by omega,by omega⟩).1
  have l10:=(putL_len hw.bad).1
  have l11:(putL (t.2.2.2.2.2.2.1.size:Int)).length ≤ 10:=(putL_len ⟨by omega,by omega⟩).1
  have l12:=bs_len t.2.2.2.2.2.2.1
  unfold stateL configL heldL waitsL
  simp only [List.length_append]
  omega
 refine ⟨catS body two,h5,by rw [catS_size]; omega,?_⟩
 refine get_back n hn t body two x (by omega) h1 h2 h4 (stateV_of hw hm ?_) h
 have:(bs t.2.2.2.2.2.2.1).length ≤ (bs body).length:=by
  rw [h4]
  unfold stateL waitsL
  simp only [List.length_append]; omega
 rw [bs_len,bs_len] at this
 exact this
theorem unlike_two (n:Nat) (hn:9007199254740992 < n) (s t:ST) (hs:WF s) (ht:WF t) (hf:Fits t) (hms:MayF s) (h1:check_May n s=some true) (a:ByteArray) (ha:check_Put n s=some (a,0)) (hne:s ≠ t) :
  (Option.bind (check_Put n t) fun r4=>Option.bind (bournelaw0_Num n r4.2) fun r5=>bif r5 != (0:Int) then some true else bif !eqS a r4.1 then some (!eqS r4.1 (ByteArray.mk #[])) else some false)=some true:=by
 obtain ⟨b,hb,hbm⟩:=may_ex n hn t hf
 cases b with
 | false=>rw [put_not n t hb]; rfl
 | true =>
  obtain ⟨a',p1,p2,p3⟩:=put_get n hn t ht (hbm rfl) hb
  obtain ⟨a2,q1,q2,q3⟩:=put_get n hn s hs hms h1
  rw [ha] at q1; cases q1
  have he:eqS a a'=false:=by
   rw [eqS_bs,decide_eq_false_iff_not]
   intro e
   have:=bs_inj e
   subst this
   rw [q3] at p3
   cases p3
   exact hne rfl
  have he2:eqS a' (ByteArray.mk #[])=false:=by
   rw [eqS_bs,decide_eq_false_iff_not,bs_nil]
   intro e
   have:=bs_len a'
   rw [e] at this
   have:0=a'.size:=this
   omega
  simp only [p1,Option.bind_some,numE,show ((0:Int) != 0)=false from rfl,cond_false,he,Bool.not_false,cond_true,he2]
theorem Unlike_true (n:Nat) (hn:9007199254741092 < n) (s:ST) (hw:WF s) (hf:Fits s) (which:Int):bournelaw22_CheckUnlike n s which=some true:=by
 rw [bournelaw22_CheckUnlike_S,awakeC]
 obtain ⟨b,hb,hbm⟩:=may_ex n (by omega) s hf
 cases b with
 | false =>
  have he:eqS (ByteArray.mk #[]) (ByteArray.mk #[])=true:=rfl
  simp only [Option.bind_some,Bool.not_true,cond_false,put_not n s hb,numE,show ((2200:Int) != 0)=true from rfl,cond_true,he]
 | true =>
  have hm:=hbm rfl
  have hc:=cfgMay_nums hm.cfg
  have hsq:=hm.seq
  have hbd:=hm.bad
  have heg:=hm.eng
  obtain ⟨a,h1,h2,h3⟩:=put_get n (by omega) s hw hm hb
  obtain ⟨f1,f2,f3,f4⟩:=hw.cfg
  simp only [Option.bind_some,Bool.not_true,cond_false,h1,numE,show ((0:Int) != 0)=false from rfl,copyS_eq n (by omega) s hm]
  obtain ⟨⟨qs,la,ro,se,so⟩,en,mk,sr,sq,hd,wt,bd⟩:=s
  have w1:Go.IntKind.i64.wrap (1 - en)=1 - en:=wrapOK (by show -9223372036854775808 ≤ 1 - en; have:en=0 ∨ en=1:=heg; omega) (by have:en=0 ∨ en=1:=heg; omega)
  have w2:Go.IntKind.i64.wrap (sq + 1)=sq + 1:=wrapOK (by have:0 ≤ sq∧sq ≤ 1073741823:=hsq; omega) (by have:0 ≤ sq∧sq ≤ 1073741823:=hsq; omega)
  have w3:Go.IntKind.i64.wrap (bd + 1)=bd + 1:=wrapOK (by have:0 ≤ bd∧bd ≤ 1073741823:=hbd; omega) (by have:0 ≤ bd∧bd ≤ 1073741823:=hbd; omega)
  have w4:Go.IntKind.i64.wrap (ro + 1)=ro + 1:=wrapOK (by have:1 ≤ ro∧ro ≤ 4096:=hc.2.2.2.1; omega) (by have:1 ≤ ro∧ro ≤ 4096:=hc.2.2.2.1; omega)
  have w5:Go.IntKind.i64.wrap (la + 1)=la + 1:=wrapOK (by have:0 ≤ la∧la ≤ 1073741824:=hc.2.2.1; omega) (by have:0 ≤ la∧la ≤ 1073741824:=hc.2.2.1; omega)
  have go:∀ (la' ro' en' sq' bd':Int),wf64 la'→wf64 ro'→wf64 en'→wf64 sq'→wf64 bd'→¬ (la'=la∧ro'=ro∧en'=en∧sq'=sq∧bd'=bd)→bournelaw22_CheckUnlike_j0 n c7.F c8.F c9.F c14v.F c13v.F (a,0) ((qs,la,ro,se,so),en,mk,sr,sq,hd,wt,bd) la' ro' en' sq' bd'=some true:=by
   intro la' ro' en' sq' bd' v1 v2 v3 v4 v5 hne
   rw [bournelaw22_CheckUnlike_j0_S]
   exact unlike_two n (by omega) ((qs,la,ro,se,so),en,mk,sr,sq,hd,wt,bd) ((qs,la',ro',se,so),en',mk,sr,sq',hd,wt,bd') hw
    ⟨hw.qs,⟨v1,v2,f3,f4⟩,v3,hw.marks,hw.ser,v4,hw.held,v5⟩ ⟨hf.marks,hf.ser,hf.held,hf.waits⟩ hm hb a h1 (by
     intro e
     simp only [Prod.mk.injEq,true_and,and_true] at e
     exact hne (by omega))
  have hla:0 ≤ la∧la ≤ 1073741824:=hc.2.2.1
  have hro:1 ≤ ro∧ro ≤ 4096:=hc.2.2.2.1
  have hsq:0 ≤ sq∧sq ≤ 1073741823:=hsq
  have hbd:0 ≤ bd∧bd ≤ 1073741823:=hbd
  have heg:en=0 ∨ en=1:=heg
  have vla:wf64 la:=⟨by omega,by omega⟩
  have vro:wf64 ro:=⟨by omega,by omega⟩
  have ven:wf64 en:=⟨by omega,by omega⟩
  have vsq:wf64 sq:=⟨by omega,by omega⟩
  have vbd:wf64 bd:=⟨by omega,by omega⟩
  simp only [w1,w2,w3,w4,w5]
  generalize (Go.IntKind.u64.wrap which).tmod 5=k
  cases k == 0 with
  | true=>exact go la ro (1 - en) sq bd vla vro ⟨by omega,by omega⟩ vsq vbd (by omega)
  | false =>
   cases k == 1 with
   | true=>exact go la ro en (sq + 1) bd vla vro ven ⟨by omega,by omega⟩ vbd (by omega)
   | false =>
    cases k == 2 with
    | true=>exact go la ro en sq (bd + 1) vla vro ven vsq ⟨by omega,by omega⟩ (by omega)
    | false =>
     cases k == 3 with
     | true=>exact go la (ro + 1) en sq bd vla ⟨by omega,by omega⟩ ven vsq vbd (by omega)
     | false=>exact go (la + 1) ro en sq bd ⟨by omega,by omega⟩ vro ven vsq vbd (by omega)
abbrev stT (q i m:TypeId):Ty:=.pair (.pair (.seq q (.pair (.int .i64) (.pair (.int .i64) (.pair (.int .i64) (.pair (.int .i64) (.pair (.seq i (.int .i64)) (.int .i64))))))) (.pair (.int .i64) (.pair (.int .i64) (.pair (.int .i64) (.int .i64))))) (.pair (.int .i64) (.pair (.seq i (.int .i64)) (.pair (.seq i (.int .i64)) (.pair (.int .i64) (.pair (.seq m (.pair (.int .i64) (.pair (.int .i64) (.pair (.int .i64) (.int .i64))))) (.pair .str (.int .i64)))))))
theorem wf64_lit {x:Int} (h:(Lit.int .i64 x).wf=true):wf64 x:=by
 simp only [Lit.wf,Bool.and_eq_true,decide_eq_true_eq] at h
 obtain ⟨a,b⟩:=h
 change (-9223372036854775808:Int) ≤ x at a
 change x ≤ (9223372036854775807:Int) at b
 exact ⟨a,b⟩
theorem wf_sz {P:Program} {q i m:TypeId} {z:ST} (y:Sz P (stT q i m) z):WF z:=by
 obtain ⟨⟨⟨-,y1⟩,c1,c2,c3,c4⟩,y2,⟨-,y3⟩,⟨-,y4⟩,y5,⟨-,y6⟩,-,y7⟩:=y
 refine ⟨fun x hx=>?_,⟨wf64_lit c1,wf64_lit c2,wf64_lit c3,wf64_lit c4⟩,wf64_lit y2,fun x hx=>wf64_lit (y3 x hx),fun x hx=>wf64_lit (y4 x hx),wf64_lit y5,fun x hx=>?_,wf64_lit y7⟩
 ·obtain ⟨a,b,c,d,⟨-,e⟩,f⟩:=y1 x hx
  exact ⟨⟨wf64_lit a,wf64_lit b,wf64_lit c,wf64_lit d⟩,fun u hu=>wf64_lit (e u hu),wf64_lit f⟩
 ·obtain ⟨a,b,c,d⟩:=y6 x hx
  exact ⟨wf64_lit a,wf64_lit b,wf64_lit c,wf64_lit d⟩
theorem fits_sz {P:Program} {q i m:TypeId} {z:ST} (hi:P.bytesOf i=8) (hm:P.bytesOf m=32) (y:Sz P (stT q i m) z):Fits z:=by
 obtain ⟨-,-,⟨y3,-⟩,⟨y4,-⟩,-,⟨y6,-⟩,y7,-⟩:=y
 rw [hi] at y3 y4
 rw [hm] at y6
 have y7:ByteArray.size z.2.2.2.2.2.2.1 ≤ reachBytes:=y7
 unfold reachBytes at y3 y4 y6 y7
 refine ⟨?_,?_,?_,?_⟩
 ·have:z.2.2.1.length * 8 ≤ 140737488351232:=y3
  omega
 ·have:z.2.2.2.1.length * 8 ≤ 140737488351232:=y4
  omega
 ·have:z.2.2.2.2.2.1.length * 32 ≤ 140737488351232:=y6
  omega
 ·omega
end Go.Proofs.Ytjdlancjbdmkhaa
