/- A checked evaluator, part S: operations on rows in rows. -/
import Derived.Test.YtjdlancjbdmkhaaQEvR
import Derived.Test.YtjdlancjbdmkhaaQEvN
namespace Go.Ev
open Go.RowKit
set_option linter.unusedVariables false
section
variable {ρ:Type}
def nestAt (σ:LS) (id:Nat):Option ((e:TypeId)×(k0:Ty)×(e1:TypeId)×(k1:Ty)×List (D k0×List (D k1))×Nat):=match σ.at id with
 | some (.nest e k0 e1 k1 xs lk)=>some ⟨e,k0,e1,k1,xs,lk⟩
 | _=>none
theorem nestAt_eq {σ:LS} {id:Nat} {e:TypeId} {k0:Ty} {e1:TypeId} {k1:Ty} {xs:List (D k0×List (D k1))} {lk:Nat} (h:nestAt σ id=some ⟨e,k0,e1,k1,xs,lk⟩):σ.at id=some (.nest e k0 e1 k1 xs lk):=by
 unfold nestAt at h
 split at h
 ·rename_i hh; cases h; exact hh
 ·cases h
theorem nest_slice {fr:Fr} {σ:FS} {φ:Nat→Option Value} {I:Nat→Prop} {a:Act} {w:World} (hR:R fr σ φ I a w) {id lk:Nat} {e:TypeId} {k0:Ty} {e1:TypeId} {k1:Ty} {xs:List (D k0×List (D k1))} (h:σ.heap id=some (.nest e k0 e1 k1 xs lk)) {u:Value} (hu:φ id=some u) :
  ∃ vs,w.ownsRow 0 e (size k0 + 1) u xs.length vs:=by
 obtain ⟨v,vs,h1,h2⟩:=hR.heap id _ h
 rw [hu] at h1; cases h1
 exact ⟨vs,h2⟩
def opLenN (T:List (TypeId×TI)) (o:Oper) (σ:LS) (t:TypeId) (x:Operand) (kk:Rec→Option ρ):Option ρ :=
 match T.lookup t,opd σ x with
 | some ti,some (.sv false [.own id],tl)=>match ti.kind,nestAt σ id with
  | .slice _,some ⟨e,k0,e1,k1,xs,lk⟩=>kk (valK o tl [(id,some (.nest e k0 e1 k1 xs lk))] (.sv false [.lit (.int .i64 (xs.length:Nat))]))
  | _,_=>none
 | _,_=>none
theorem opLenN_ok {P:Program} {T:List (TypeId×TI)} (hT:TOK P T) {o:Oper} {σ:LS} {t:TypeId} {x:Operand} {base:Nat} {kk:Rec→Option ρ} {z:ρ} (ho:o.op=.call { callee:=.builtin .len,args:=#[x],argTypes:=#[t] }) (h:opLenN T o σ t x kk=some z):∃ r,Good P o σ base r∧kk r=some z:=by
 unfold opLenN at h
 split at h
 case h_2=>cases h
 case h_1 ti id tl hti hx =>
 split at h
 case h_2=>cases h
 case h_1 e' e k0 e1 k1 xs lk hkind hat =>
 obtain ⟨d,hd,hk⟩:=(hT t ti hti).under
 rw [hkind] at hk
 simp only [TK.ok] at hk
 subst hk
 refine ⟨_,valK_ok (opd_temps hx) (by simpa using nestAt_eq hat) fun fr σ' φ I act w hR hv hh=>?_,h⟩
 obtain ⟨h1,_⟩:RV fr.J φ I w (.own id) (act.eval x):=opd_eval hx hR hv
 obtain ⟨vs,h2⟩:=nest_slice hR (hh _ List.mem_cons_self) h1
 have:∃ ad cap,act.eval x=.slice ad xs.length cap:=by
  rcases h2.2 with ⟨e0,h0⟩ | ⟨g,cap,cur,e0,_⟩
  ·exact ⟨none,0,by rw [e0,h0]⟩
  ·exact ⟨_,cap,e0⟩
 obtain ⟨ad,cap,h3⟩:=this
 refine ⟨.int .i64 xs.length,?_,rfl⟩
 unfold execOp
 simp [ho,resolve,h3,invoke,builtin,Builtin.len_,run_underlying hd,goInt]
def opIndexAddrN (T:List (TypeId×TI)) (o:Oper) (σ:LS) (t:TypeId) (x y:Operand) (kk:Rec→Option ρ):Option ρ :=
 match T.lookup t,opd2 σ x y with
 | some ti,some (.sv false [.own id],iv,tl)=>match ti.kind,intLit iv,nestAt σ id with
  | .slice e',some i,some ⟨e,k0,e1,k1,xs,lk⟩=>match T.lookup e with
   | some ei=>if e'=e∧ei.sz=size k0 + 1 then
     (if 0 ≤ i∧i < (xs.length:Int) then kk (valK o tl [(id,some (.nest e k0 e1 k1 xs lk))] (.sv false [.eptr id (size k0 + 1) i 0])) else none) else none
   | none=>none
  | _,_,_=>none
 | _,_=>none
theorem opIndexAddrN_ok {P:Program} {T:List (TypeId×TI)} (hT:TOK P T) {o:Oper} {σ:LS} {t:TypeId} {x y:Operand} {base:Nat} {kk:Rec→Option ρ} {z:ρ} (ho:o.op=.indexAddr t x y) (h:opIndexAddrN T o σ t x y kk=some z):∃ r,Good P o σ base r∧kk r=some z:=by
 unfold opIndexAddrN at h
 split at h
 case h_2=>cases h
 case h_1 ti id iv tl hti hx =>
 split at h
 case h_2=>cases h
 case h_1 e' i e k0 e1 k1 xs lk hkind hi hat =>
 split at h
 case h_2=>cases h
 case h_1 ei hei =>
 have h0:=ite_some h rfl
 clear h
 obtain ⟨⟨rfl,hsz⟩,h⟩:=h0
 have h0:=ite_some h rfl
 clear h
 obtain ⟨⟨hi0,hi1⟩,h⟩:=h0
 obtain ⟨d,hd,hk⟩:=(hT t ti hti).under
 rw [hkind] at hk
 simp only [TK.ok] at hk
 subst hk
 obtain ⟨it,zz,hinfo,hisz,_⟩:=(hT e' ei hei).info
 obtain ⟨ik,rfl⟩:=intLit_eq hi
 have hin:i.toNat < xs.length:=by omega
 refine ⟨_,valK_ok (opd2_temps hx) (by simpa using nestAt_eq hat) fun fr σ' φ I act w hR hv hh=>?_,h⟩
 obtain ⟨⟨h1,_⟩,h2⟩:=opd2_eval hx hR hv
 have h2:act.eval y=.int ik i:=h2
 obtain ⟨vs,h3⟩:=nest_slice hR (hh _ List.mem_cons_self) h1
 rcases h3.2 with ⟨e0,h0⟩ | ⟨g,cap,cur,e0,_⟩
 ·omega
 ·have hadd:(⟨g,0,none⟩:Addr).add (i.toNat * (size k0 + 1))=⟨g,0 + i.toNat * (size k0 + 1),none⟩:=by unfold Addr.add; split <;> simp_all
  refine ⟨.pointer (some ⟨g,0 + i.toNat * (size k0 + 1),none⟩),?_,g,xs.length,cap,by rw [← e0]; exact h1,by rw [Nat.zero_add]; rfl,hi0,hin⟩
  unfold execOp
  simp only [ho,e0,h2,Instr.indexAt,asIntOf,Sem.run_bind,run_underlying hd,Result.andThen_ok,Sem.run_pure,hi0,hi1,and_self,if_true,run_sizeOf hinfo,hisz,hsz,hadd]
def opLoadN (T:List (TypeId×TI)) (o:Oper) (σ:LS) (base:Nat) (t:TypeId) (x:Operand) (kk:Rec→Option ρ):Option ρ :=
 match T.lookup t,opd σ x with
 | some ti,some (.sv false [.eptr id sz i off],tl)=>match nestAt σ id with
  | some ⟨e,k0,e1,k1,xs,lk⟩=>if sz=size k0 + 1 then
    (cnd (Nat.beq off (size k0))
     (cnd (Nat.beq ti.sz 1 && !ti.agg) (match σ.at lk with
      | some (.lock r ver none)=>if r=id then kk ⟨o.dst,some (.sv false [.own base]),tl,[(id,some (.nest e k0 e1 k1 xs lk)),(lk,some (.lock r ver none))],[(base,some (.peek id i ver))],[base]⟩ else none
      | _=>none) none)
     (cnd (Nat.ble (off + ti.sz) (size k0)) (cnd ti.agg (kk ⟨o.dst,some (.sv true (((cellsOf k0 (xs.getD i.toNat (dflt k0,[])).1).drop off).take ti.sz)),tl,[(id,some (.nest e k0 e1 k1 xs lk))],[],[]⟩)
      (cnd (Nat.beq ti.sz 1) (kk ⟨o.dst,some (.sv false (((cellsOf k0 (xs.getD i.toNat (dflt k0,[])).1).drop off).take ti.sz)),tl,[(id,some (.nest e k0 e1 k1 xs lk))],[],[]⟩) none)) none)) else none
  | none=>none
 | _,_=>none
theorem cellN_slice {φ:Nat→Option Value} {w:World} {id c b n cap:Nat} (h:φ id=some (.slice (some ⟨b,0,none⟩) n cap)):cellN φ w id c=w.cell? ⟨b,c,none⟩:=by
 unfold cellN; rw [h]
theorem opLoadN_ok {P:Program} {T:List (TypeId×TI)} (hT:TOK P T) {o:Oper} {σ:LS} {t:TypeId} {x:Operand} {base:Nat} {kk:Rec→Option ρ} {z:ρ} (ho:o.op=.load t x) (h:opLoadN T o σ base t x kk=some z):∃ r,Good P o σ base r∧kk r=some z:=by
 unfold opLoadN at h
 split at h
 case h_2=>cases h
 case h_1 ti id sz i off tl hti hx =>
 split at h
 case h_2=>cases h
 case h_1 e k0 e1 k1 xs lk hat =>
 have h0:=ite_some h rfl
 clear h
 obtain ⟨rfl,h⟩:=h0
 have hat:=nestAt_eq hat
 obtain ⟨it,zz,hi1,hi2,_⟩:=(hT t ti hti).info
 obtain ⟨d,hd,_⟩:=(hT t ti hti).under
 have hag:=(hT t ti hti).agg
 cases hc:Nat.beq off (size k0) with
 | true =>
  rw [hc] at h
  have hoff:off=size k0:=Nat.eq_of_beq_eq_true hc
  cases hc2:(Nat.beq ti.sz 1 && !ti.agg) with
  | false=>rw [hc2] at h; cases h
  | true =>
   rw [hc2] at h
   simp only [Bool.and_eq_true,Bool.not_eq_true'] at hc2
   have hsz1:ti.sz=1:=Nat.eq_of_beq_eq_true hc2.1
   change (match σ.at lk with
      | some (.lock r ver none)=>if r=id then kk ⟨o.dst,some (.sv false [.own base]),tl,[(id,some (.nest e k0 e1 k1 xs lk)),(lk,some (.lock r ver none))],[(base,some (.peek id i ver))],[base]⟩ else none
      | _=>none)=some z at h
   split at h
   case h_2=>cases h
   case h_1 r ver hlk =>
   have h0:=ite_some h rfl
   clear h
   obtain ⟨rfl,h⟩:=h0
   refine ⟨_,⟨rfl,opd_temps hx,?_,by simp,?_⟩,h⟩
   ·intro p hp
    simp only [List.mem_cons,List.not_mem_nil,or_false] at hp
    rcases hp with rfl | rfl
    ·exact hat
    ·exact hlk
   intro fr σ' φ I a w K Q hR hv hdn hK
   obtain ⟨b,n,c,e2,e3,e4,e5⟩:RV fr.J φ I w (.eptr r (size k0 + 1) i off) (a.eval x):=opd_eval hx hR hv.1
   have hh:σ'.heap r=some (.nest e k0 e1 k1 xs lk):=hv.2.1 _ List.mem_cons_self
   have hh2:σ'.heap lk=some (.lock r ver none):=hv.2.1 _ (List.mem_cons_of_mem _ List.mem_cons_self)
   have hf:σ'.fresh base:=hv.2.2 base List.mem_cons_self
   obtain ⟨vs,hrow⟩:=nest_slice hR hh e2
   have hn:n=xs.length:=by
    rcases hrow.2 with ⟨e0,_⟩ | ⟨g,cap,cur,e0,_⟩
    ·cases e0
    ·cases e0; rfl
   subst hn
   obtain ⟨E,hE⟩:=hR.deep
   obtain ⟨u,us,q1,q2,q3,q4⟩:=(hE.nest r _ _ _ _ _ _ _ _ hh hh2).elem i.toNat e5 (by rintro ⟨_,_,h,_⟩; cases h)
   have hcell:w.cell? ⟨b,i.toNat * (size k0 + 1) + off,none⟩=some u:=by
    rw [hoff,← cellN_slice (c:=i.toNat * (size k0 + 1) + size k0) e2]; exact q1
   unfold Oper.wp
   have hrun:(execOp a.eval o).run P w=.ok (.value u) w:=by
    unfold execOp
    simp only [ho,e3,Instr.loadAt,Instr.sureAddr,loadVar,Sem.run_bind,Sem.run_pure,Result.andThen_ok,run_isAgg hd,hag,hc2.2,run_load,hcell,Bool.false_eq_true,if_false]
   rw [hrun,Oper.upon_value]
   refine hK (ext φ base u) I u w (hR.peekMk _ (id:=r) (lk:=lk) (n:=base) (ver:=ver) (st:=none) (i:=i) hdn rfl rfl hf hh hh2 q1 ?_)
   intro av ea
   simp only [Option.some.injEq] at ea
   subst ea
   exact ⟨ext_same,ownsRow_one q2⟩
 | false =>
  rw [hc] at h
  cases hc2:Nat.ble (off + ti.sz) (size k0) with
  | false=>rw [hc2] at h; cases h
  | true =>
   rw [hc2] at h
   have hfit:off + ti.sz ≤ size k0:=Nat.le_of_ble_eq_true hc2
   have main:∀ (g:Bool),ti.agg=g→(g=false→ti.sz=1)→Good P o σ base ⟨o.dst,some (.sv g (((cellsOf k0 (xs.getD i.toNat (dflt k0,[])).1).drop off).take ti.sz)),tl,[(id,some (.nest e k0 e1 k1 xs lk))],[],[]⟩:=by
    intro g hg h1
    refine ⟨rfl,opd_temps hx,by simpa using hat,by simp,OpOK.value rfl rfl rfl fun fr σ' φ I a w hR hv=>?_⟩
    obtain ⟨b,n,c,e2,e3,e4,e5⟩:RV fr.J φ I w (.eptr id (size k0 + 1) i off) (a.eval x):=opd_eval hx hR hv.1
    have hh:σ'.heap id=some (.nest e k0 e1 k1 xs lk):=hv.2.1 _ List.mem_cons_self
    obtain ⟨vs,hrow⟩:=nest_slice hR hh e2
    have hn:n=xs.length:=by
     rcases hrow.2 with ⟨e0,_⟩ | ⟨g,cap,cur,e0,_⟩
     ·cases e0
     ·cases e0; rfl
    subst hn
    obtain ⟨E,hE⟩:=hR.deep
    obtain ⟨vs0,q1,q2⟩:=hE.head id _ _ _ _ _ _ hh i.toNat e5
    have hget:xs.getD i.toNat (dflt k0,[])=xs[i.toNat]:=by simp [List.getD,e5]
    have hcs:all2 (RV fr.J φ I w) (((cellsOf k0 (xs.getD i.toNat (dflt k0,[])).1).drop off).take ti.sz) ((vs0.drop off).take ti.sz):=by
     rw [hget]; exact ((q1.cells).drop off).take ti.sz
    have hvl:((vs0.drop off).take ti.sz).length=ti.sz:=by
     rw [List.length_take,List.length_drop,q1.length]; omega
    have hcell:∀ j v,((vs0.drop off).take ti.sz)[j]?=some v→w.cell? ⟨b,i.toNat * (size k0 + 1) + off + j,none⟩=some v:=by
     intro j v hj
     rw [List.getElem?_take] at hj
     split at hj
     ·rw [List.getElem?_drop] at hj
      have:=q2 _ _ hj
      rw [cellN_slice e2] at this
      rw [Nat.add_assoc]; exact this
     ·cases hj
    have hrun:=run_load_cells (P:=P) hvl hcell
    generalize ((vs0.drop off).take ti.sz)=ws at hcs hvl hcell hrun
    generalize (((cellsOf k0 (xs.getD i.toNat (dflt k0,[])).1).drop off).take ti.sz)=cs at hcs ⊢
    cases g with
    | true =>
     refine ⟨.agg ws.toArray,?_,?_⟩
     ·unfold execOp
      simp only [ho,e3,Instr.loadAt,Instr.sureAddr,loadVar,Sem.run_bind,Sem.run_pure,Result.andThen_ok,run_isAgg hd,hag,hg,if_true,run_sizeOf hi1,hi2,hrun]
     ·intro av ea; simp only [Option.some.injEq] at ea; subst ea; exact ⟨ws,rfl,hcs⟩
    | false =>
     have h4:=h1 rfl
     match cs,ws,hcs,hvl,hcell with
     | [c1],[v1],hcs,hvl,hcell =>
      refine ⟨v1,?_,?_⟩
      ·have:=hcell 0 v1 rfl
       rw [Nat.add_zero] at this
       unfold execOp
       simp only [ho,e3,Instr.loadAt,Instr.sureAddr,loadVar,Sem.run_bind,Sem.run_pure,Result.andThen_ok,run_isAgg hd,hag,hg,run_load,this,Bool.false_eq_true,if_false]
      ·intro av ea; simp only [Option.some.injEq] at ea; subst ea; exact hcs.1
     | [],[],hcs,hvl,_=>simp at hvl; omega
     | _,_ :: _ :: _,hcs,hvl,_=>simp at hvl; omega
     | _ :: _ :: _,[_],hcs,hvl,_=>exact hcs.2.elim
     | _ :: _,[],hcs,hvl,_=>exact hcs.elim
     | [],_ :: _,hcs,hvl,_=>exact hcs.elim
   cases hg:ti.agg with
   | true=>rw [hg] at h; exact ⟨_,main true hg (by simp),h⟩
   | false =>
    rw [hg] at h
    cases hc3:Nat.beq ti.sz 1 with
    | false=>rw [hc3] at h; cases h
    | true =>
     rw [hc3] at h
     exact ⟨_,main false hg (fun _=>Nat.eq_of_beq_eq_true hc3),h⟩
def pendAs (σ:LS) (n id:Nat) (e1:TypeId) (k1:Ty):Option (List (D k1)):=match σ.at n with
 | some (.pend r e1' k1' ys)=>if h:r=id∧e1'=e1∧k1'=k1 then some (h.2.2 ▸ ys) else none
 | _=>none
theorem pendAs_eq {σ:LS} {n id:Nat} {e1:TypeId} {k1:Ty} {ys:List (D k1)} (h:pendAs σ n id e1 k1=some ys):σ.at n=some (.pend id e1 k1 ys):=by
 unfold pendAs at h
 split at h
 ·rename_i r e1' k1' ys' hh
  split at h
  ·rename_i hq
   obtain ⟨rfl,rfl,rfl⟩:=hq
   cases h; exact hh
  ·cases h
 ·cases h
theorem posN_ne {sz i j o p:Nat} (ho:o < sz) (hp:p < sz) (h:j * sz + o=i * sz + p):j=i∧o=p:=by
 rcases Nat.lt_trichotomy j i with h1 | h1 | h1
 ·have:(j + 1) * sz ≤ i * sz:=Nat.mul_le_mul_right _ h1
  rw [Nat.succ_mul] at this
  omega
 ·subst h1; exact ⟨rfl,by omega⟩
 ·have:(i + 1) * sz ≤ j * sz:=Nat.mul_le_mul_right _ h1
  rw [Nat.succ_mul] at this
  omega
theorem splcN_get {α:Type} (l:List α) (p:Nat) (v:List α) (c:Nat) (h:p + v.length ≤ l.length):(splc l p v)[c]?=if p ≤ c∧c < p + v.length then v[c - p]? else l[c]?:=by
 unfold splc
 have h1:(l.take p).length=p:=by rw [List.length_take]; omega
 by_cases c1:c < p
 ·rw [if_neg (by omega),List.append_assoc,List.getElem?_append_left (by omega),List.getElem?_take,if_pos c1]
 ·by_cases c2:c < p + v.length
  ·rw [if_pos (by omega),List.append_assoc,List.getElem?_append_right (by omega),h1,List.getElem?_append_left (by omega)]
  ·rw [if_neg (by omega),List.getElem?_append_right (by rw [List.length_append]; omega),List.length_append,h1,List.getElem?_drop]
   congr 1
   omega
def opStoreN (T:List (TypeId×TI)) (o:Oper) (σ:LS) (t:TypeId) (x y:Operand) (kk:Rec→Option ρ):Option ρ :=
 match T.lookup t,opd2 σ x y with
 | some ti,some (.sv false [.eptr id sz i off],.sv g cs,tl)=>if cs.length=ti.sz∧cs.all okCV=true then (match nestAt σ id with
  | some ⟨e,k0,e1,k1,xs,lk⟩=>if sz=size k0 + 1 then (match σ.at lk with
   | some (.lock r ver st)=>if r=id then
    (cnd (Nat.beq off (size k0)) (match cs,st with
     | [.own n],some (n',i')=>if n'=n then (match pendAs σ n id e1 k1 with
      | some ys=>if i=i' then kk ⟨o.dst,none,tl,[(id,some (.nest e k0 e1 k1 xs lk)),(lk,some (.lock id ver (some (n,i')))),(n,some (.pend id e1 k1 ys))],
        [(id,some (.nest e k0 e1 k1 (xs.set i.toNat ((xs.getD i.toNat (dflt k0,[])).1,ys)) lk)),(lk,some (.lock id (ver + 1) none))],[]⟩ else none
      | none=>none) else none
     | _,_=>none)
     (cnd (Nat.ble (off + cs.length) (size k0)) (match st with
      | none=>(match quoteAll false σ k0 (splc (cellsOf k0 (xs.getD i.toNat (dflt k0,[])).1) off cs) with
       | some (y',hp)=>kk ⟨o.dst,none,tl,(id,some (.nest e k0 e1 k1 xs lk)) :: (lk,some (.lock id ver none)) :: hp,
         [(id,some (.nest e k0 e1 k1 (xs.set i.toNat (y',(xs.getD i.toNat (dflt k0,[])).2)) lk)),(lk,some (.lock id (ver + 1) none))],[]⟩
       | none=>none)
      | some _=>none) none)) else none
   | _=>none) else none
  | none=>none) else none
 | _,_=>none
theorem opStoreN_ok {P:Program} {T:List (TypeId×TI)} (hT:TOK P T) {o:Oper} {σ:LS} {t:TypeId} {x y:Operand} {base:Nat} {kk:Rec→Option ρ} {z:ρ} (ho:o.op=.store t x y) (h:opStoreN T o σ t x y kk=some z):∃ r,Good P o σ base r∧kk r=some z:=by
 unfold opStoreN at h
 split at h
 case h_2=>cases h
 case h_1 ti id sz i off g cs tl hti hx =>
 have h0:=ite_some h rfl
 clear h
 obtain ⟨⟨hlen,hok⟩,h⟩:=h0
 split at h
 case h_2=>cases h
 case h_1 e k0 e1 k1 xs lk hat =>
 have hat:=nestAt_eq hat
 have h0:=ite_some h rfl
 clear h
 obtain ⟨rfl,h⟩:=h0
 split at h
 case h_2=>cases h
 case h_1 r ver st hlk =>
 have h0:=ite_some h rfl
 clear h
 obtain ⟨rfl,h⟩:=h0
 obtain ⟨it,zz,hi1,hi2,_⟩:=(hT t ti hti).info
 have run:∀ (a:Act) (w:World) (b off:Nat) (vs:List Value) (cur:Array Value) (tt:TypeId),a.eval x=.pointer (some ⟨b,off,none⟩)→(a.eval y).cells=vs.toArray→vs.length=ti.sz→w.heap[b]?=some (.cells cur tt (0,0))→off + vs.length ≤ cur.size→(∀ u ∈ vs,u.oneCell'=true) →
   (execOp a.eval o).run P w=.ok .skip (w.setRow b (splc cur.toList off vs).toArray):=by
  intro a w b off vs cur tt h1 h2 h3 h4 h5 h6
  have hst:=run_storeCells_at P b off tt vs 0 cur w h4 (by simpa using h5) h6
  simp only [Nat.add_zero] at hst
  unfold execOp
  simp only [ho,h1,Instr.storeAt,Instr.sureAddr,storeVar,h2,Sem.run_bind,Sem.run_pure,Result.andThen_ok,run_sizeOf hi1,hi2,List.size_toArray,h3,ne_eq,not_true_eq_false,if_false,hst,splc]
 have outer:∀ (fr:Fr) (σ':FS) (φ:Nat→Option Value) (I:Nat→Prop) (a:Act) (w:World),R fr σ' φ I a w→σ'.heap r=some (.nest e k0 e1 k1 xs lk)→∀ b n c,φ r=some (.slice (some ⟨b,0,none⟩) n c)→i.toNat < n→∀ (p:Nat) (vs:List Value),p + vs.length ≤ size k0 + 1→(∀ u ∈ vs,u.oneCell'=true) →
   n=xs.length∧∃ cur,w.heap[b]?=some (.cells cur e (0,0))∧i.toNat * (size k0 + 1) + p + vs.length ≤ cur.size ∧
    (∀ xs':List (D k0×List (D k1)),xs'.length=xs.length→∃ vs',(w.setRow b (splc cur.toList (i.toNat * (size k0 + 1) + p) vs).toArray).ownsRow 0 e (size k0 + 1) (.slice (some ⟨b,0,none⟩) n c) xs'.length vs') ∧
    (∀ cc,cellN φ (w.setRow b (splc cur.toList (i.toNat * (size k0 + 1) + p) vs).toArray) r cc=if i.toNat * (size k0 + 1) + p ≤ cc∧cc < i.toNat * (size k0 + 1) + p + vs.length then vs[cc - (i.toNat * (size k0 + 1) + p)]? else cellN φ w r cc) ∧
    (∀ b',b' ≠ b→(w.setRow b (splc cur.toList (i.toNat * (size k0 + 1) + p) vs).toArray).heap[b']?=w.heap[b']?):=by
  intro fr σ' φ I a w hR hh b n c e2 e5 p vs hp hone
  obtain ⟨vs0,hrow⟩:=nest_slice hR hh e2
  rcases hrow.2 with ⟨e0,_⟩ | ⟨g',cap,cur,e0,hb0,hg,hn1,hn2,hcs,htk⟩
  ·cases e0
  cases e0
  have hsz:i.toNat * (size k0 + 1) + (size k0 + 1) ≤ cur.size:=by
   rw [hcs,← Nat.succ_mul]; exact Nat.mul_le_mul_right _ (by omega)
  have hspl:i.toNat * (size k0 + 1) + p + vs.length ≤ cur.toList.length:=by
   have hct:cur.toList.length=cur.size:=Array.length_toList
   generalize i.toNat * (size k0 + 1)=S at hsz ⊢
   omega
  have hsl:(splc cur.toList (i.toNat * (size k0 + 1) + p) vs).length=cur.size:=by
   unfold splc
   simp only [List.length_append,List.length_take,List.length_drop,Array.length_toList] at hspl ⊢
   omega
  refine ⟨rfl,cur,hg,by simpa using hspl,fun xs' hx'=>⟨(splc cur.toList (i.toNat * (size k0 + 1) + p) vs).take (xs'.length * (size k0 + 1)),?_,.inr ⟨b,c,_,by rw [hx'],hb0,setRow_heap w b _ _ e (0,0) hg,by rw [hx']; exact hn1,hn2,by rw [List.size_toArray,hsl]; exact hcs,rfl⟩⟩,fun cc=>?_,fun b' hb'=>setRow_other w b b' _ hb'⟩
  ·rw [List.length_take,hsl,hcs,hx',Nat.min_eq_left (Nat.mul_le_mul_right _ hn1)]
  ·rw [cellN_slice e2,cellN_slice e2,cell_of_row _ b cc _ e (0,0) (setRow_heap w b _ _ e (0,0) hg),cell_of_row w b cc cur e (0,0) hg]
   rw [List.getElem?_toArray,splcN_get _ _ _ _ hspl]
   simp
 cases hc:Nat.beq off (size k0) with
 | true =>
  rw [hc] at h
  have hoff:off=size k0:=Nat.eq_of_beq_eq_true hc
  simp only [cnd] at h
  split at h
  case h_2=>cases h
  case h_1 n n' i' =>
  have h0:=ite_some h rfl
  clear h
  obtain ⟨rfl,h⟩:=h0
  split at h
  case h_2=>cases h
  case h_1 ys hpd =>
  have hpd:=pendAs_eq hpd
  have h0:=ite_some h rfl
  clear h
  obtain ⟨rfl,h⟩:=h0
  refine ⟨_,⟨rfl,opd2_temps hx,?_,by simp,?_⟩,h⟩
  ·intro p hp
   simp only [List.mem_cons,List.not_mem_nil,or_false] at hp
   rcases hp with rfl | rfl | rfl
   ·exact hat
   ·exact hlk
   ·exact hpd
  intro fr σ' φ I a w K Q hR hv hdn hK
  obtain ⟨h1,h2⟩:=opd2_eval hx hR hv.1
  have hh:σ'.heap r=some (.nest e k0 e1 k1 xs lk):=hv.2.1 _ List.mem_cons_self
  have hh2:σ'.heap lk=some (.lock r ver (some (n',i))):=hv.2.1 _ (List.mem_cons_of_mem _ List.mem_cons_self)
  have hh3:σ'.heap n'=some (.pend r e1 k1 ys):=hv.2.1 _ (List.mem_cons_of_mem _ (List.mem_cons_of_mem _ List.mem_cons_self))
  obtain ⟨b,n,c,e2,e3,e4,e5⟩:RV fr.J φ I w (.eptr r (size k0 + 1) i off) (a.eval x):=h1
  obtain ⟨vs,q3,q4,q5⟩:=cells_of_pack hok h2
  have hvl:vs.length=ti.sz:=by rw [← q4.length,hlen]
  match vs,q3,q4,q5,hvl with
  | [],_,q4,_,_=>exact q4.elim
  | _ :: _ :: _,_,q4,_,_=>exact q4.2.elim
  | [u],q3,q4,q5,hvl =>
  obtain ⟨hun,huo⟩:φ n'=some u∧u.oneCell'=true:=q4.1
  obtain ⟨rfl,cur,hg,hfit,hrow,hcell,hoth⟩:=outer fr σ' φ I a w hR hh b n c e2 e5 (size k0) [u] (by simp) (by simpa using huo)
  have hsx:(xs.set i.toNat ((xs.getD i.toNat (dflt k0,[])).1,ys)).length=xs.length:=List.length_set
  have hget:xs.getD i.toNat (dflt k0,[])=xs[i.toNat]:=by simp [List.getD,e5]
  have hbI:∀ b',I b'→b' ≠ b:=fun b' hb' e'=>(hR.own r _ _ b hh rfl e2 rfl).1 (e' ▸ hb')
  have hrd:∀ {k:Ty} {x:D k} {vs:List Value},RdC I w k x vs→RdC I (w.setRow b (splc cur.toList (i.toNat * (size k0 + 1) + size k0) [u]).toArray) k x vs:=fun h=>h.mono (fun _ h=>h) fun b' hb'=>hoth b' (hbI b' hb')
  have hcell':∀ j o,j < xs.length→o < size k0 + 1→¬ (j=i.toNat∧o=size k0)→cellN φ (w.setRow b (splc cur.toList (i.toNat * (size k0 + 1) + size k0) [u]).toArray) r (j * (size k0 + 1) + o)=cellN φ w r (j * (size k0 + 1) + o):=by
   intro j o hj ho hne
   rw [hcell,if_neg]
   rintro ⟨g1,g2⟩
   simp only [List.length_cons,List.length_nil] at g2
   exact hne (posN_ne ho (Nat.lt_succ_self _) (by omega))
  unfold Oper.wp
  rw [run a w b _ [u] cur e e3 q3 hvl hg (by rw [hoff]; exact hfit) q5,Oper.upon_skip,hoff]
  refine hK φ I undef _ (hR.nestPut _ (id:=r) (lk:=lk) (u0:=.slice (some ⟨b,0,none⟩) xs.length c) (xs':=xs.set i.toNat ((xs.getD i.toNat (dflt k0,[])).1,ys)) (ver:=ver) hdn rfl rfl hh hh2 e2 ((OnlyP.setRow w b _).mono fun k hk=>.inl (by rw [hk]; rfl)) (hrow _ hsx) (fun _ h=>by cases h) ?_ ?_)
  ·intro j hj
   rw [hsx] at hj
   obtain ⟨E,hE⟩:=hR.deep
   obtain ⟨vs0,p1,p2⟩:=hE.head r _ _ _ _ _ _ hh j hj
   have:(xs.set i.toNat ((xs.getD i.toNat (dflt k0,[])).1,ys))[j].1=xs[j].1:=by
    rw [List.getElem_set]
    split
    ·rename_i e0; subst e0; rw [hget]
    ·rfl
   refine ⟨vs0,by rw [this]; exact hrd p1,fun o' u' hu'=>?_⟩
   have hlo:o' < size k0:=by
    have:=(List.getElem?_eq_some_iff.1 hu').1
    rwa [p1.length] at this
   rw [hcell' j o' hj (by omega) (by omega)]
   exact p2 o' u' hu'
  ·intro E hE
   have hN:=hE.nest r _ _ _ _ _ _ _ _ hh hh2
   obtain ⟨t1,t2,u',us,t3,t4,t5,t6,t7⟩:=hE.pend n' r i _ _ _ hh3 _ _ _ _ _ _ _ hh hh2
   rw [hun] at t3; cases t3
   have hEb:∀ b',E r b'→b' ≠ b:=fun b' hb' e'=>hE.sep1 r b' hb' r _ _ hh rfl e2 (by rw [e']; rfl)
   have nX:∀ j,j ≠ i.toNat→¬ holeX (some (n',i)) j:=by
    rintro j hj ⟨_,_,hq,he⟩
    cases hq
    exact hj he
   have hci:cellN φ (w.setRow b (splc cur.toList (i.toNat * (size k0 + 1) + size k0) [u]).toArray) r (i.toNat * (size k0 + 1) + size k0)=some u:=by
    rw [hcell,if_pos (by simp)]; simp
   constructor
   ·intro j hj _
    rw [hsx] at hj
    by_cases e0:j=i.toNat
    ·subst e0
     refine ⟨u,us,hci,?_,?_,fun b' hb'=>(t7 b' hb').1⟩
     ·simp only [List.getElem_set_self]
      exact ownsRow_frame t5 fun b' hb'=>hoth b' (hEb b' (t7 b' hb').1)
     ·simp only [List.getElem_set_self]
      exact t6.mono fun _ _ h=>hrd h
    ·obtain ⟨uj,usj,p1,p2,p3,p4⟩:=hN.elem j hj (nX j e0)
     refine ⟨uj,usj,by rw [hcell' j _ hj (by omega) (by omega)]; exact p1,?_,?_,p4⟩
     ·rw [List.getElem_set_ne (fun e=>e0 e.symm)]
      exact ownsRow_frame p2 fun b' hb'=>hoth b' (hEb b' (p4 b' hb'))
     ·rw [List.getElem_set_ne (fun e=>e0 e.symm)]
      exact p3.mono fun _ _ h=>hrd h
   ·intro j j' uj uj' b' hj hj' _ _ hne p1 p2 hb' hb''
    rw [hsx] at hj hj'
    by_cases e0:j=i.toNat
    ·subst e0
     rw [hci] at p1; cases p1
     rw [hcell' j' _ hj' (by omega) (by omega)] at p2
     exact (t7 b' hb').2 j' uj' hj' (Ne.symm hne) p2 hb''
    ·rw [hcell' j _ hj (by omega) (by omega)] at p1
     by_cases e9:j'=i.toNat
     ·subst e9
      rw [hci] at p2; cases p2
      exact (t7 b' hb'').2 j uj hj hne p1 hb'
     ·rw [hcell' j' _ hj' (by omega) (by omega)] at p2
      exact hN.dist j j' uj uj' b' hj hj' (nX j e0) (nX j' e9) hne p1 p2 hb' hb''
 | false =>
  rw [hc] at h
  cases hc2:Nat.ble (off + cs.length) (size k0) with
  | false=>rw [hc2] at h; cases h
  | true =>
  rw [hc2] at h
  have hfit:off + cs.length ≤ size k0:=Nat.le_of_ble_eq_true hc2
  simp only [cnd] at h
  split at h
  case h_2=>cases h
  case h_1 =>
  split at h
  case h_2=>cases h
  case h_1 y' hp hq =>
  refine ⟨_,⟨rfl,opd2_temps hx,?_,by simp,?_⟩,h⟩
  ·intro p hp'
   simp only [List.mem_cons] at hp'
   rcases hp' with rfl | rfl | hp'
   ·exact hat
   ·exact hlk
   ·exact quoteAll_hp hq p hp'
  intro fr σ' φ I a w K Q hR hv hdn hK
  obtain ⟨h1,h2⟩:=opd2_eval hx hR hv.1
  have hh:σ'.heap r=some (.nest e k0 e1 k1 xs lk):=hv.2.1 _ List.mem_cons_self
  have hh2:σ'.heap lk=some (.lock r ver none):=hv.2.1 _ (List.mem_cons_of_mem _ List.mem_cons_self)
  obtain ⟨b,n,c,e2,e3,e4,e5⟩:RV fr.J φ I w (.eptr r (size k0 + 1) i off) (a.eval x):=h1
  obtain ⟨vs,q3,q4,q5⟩:=cells_of_pack hok h2
  have hvl:vs.length=ti.sz:=by rw [← q4.length,hlen]
  have hcl:vs.length=cs.length:=q4.length.symm
  obtain ⟨rfl,cur,hg,hfit2,hrow,hcell,hoth⟩:=outer fr σ' φ I a w hR hh b n c e2 e5 off vs (by omega) q5
  have hsx:(xs.set i.toNat (y',(xs.getD i.toNat (dflt k0,[])).2)).length=xs.length:=List.length_set
  have hget:xs.getD i.toNat (dflt k0,[])=xs[i.toNat]:=by simp [List.getD,e5]
  have hbI:∀ b',I b'→b' ≠ b:=fun b' hb' e'=>(hR.own r _ _ b hh rfl e2 rfl).1 (e' ▸ hb')
  have hrd:∀ {k:Ty} {x:D k} {ws:List Value},RdC I w k x ws→RdC I (w.setRow b (splc cur.toList (i.toNat * (size k0 + 1) + off) vs).toArray) k x ws:=fun h=>h.mono (fun _ h=>h) fun b' hb'=>hoth b' (hbI b' hb')
  have hcell':∀ j o',j < xs.length→o' < size k0 + 1→(j ≠ i.toNat ∨ o' < off ∨ off + vs.length ≤ o')→cellN φ (w.setRow b (splc cur.toList (i.toNat * (size k0 + 1) + off) vs).toArray) r (j * (size k0 + 1) + o')=cellN φ w r (j * (size k0 + 1) + o'):=by
   intro j o' hj ho' hne
   rw [hcell,if_neg]
   rintro ⟨g1,g2⟩
   obtain ⟨d,hd,hdl⟩:∃ d,j * (size k0 + 1) + o'=i.toNat * (size k0 + 1) + (off + d)∧d < vs.length:=⟨j * (size k0 + 1) + o' - (i.toNat * (size k0 + 1) + off),by omega,by omega⟩
   have:=posN_ne ho' (by omega) hd
   omega
  have hEnds:∀ j,j < xs.length→cellN φ (w.setRow b (splc cur.toList (i.toNat * (size k0 + 1) + off) vs).toArray) r (j * (size k0 + 1) + size k0)=cellN φ w r (j * (size k0 + 1) + size k0):=fun j hj=>hcell' j _ hj (by omega) (by omega)
  unfold Oper.wp
  rw [run a w b _ vs cur e e3 q3 hvl hg hfit2 q5,Oper.upon_skip]
  have hq2:∀ p ∈ hp,σ'.heap p.1=p.2:=fun p hp=>hv.2.1 p (List.mem_cons_of_mem _ (List.mem_cons_of_mem _ hp))
  refine hK φ I undef _ (hR.nestPut _ (id:=r) (lk:=lk) (u0:=.slice (some ⟨b,0,none⟩) xs.length c) (xs':=xs.set i.toNat (y',(xs.getD i.toNat (dflt k0,[])).2)) (ver:=ver) hdn rfl rfl hh hh2 e2 ((OnlyP.setRow w b _).mono fun k hk=>.inl (by rw [hk]; rfl)) (hrow _ hsx) (fun _ h=>by cases h) ?_ ?_)
  ·intro j hj
   rw [hsx] at hj
   obtain ⟨E,hE⟩:=hR.deep
   obtain ⟨vs0,p1,p2⟩:=hE.head r _ _ _ _ _ _ hh j hj
   by_cases e0:j=i.toNat
   ·subst e0
    simp only [List.getElem_set_self]
    have hnew:all2 (RV fr.J φ I w) (splc (cellsOf k0 (xs.getD i.toNat (dflt k0,[])).1) off cs) (splc vs0 off vs):=by
     rw [hget]
     exact (p1.cells).splc q4 off
    have hr:=quoteAll_ok hq hR hq2 ⟨fun _ h=>h,fun h=>by cases h⟩ hnew
    refine ⟨splc vs0 off vs,hrd hr,fun o' u' hu'=>?_⟩
    have hlo:o' < size k0:=by
     have:=(List.getElem?_eq_some_iff.1 hu').1
     rwa [hr.length] at this
    rw [splcN_get _ _ _ _ (by rw [p1.length]; omega)] at hu'
    by_cases c1:off ≤ o'∧o' < off + vs.length
    ·rw [if_pos c1] at hu'
     rw [hcell,if_pos (by omega),← hu']
     congr 1
     omega
    ·rw [if_neg c1] at hu'
     rw [hcell' _ o' hj (by omega) (by omega)]
     exact p2 o' u' hu'
   ·rw [List.getElem_set_ne (fun e=>e0 e.symm)]
    refine ⟨vs0,hrd p1,fun o' u' hu'=>?_⟩
    have hlo:o' < size k0:=by
     have:=(List.getElem?_eq_some_iff.1 hu').1
     rwa [p1.length] at this
    rw [hcell' j o' hj (by omega) (.inl e0)]
    exact p2 o' u' hu'
  ·intro E hE
   have hN:=hE.nest r _ _ _ _ _ _ _ _ hh hh2
   have hEb:∀ b',E r b'→b' ≠ b:=fun b' hb' e'=>hE.sep1 r b' hb' r _ _ hh rfl e2 (by rw [e']; rfl)
   have hsnd:∀ j (hj:j < xs.length),(xs.set i.toNat (y',(xs.getD i.toNat (dflt k0,[])).2))[j].2=xs[j].2:=by
    intro j hj
    rw [List.getElem_set]
    split
    ·rename_i e0; subst e0; rw [hget]
    ·rfl
   constructor
   ·intro j hj hX
    rw [hsx] at hj
    obtain ⟨uj,usj,p1,p2,p3,p4⟩:=hN.elem j hj hX
    refine ⟨uj,usj,by rw [hEnds j hj]; exact p1,?_,?_,p4⟩
    ·rw [hsnd j hj]
     exact ownsRow_frame p2 fun b' hb'=>hoth b' (hEb b' (p4 b' hb'))
    ·rw [hsnd j hj]
     exact p3.mono fun _ _ h=>hrd h
   ·intro j j' uj uj' b' hj hj' hX hX' hne p1 p2
    rw [hsx] at hj hj'
    rw [hEnds j hj] at p1
    rw [hEnds j' hj'] at p2
    exact hN.dist j j' uj uj' b' hj hj' hX hX' hne p1 p2
theorem rowcell {w:World} {φ:Nat→Option Value} {id base:Nat} {e:TypeId} {sz n:Nat} {u:Value} {vs:List Value} (hu:φ id=some u) (h:w.ownsRow base e sz u n vs) {c:Nat} (hc:c < n * sz):cellN φ w id c=vs[c]?:=by
 rcases h.2 with ⟨_,h0⟩ | ⟨g,cap,cur,rfl,_,hg,_,_,_,htk⟩
 ·subst h0; omega
 ·rw [cellN_slice hu,cell_of_row w g c cur e (0,0) hg,← htk,List.getElem?_take,if_pos hc]
  simp
def peekAt (σ:LS) (n:Nat):Option (Nat×Int×Nat):=match σ.at n with
 | some (.peek r i ver)=>some (r,i,ver)
 | _=>none
theorem peekAt_eq {σ:LS} {n r:Nat} {i:Int} {ver:Nat} (h:peekAt σ n=some (r,i,ver)):σ.at n=some (.peek r i ver):=by
 unfold peekAt at h
 split at h
 ·rename_i hh; cases h; exact hh
 ·cases h
def lockAt (σ:LS) (lk id:Nat):Option Nat:=match σ.at lk with
 | some (.lock r ver none)=>if r=id then some ver else none
 | _=>none
theorem lockAt_eq {σ:LS} {lk id ver:Nat} (h:lockAt σ lk id=some ver):σ.at lk=some (.lock id ver none):=by
 unfold lockAt at h
 split at h
 ·rename_i hh
  split at h
  ·rename_i hq; subst hq; cases h; exact hh
  ·cases h
 ·cases h
def opAppendP (T:List (TypeId×TI)) (o:Oper) (σ:LS) (base:Nat) (t:TypeId) (x y:Operand) (kk:Rec→Option ρ):Option ρ :=
 match T.lookup t,opd2 σ x y with
 | some ti,some (.sv false [.own n0],.sv false [d],tl)=>match ti.kind,peekAt σ n0 with
  | .slice e',some (id,i,ver')=>match nestAt σ id,T.lookup e' with
   | some ⟨e,k0,e1,k1,xs,lk⟩,some ei=>match lockAt σ lk id with
    | some ver=>if ver'=ver∧e'=e1∧ei.ty=some k1 then (match opAppend.qAny σ e1 k1 d with
     | some (ys,hp')=>if 0 ≤ i∧i < (xs.length:Int) then (if ((xs.getD i.toNat (dflt k0,[])).2.length + ys.length) * ei.bytes ≤ 140737488355328∧0 < ei.bytes then
       kk ⟨o.dst,some (.sv false [.own base]),tl,(n0,some (.peek id i ver)) :: (id,some (.nest e k0 e1 k1 xs lk)) :: (lk,some (.lock id ver none)) :: hp',[(lk,some (.lock id ver (some (base,i)))),(base,some (.pend id e1 k1 ((xs.getD i.toNat (dflt k0,[])).2 ++ ys)))],[base]⟩ else none) else none
     | none=>none) else none
    | none=>none
   | _,_=>none
  | _,_=>none
 | _,_=>none
theorem opAppendP_ok {P:Program} {T:List (TypeId×TI)} (hT:TOK P T) {o:Oper} {σ:LS} {t:TypeId} {x y:Operand} {base:Nat} {kk:Rec→Option ρ} {z:ρ} (ho:o.op=.call { callee:=.builtin .append,args:=#[x,y],argTypes:=#[t,t] }) (h:opAppendP T o σ base t x y kk=some z):∃ r,Good P o σ base r∧kk r=some z:=by
 unfold opAppendP at h
 split at h
 case h_2=>cases h
 case h_1 ti n0 d tl hti hx =>
 split at h
 case h_2=>cases h
 case h_1 e' id i ver' hkind hpk =>
 split at h
 case h_2=>cases h
 case h_1 e k0 e1 k1 xs lk ei hat hei =>
 split at h
 case h_2=>cases h
 case h_1 ver hlk =>
 have h0:=ite_some h rfl
 clear h
 obtain ⟨⟨rfl,rfl,hk⟩,h⟩:=h0
 split at h
 case h_2=>cases h
 case h_1 ys hp' hq =>
 have h0:=ite_some h rfl
 clear h
 obtain ⟨⟨hi0,hi1⟩,h⟩:=h0
 have h0:=ite_some h rfl
 clear h
 obtain ⟨⟨hfit,hpos⟩,h⟩:=h0
 have hat:=nestAt_eq hat
 have hlk:=lockAt_eq hlk
 have hpk:=peekAt_eq hpk
 have hin:i.toNat < xs.length:=by omega
 have hget:xs.getD i.toNat (dflt k0,[])=xs[i.toNat]:=by simp [List.getD,hin]
 obtain ⟨dd,hd,hkd⟩:=(hT t ti hti).under
 rw [hkind] at hkd
 simp only [TK.ok] at hkd
 subst hkd
 obtain ⟨it,zv,hi1',hi2,hi3,hi4,hi5⟩:=(hT e' ei hei).info
 obtain ⟨hs1,hs2,hs3⟩:=(hT e' ei hei).ty k1 hk
 have hsz:it.size=size k1:=by rw [hi2,hs1]
 refine ⟨_,⟨rfl,opd2_temps hx,?_,by simp,?_⟩,h⟩
 ·intro p hp0
  simp only [List.mem_cons] at hp0
  rcases hp0 with rfl | rfl | rfl | hp0
  ·exact hpk
  ·exact hat
  ·exact hlk
  ·exact qAny_hp hq p hp0
 intro fr σ' φ I a w K Q hR hv hdn hK
 obtain ⟨⟨h1,_⟩,h2⟩:=opd2_eval hx hR hv.1
 have hh3:σ'.heap n0=some (.peek id i ver'):=hv.2.1 _ List.mem_cons_self
 have hh:σ'.heap id=some (.nest e k0 e' k1 xs lk):=hv.2.1 _ (List.mem_cons_of_mem _ List.mem_cons_self)
 have hh2:σ'.heap lk=some (.lock id ver' none):=hv.2.1 _ (List.mem_cons_of_mem _ (List.mem_cons_of_mem _ List.mem_cons_self))
 have hf:σ'.fresh base:=hv.2.2 base List.mem_cons_self
 obtain ⟨ad,cap,us,h6,h7,_,h8⟩:=qAny_ok hq hR (fun p hp=>hv.2.1 p (List.mem_cons_of_mem _ (List.mem_cons_of_mem _ (List.mem_cons_of_mem _ hp)))) (show RV fr.J φ I w d (a.eval y) from h2)
 obtain ⟨E,hE⟩:=hR.deep
 obtain ⟨u0,vs,q1,h3,h4,q4⟩:=(hE.nest id _ _ _ _ _ _ _ _ hh hh2).elem i.toNat hin (by rintro ⟨_,_,h,_⟩; cases h)
 have hu0:a.eval x=u0:=by
  have:=hE.peek n0 id i ver' hh3 _ _ _ _ _ _ _ hh hh2 hi0 hin
  rw [q1,h1] at this
  exact Option.some.inj this
 have hul:us.length=ys.length * size k1:=lst.length (fun _ _ h=>h.length) h7
 have hu1:∀ u ∈ us,u.oneCell'=true:=lst.all (p:=fun u=>u.oneCell'=true) (fun _ _ h=>h.one) h7
 have hall:lst (RdC I w k1) ((xs[i.toNat]).2 ++ ys) (vs ++ us):=h4.append h7
 have hzz:zv.cells.size=size k1:=by rw [← Array.length_toList,hi5,← hs2]; exact (zeros_rd (I:=fun _=>False) (w:=w) k1).length
 rw [hget] at hfit
 have hb:((xs[i.toNat]).2.length + ys.length) ≤ 140737488355328:=Nat.le_trans (Nat.le_mul_of_pos_right _ hpos) hfit
 have fin:∀ (v':Value) (w':World),(Builtin.append_ #[t,t] o.type #[a.eval x,a.eval y]).run P w=.ok v' w'→w'.ownsRow 0 e' (size k1) v' ((xs[i.toNat]).2.length + ys.length) (vs ++ us)→w.grownBy w' u0.ownBlock→(v'.ownBlock=u0.ownBlock ∨ v'.ownBlock=some w.heap.size)→Oper.wp P o a w K Q:=by
  intro v' w' hr hown hgr hat'
  have hbv:=blk_own v' w' hown
  have hbx:=blk_own u0 w h3
  unfold Oper.wp
  have hrun:(execOp a.eval o).run P w=.ok (.value v') w':=by
   unfold execOp
   simp only [ho,resolve,invoke,builtin,Sem.run_bind,Sem.run_pure,Result.andThen_ok,List.map_toArray,List.map_cons,List.map_nil,hr]
  rw [hrun,Oper.upon_value]
  refine hK (ext φ base v') I v' w' (hR.pendMk _ (id:=id) (lk:=lk) (n:=base) (n0:=n0) (u0:=u0) (u:=v') (ver:=ver') (i:=i) (ys:=(xs[i.toNat]).2 ++ ys) hdn (by rw [hget]) rfl hf hh hh2 hh3 hi0 hin (by rw [← hu0]; exact h1) (by rw [hbx]; exact OnlyP.of_grown hgr) ?_ ⟨vs ++ us,by rw [List.length_append]; exact hown,hall⟩ ?_)
  ·intro b hb
   rw [hbv] at hb
   rcases hat' with h | h
   ·left; rw [hbx,← h]; exact hb
   ·right; rw [h] at hb; cases hb; exact Nat.le_refl _
  ·intro av ea
   simp only [Option.some.injEq] at ea
   subst ea
   exact ⟨ext_same,ownsRow_one hown⟩
 rcases h8 with h8 | ⟨b,off,rfl,h9⟩
 ·subst h8
  have hus:us=[]:=by simpa [lst] using h7
  subst hus
  refine fin u0 w ?_ (by simpa using h3) ⟨rfl,rfl,rfl,Nat.le_refl _,fun _ _ _=>rfl⟩ (.inl rfl)
  rw [h6,hu0]
  exact run_append_nothing hd hi1' h3 ad cap
 ·have hcells:∀ j u,us[j]?=some u→w.cell? ((⟨b,off,none⟩:Addr).add j)=some u:=by
   intro j u hu
   have:(⟨b,off,none⟩:Addr).add j=⟨b,off + j,none⟩:=by unfold Addr.add; split <;> simp_all
   rw [this]
   exact h9 j u hu
  obtain ⟨v',w',hr,h10,h11,_,h12⟩:=run_append_own_at (P:=P) w 0 t o.type e' it zv (size k1) ei.bytes hd hi1' hi4 hsz hi3 hzz hs3 u0 (xs[i.toNat]).2.length vs h3 ⟨b,off,none⟩ ys.length cap us hul hcells hu1 (by unfold maxLen; omega) hfit (Nat.zero_le _)
  rw [← h6,← hu0] at hr
  exact fin v' w' hr h10 h11 h12
end
end Go.Ev
