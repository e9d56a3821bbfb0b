/- A checked evaluator, part C: operations that turn nothing in memory, or make a new block. -/
import Derived.Test.YtjdlancjbdmkhaaQEvB
namespace Go.Ev
open Go.RowKit
set_option linter.unusedVariables false
inductive TK where
 | slice (e:TypeId)
 | struct (fl:List (Nat×Nat×Bool))
 | ptr (e:TypeId)
 | str
 | int (k:IntKind)
 | bool
 | map (k e:TypeId)
 | other
structure TI where
 sz:Nat
 agg:Bool
 bytes:Nat
 zero:List Value
 kind:TK
 ty:Option Ty
 eqi:Bool
def aggB (P:Program) (t:TypeId):Bool :=
 match P.underlying t with
 | some (.struct _)=>true
 | some (.array _ _)=>true
 | _=>false
def zeros:Ty→List Value
 | .int k=>[.int k 0]
 | .bool=>[.bool false]
 | .str=>[.string ByteArray.empty]
 | .unit=>[]
 | .pair a b=>zeros a ++ zeros b
 | .seq _ _=>[.slice none 0 0]
 | .fn=>[.nilFunc]
 | .mset=>[.map none]
def TK.ok (P:Program):TK→TypeDesc→Prop
 | .slice e,d=>d=.slice e
 | .struct fl,d=>∃ fs,d=.struct fs∧fs.toList.map (fun f=>(f.offset,(P.info? f.type).map (·.size),(P.underlying f.type).isSome,aggB P f.type))=fl.map fun p=>(p.1,some p.2.1,true,p.2.2)
 | .ptr e,d=>d=.pointer e
 | .str,d=>d=.string
 | .int k,d=>d=.int k
 | .bool,d=>d=.bool
 | .map k e,d=>d=.map k e
 | .other,_=>True
def flatB (P:Program):List Field→Nat→Bool
 | [],_=>true
 | f :: fs, i => (f.name != "_") && ((f.offset == i) && ((match P.underlying f.type with
  | some (.int _)=>true
  | _=>false) && flatB P fs (i + 1)))
def Flat (P:Program) (t:TypeId) (n:Nat):Prop :=
 P.eqGuardType P.depth t=false∧P.stoodInHeld t=false∧∃ fs,P.underlying t=some (.struct fs)∧flatB P fs.toList 0=true∧fs.toList.length=n
structure TIOK (P:Program) (t:TypeId) (i:TI):Prop where
 info:∃ it z,P.info? t=some it∧it.size=i.sz∧it.bytes=i.bytes∧it.zero=some z∧z.cells.toList=i.zero
 under:∃ d,P.underlying t=some d∧i.kind.ok P d
 agg:aggB P t=i.agg
 ty:∀ k,i.ty=some k→size k=i.sz∧zeros k=i.zero∧0 < size k
 eqi:i.eqi=true→Flat P t i.sz
def TOK (P:Program) (T:List (TypeId×TI)):Prop:=∀ t i,T.lookup t=some i→TIOK P t i
theorem run_isAgg {P:Program} {t:TypeId} {d:TypeDesc} (h:P.underlying t=some d) (w:World):(isAgg t).run P w=.ok (aggB P t) w:=by
 unfold isAgg aggB
 rw [Sem.run_bind,run_underlying h]
 simp only [Result.andThen_ok,h]
 cases d <;> rfl
theorem run_sizeOf {P:Program} {t:TypeId} {i:TypeInfo} (h:P.info? t=some i) (w:World):(sizeOf t).run P w=.ok i.size w:=by simp [sizeOf,typeInfo,h]
theorem zeros_rd {I:Nat→Prop} {w:World}:∀ (k:Ty),RdC I w k (dflt k) (zeros k)
 | .int _=>rfl
 | .bool=>rfl
 | .str=>rfl
 | .unit=>rfl
 | .pair a b=>⟨_,_,rfl,zeros_rd a,zeros_rd b⟩
 | .seq _ _=>⟨none,0,rfl,Nat.le_refl _,.inl rfl⟩
 | .fn=>rfl
 | .mset=>⟨_,rfl,.inl ⟨rfl,rfl⟩⟩
def hgt:Nat:=0
def cnd {α:Type} (c:Bool) (a b:α):α:=(fun _:Nat=>match c with
 | true=>a
 | false=>b) hgt
@[simp] theorem cnd_true {α:Type} (a b:α):cnd true a b=a:=rfl
@[simp] theorem cnd_false {α:Type} (a b:α):cnd false a b=b:=rfl
structure LS where
 env:List (Nat×Option AV)
 heap:List (Nat×Option HV)
 next:Nat
 pins:List Nat
def LS.get (σ:LS) (t:Nat):Option AV:=match σ.env.lookup t with
 | some x=>x
 | none=>none
def LS.at (σ:LS) (id:Nat):Option HV:=match σ.heap.lookup id with
 | some x=>x
 | none=>none
def LS.toF (σ:LS):FS:=⟨σ.get,σ.at,fun id=>σ.next ≤ id,σ.pins⟩
def Good (P:Program) (o:Oper) (σ:LS) (base:Nat) (r:Rec):Prop :=
 r.dst=o.dst∧(∀ p ∈ r.temps,σ.get p.1=some p.2)∧(∀ p ∈ r.hp,σ.at p.1=p.2)∧(∀ id ∈ r.new,base ≤ id∧id < base + 16)∧OpOK P o r
def opd (σ:LS):Operand→Option (AV×List (Tmp×AV))
 | .tmp t=>match σ.get t with
  | some av=>some (av,[(t,av)])
  | none=>none
 | .const v=>some (.sv false [.lit v],[])
 | .func f=>some (.sv false [.clo f []],[])
 | .global _=>none
theorem opd_temps {σ:LS} {x:Operand} {av:AV} {tl:List (Tmp×AV)} (h:opd σ x=some (av,tl)):∀ p ∈ tl,σ.get p.1=some p.2:=by
 cases x with
 | tmp t =>
  simp only [opd] at h
  cases hg:σ.get t with
  | none=>rw [hg] at h; cases h
  | some y =>
   rw [hg] at h
   simp only [Option.some.injEq,Prod.mk.injEq] at h
   obtain ⟨rfl,rfl⟩:=h
   intro p hp
   simp at hp
   subst hp
   exact hg
 | const v=>simp only [opd,Option.some.injEq,Prod.mk.injEq] at h; obtain ⟨rfl,rfl⟩:=h; simp
 | func f=>simp only [opd,Option.some.injEq,Prod.mk.injEq] at h; obtain ⟨rfl,rfl⟩:=h; simp
 | global g=>cases h
theorem opd_eval {σ:LS} {x:Operand} {av:AV} {tl:List (Tmp×AV)} (h:opd σ x=some (av,tl)) {fr:Fr} {σ':FS} {φ:Nat→Option Value} {I:Nat→Prop} {a:Act} {w:World}
  (hR:R fr σ' φ I a w) (hv:∀ p ∈ tl,σ'.env p.1=some p.2):RA fr.J φ I w av (a.eval x):=by
 cases x with
 | tmp t =>
  simp only [opd] at h
  cases hg:σ.get t with
  | none=>rw [hg] at h; cases h
  | some y =>
   rw [hg] at h
   simp only [Option.some.injEq,Prod.mk.injEq] at h
   obtain ⟨rfl,rfl⟩:=h
   obtain ⟨v,h1,h2⟩:=hR.env t y (hv (t,y) (by simp))
   simp only [Act.eval,Array.getD_eq_getD_getElem?,h1]
   exact h2
 | const v=>simp only [opd,Option.some.injEq,Prod.mk.injEq] at h; obtain ⟨rfl,rfl⟩:=h; exact rfl
 | func f=>simp only [opd,Option.some.injEq,Prod.mk.injEq] at h; obtain ⟨rfl,rfl⟩:=h; exact ⟨[],rfl,trivial⟩
 | global g=>cases h
theorem OpOK.value {P:Program} {o:Oper} {r:Rec} (hd:r.dst=o.dst) (hw:r.wr=[]) (hn:r.new=[])
  (h:∀ (fr:Fr) (σ:FS) (φ:Nat→Option Value) (I:Nat→Prop) (a:Act) (w:World),R fr σ φ I a w→r.valid σ →
   ∃ v,(execOp a.eval o).run P w=.ok (.value v) w∧∀ av,r.val=some av→RA fr.J φ I w av v):OpOK P o r:=by
 intro fr σ φ I a w K Q hR hv hdn hK
 obtain ⟨v,h1,h2⟩:=h fr σ φ I a w hR hv
 unfold Oper.wp
 rw [h1,Oper.upon_value]
 refine hK φ I v w ?_
 rw [← hd]
 exact hR.pure r (by rw [hd]; exact hdn) hw hn h2
section
variable {ρ:Type}
def opMove (o:Oper) (σ:LS) (x:Operand) (k:Rec→Option ρ):Option ρ :=
 match opd σ x with
 | some (av,tl)=>k ⟨o.dst,some av,tl,[],[],[]⟩
 | none=>none
theorem opMove_ok {P:Program} {o:Oper} {σ:LS} {x:Operand} {base:Nat} {k:Rec→Option ρ} {z:ρ} (ho:o.op=.move x ∨ o.op=.assign x) (h:opMove o σ x k=some z):∃ r,Good P o σ base r∧k r=some z:=by
 unfold opMove at h
 cases hx:opd σ x with
 | none=>rw [hx] at h; cases h
 | some p =>
  obtain ⟨av,tl⟩:=p
  rw [hx] at h
  refine ⟨_,⟨rfl,opd_temps hx,by simp,by simp,OpOK.value rfl rfl rfl fun fr σ' φ I a w hR hv=>⟨a.eval x,?_,?_⟩⟩,h⟩
  ·unfold execOp
   rcases ho with ho | ho <;> simp [ho]
  ·intro av' e
   simp only [Option.some.injEq] at e
   subst e
   exact opd_eval hx hR hv.1
def boolOf:AV→Option Bool
 | .sv false [.lit (.bool b)]=>some b
 | _=>none
theorem boolOf_eq {av:AV} {b:Bool} (h:boolOf av=some b):av=.sv false [.lit (.bool b)]:=by
 unfold boolOf at h
 split at h
 ·simp only [Option.some.injEq] at h; subst h; rfl
 ·cases h
def opPick (o:Oper) (σ:LS) (c x y:Operand) (k:Rec→Option ρ):Option ρ :=
 match opd σ c with
 | some (cv,tc)=>match boolOf cv with
  | some b=>cnd b
    (match opd σ x with
     | some (av,tl)=>k ⟨o.dst,some av,tc ++ tl,[],[],[]⟩
     | none=>none)
    (match opd σ y with
     | some (av,tl)=>k ⟨o.dst,some av,tc ++ tl,[],[],[]⟩
     | none=>none)
  | none=>none
 | none=>none
theorem opPick_ok {P:Program} {o:Oper} {σ:LS} {c x y:Operand} {base:Nat} {k:Rec→Option ρ} {z:ρ} (ho:o.op=.pick c x y) (h:opPick o σ c x y k=some z):∃ r,Good P o σ base r∧k r=some z:=by
 unfold opPick at h
 cases hc:opd σ c with
 | none=>rw [hc] at h; cases h
 | some p =>
  obtain ⟨cv,tc⟩:=p
  simp only [hc] at h
  cases hb:boolOf cv with
  | none=>rw [hb] at h; cases h
  | some b =>
   simp only [hb] at h
   have hcv:=boolOf_eq hb
   have key:∀ (q:Operand) (hq:q=if b then x else y),(match opd σ q with
     | some (av,tl)=>k ⟨o.dst,some av,tc ++ tl,[],[],[]⟩
     | none=>none)=some z→∃ r,Good P o σ base r∧k r=some z:=by
    intro q hq h
    cases hx:opd σ q with
    | none=>rw [hx] at h; cases h
    | some p =>
     obtain ⟨av,tl⟩:=p
     rw [hx] at h
     refine ⟨_,⟨rfl,?_,by simp,by simp,OpOK.value rfl rfl rfl fun fr σ' φ I a w hR hv=>⟨a.eval q,?_,?_⟩⟩,h⟩
     ·intro p hp
      rcases List.mem_append.1 hp with hp | hp
      ·exact opd_temps hc p hp
      ·exact opd_temps hx p hp
     ·have h1:RA fr.J φ I w cv (a.eval c):=opd_eval hc hR fun p hp=>hv.1 p (List.mem_append_left _ hp)
      rw [hcv] at h1
      have h2:a.eval c=.bool b:=h1
      unfold execOp
      simp only [ho,h2,asBool,hq]
      cases b <;> simp
     ·intro av' e
      simp only [Option.some.injEq] at e
      subst e
      exact opd_eval hx hR fun p hp=>hv.1 p (List.mem_append_right _ hp)
   cases b with
   | true=>exact key x (by simp) h
   | false=>exact key y (by simp) h
def readAt (σ:LS):CV→Nat→Option (List CV×List (Nat×Option HV))
 | .ptr id off,n=>match σ.at id with
  | some (.cells cs)=>some ((cs.drop off).take n,[(id,some (.cells cs))])
  | _=>none
 | .iptr k x off,n=>some (((cellsOf k x).drop off).take n,[])
 | .eptr id sz i off,n=>match σ.at id with
  | some (.row e k xs)=>if size k=sz then some (((cellsOf k (rd xs i)).drop off).take n,[(id,some (.row e k xs))]) else none
  | some (.frozen e k xs)=>if size k=sz then some (((cellsOf k (rd xs i)).drop off).take n,[(id,some (.frozen e k xs))]) else none
  | _=>none
 | _,_=>none
theorem sub_cells {w:World} {b o off n:Nat} {vs:List Value} (hc:∀ j v,vs[j]?=some v→w.cell? ⟨b,o + j,none⟩=some v) :
  ∀ j v,((vs.drop off).take n)[j]?=some v→w.cell? ⟨b,o + off + j,none⟩=some v:=by
 intro j v hj
 rw [List.getElem?_take] at hj
 split at hj
 ·rw [List.getElem?_drop] at hj
  have:=hc _ _ hj
  rwa [Nat.add_assoc]
 ·cases hj
theorem rd_eq {k:Ty} {xs:List (D k)} {i:Int} (h:i.toNat < xs.length):rd xs i=xs[i.toNat]:=by
 simp [rd,List.getD_eq_getElem?_getD,List.getElem?_eq_getElem h]
theorem row_at {J I:Nat→Prop} {φ:Nat→Option Value} {w:World} {id:Nat} {e:TypeId} {k:Ty} {xs:List (D k)} {hv:HV} (hk:hv=.row e k xs ∨ hv=.frozen e k xs) (h:RH J φ I w id hv) {b n c:Nat} (hφ:φ id=some (.slice (some ⟨b,0,none⟩) n c)) :
  n=xs.length∧∀ i:Nat,(hi:i < xs.length)→∃ us,RdC I w k xs[i] us∧∀ j v,us[j]?=some v→w.cell? ⟨b,i * size k + j,none⟩=some v:=by
 rcases hk with rfl | rfl
 ·obtain ⟨v,vs,e1,ho,hl⟩:=h
  rw [hφ] at e1; cases e1
  rcases ho.2 with ⟨h1,_⟩ | ⟨g,cap,cur,h1,_,hg,hn,_,hcs,htk⟩
  ·cases h1
  ·cases h1
   refine ⟨rfl,fun i hi=>?_⟩
   obtain ⟨us,h2,h3⟩:=lst.at (n:=size k) (fun _ _ h=>h.length) hl i hi
   refine ⟨us,h2,fun j v hj=>?_⟩
   have hjl:j < size k:=by
    have:=h2.length
    rcases Nat.lt_or_ge j us.length with h | h
    ·omega
    ·rw [List.getElem?_eq_none h] at hj; cases hj
   rw [cell_of_row w b _ cur e (0,0) hg]
   have h4:=h3 j hjl
   rw [hj,← htk,List.getElem?_take] at h4
   split at h4
   ·simpa using h4
   ·cases h4
 ·obtain ⟨v,e1,a,c',e2,hc,h⟩:=h
  rw [hφ] at e1; cases e1
  simp only [List.cons.injEq,and_true,Value.slice.injEq] at e2
  obtain ⟨rfl,rfl,rfl⟩:=e2
  refine ⟨rfl,fun i hi=>?_⟩
  rcases h with h | ⟨b',o',us,e3,hb,hl,hcell⟩
  ·subst h; simp at hi
  ·cases e3
   obtain ⟨us1,h2,h3⟩:=lst.at (n:=size k) (fun _ _ h=>h.length) hl i hi
   refine ⟨us1,h2,fun j v hj=>?_⟩
   have hjl:j < size k:=by
    have:=h2.length
    rcases Nat.lt_or_ge j us1.length with h | h
    ·omega
    ·rw [List.getElem?_eq_none h] at hj; cases hj
   have:=hcell (i * size k + j) v (by rw [h3 j hjl,hj])
   simpa using this
theorem readAt_hp {σ:LS} {c:CV} {n:Nat} {cs:List CV} {hp:List (Nat×Option HV)} (h:readAt σ c n=some (cs,hp)):∀ p ∈ hp,σ.at p.1=p.2:=by
 cases c <;> simp only [readAt] at h <;> try (cases h; done)
 case ptr id off =>
  cases hh:σ.at id with
  | none=>rw [hh] at h; cases h
  | some hv =>
   rw [hh] at h
   cases hv <;> simp only [Option.some.injEq,Prod.mk.injEq] at h <;> try (cases h; done)
   obtain ⟨rfl,rfl⟩:=h
   simpa using hh
 case iptr k x off=>simp only [Option.some.injEq,Prod.mk.injEq] at h; obtain ⟨rfl,rfl⟩:=h; simp
 case eptr id sz i off =>
  cases hh:σ.at id with
  | none=>rw [hh] at h; cases h
  | some hv =>
   rw [hh] at h
   cases hv with
   | cells cs=>cases h
   | buf e k bs=>cases h
   | nest e k0 e1 k1 xs lk=>cases h
   | lock r ver st=>cases h
   | peek r i ver=>cases h
   | pend r e1 k1 ys=>cases h
   | map xs=>cases h
   | row e k xs =>
    simp only at h
    split at h
    ·simp only [Option.some.injEq,Prod.mk.injEq] at h
     obtain ⟨rfl,rfl⟩:=h
     simpa using hh
    ·cases h
   | frozen e k xs =>
    simp only at h
    split at h
    ·simp only [Option.some.injEq,Prod.mk.injEq] at h
     obtain ⟨rfl,rfl⟩:=h
     simpa using hh
    ·cases h
def MineIn (fr:Fr) (σ:FS) (φ:Nat→Option Value) (L:List Nat) (b:Nat):Prop:=fr.J b ∨ ∃ id hv u,id ∈ L∧σ.heap id=some hv∧hv.owned=true∧φ id=some u∧blk u=some b
theorem MineIn.mono {fr:Fr} {σ:FS} {φ:Nat→Option Value} {L L':List Nat} (hL:∀ id ∈ L,id ∈ L') {b:Nat}:MineIn fr σ φ L b→MineIn fr σ φ L' b
 | .inl h=>.inl h
 | .inr ⟨id,hv,u,h1,h2⟩=>.inr ⟨id,hv,u,hL id h1,h2⟩
theorem readAt_ok {σ:LS} {c:CV} {n:Nat} {cs:List CV} {hp:List (Nat×Option HV)} (h:readAt σ c n=some (cs,hp)) {fr:Fr} {σ':FS} {φ:Nat→Option Value} {I:Nat→Prop} {a:Act} {w:World}
  (hR:R fr σ' φ I a w) (hv:∀ p ∈ hp,σ'.heap p.1=p.2) {u:Value} (hu:RV fr.J φ I w c u) :
  ∃ b o vs,u=.pointer (some ⟨b,o,none⟩)∧all2 (RV fr.J φ I w) cs vs∧(∀ j v,vs[j]?=some v→w.cell? ⟨b,o + j,none⟩=some v)∧(I b ∨ MineIn fr σ' φ (hp.map (·.1)) b):=by
 cases c <;> simp only [readAt] at h <;> try (cases h; done)
 case ptr id off =>
  cases hh:σ.at id with
  | none=>rw [hh] at h; cases h
  | some hv0 =>
   rw [hh] at h
   cases hv0 <;> simp only [Option.some.injEq,Prod.mk.injEq] at h <;> try (cases h; done)
   obtain ⟨rfl,rfl⟩:=h
   obtain ⟨b,vs,t,h1,h2,h3,_⟩:=hR.heap id _ (hv _ List.mem_cons_self)
   simp only [RV,RC,pv,h1,Option.some.injEq] at hu
   refine ⟨b,off,(vs.drop off).take n,hu.symm,(h3.drop off).take n,fun j v hj=>?_,.inr (.inr ⟨id,_,_,by simp,hv _ List.mem_cons_self,rfl,h1,rfl⟩)⟩
   have:=sub_cells (w:=w) (b:=b) (o:=0) (off:=off) (n:=n) (vs:=vs) (fun j v hj=>by rw [Nat.zero_add,cell_of_row w b j vs.toArray t (0,0) h2]; simpa using hj) j v hj
   simpa using this
 case iptr k x off =>
  simp only [Option.some.injEq,Prod.mk.injEq] at h
  obtain ⟨rfl,rfl⟩:=h
  obtain ⟨b,o,vs,rfl,hb,h1,h2⟩:=hu
  exact ⟨b,o + off,(vs.drop off).take n,rfl,((h1.cells).drop off).take n,sub_cells h2,hb.imp (fun h=>h) .inl⟩
 case eptr id sz i off =>
  obtain ⟨b,m,c,h1,rfl,h2,h3⟩:=hu
  have key:∀ (hv0:HV) (e:TypeId) (k:Ty) (xs:List (D k)),(hv0=.row e k xs ∨ hv0=.frozen e k xs)→size k=sz→cs=((cellsOf k (rd xs i)).drop off).take n→σ'.heap id=some hv0 →
    ∃ b' o vs,Value.pointer (some ⟨b,i.toNat * sz + off,none⟩)=.pointer (some ⟨b',o,none⟩)∧all2 (RV fr.J φ I w) cs vs∧(∀ j v,vs[j]?=some v→w.cell? ⟨b',o + j,none⟩=some v)∧(I b' ∨ MineIn fr σ' φ [id] b'):=by
   intro hv0 e k xs hk hs hcs hh
   obtain ⟨rfl,h4⟩:=row_at hk (hR.heap id hv0 hh) h1
   obtain ⟨us,h5,h6⟩:=h4 i.toNat h3
   subst hcs
   subst hs
   refine ⟨b,_,(us.drop off).take n,rfl,?_,fun j v hj=>sub_cells (o:=i.toNat * size k) h6 j v hj,?_⟩
   ·rw [rd_eq h3]
    exact ((h5.cells).drop off).take n
   ·rcases hk with rfl | rfl
    ·exact .inr (.inr ⟨id,_,_,by simp,hh,rfl,h1,rfl⟩)
    ·obtain ⟨v,e1,a',c',e2,_,h7⟩:=hR.heap id _ hh
     rw [h1] at e1; cases e1
     simp only [List.cons.injEq,and_true,Value.slice.injEq] at e2
     rcases h7 with h7 | ⟨b',o',us',e3,hb,_⟩
     ·rw [show xs=[] from h7] at h3; simp at h3
     ·rw [e3] at e2
      simp only [Option.some.injEq,Addr.mk.injEq] at e2
      rw [← e2.1.1] at hb
      exact .inl hb
  cases hh:σ.at id with
  | none=>rw [hh] at h; cases h
  | some hv0 =>
   rw [hh] at h
   cases hv0 with
   | cells cs=>cases h
   | buf e k bs=>cases h
   | nest e k0 e1 k1 xs lk=>cases h
   | lock r ver st=>cases h
   | peek r i ver=>cases h
   | pend r e1 k1 ys=>cases h
   | map xs=>cases h
   | row e k xs =>
    simp only at h
    split at h
    ·rename_i hs
     simp only [Option.some.injEq,Prod.mk.injEq] at h
     obtain ⟨rfl,rfl⟩:=h
     exact key _ e k xs (.inl rfl) hs rfl (hv _ List.mem_cons_self)
    ·cases h
   | frozen e k xs =>
    simp only at h
    split at h
    ·rename_i hs
     simp only [Option.some.injEq,Prod.mk.injEq] at h
     obtain ⟨rfl,rfl⟩:=h
     exact key _ e k xs (.inr rfl) hs rfl (hv _ List.mem_cons_self)
    ·cases h
def opLoad (T:List (TypeId×TI)) (o:Oper) (σ:LS) (t:TypeId) (x:Operand) (k:Rec→Option ρ):Option ρ :=
 match T.lookup t,opd σ x with
 | some ti,some (.sv false [c],tl)=>match readAt σ c ti.sz with
  | some (cs,hp)=>if cs.length=ti.sz then (if ti.agg then k ⟨o.dst,some (.sv true cs),tl,hp,[],[]⟩ else (if ti.sz=1 then k ⟨o.dst,some (.sv false cs),tl,hp,[],[]⟩ else none)) else none
  | none=>none
 | _,_=>none
theorem run_load_cells {P:Program} {w:World} {b o:Nat} {vs:List Value} {n:Nat} (hn:vs.length=n) (hc:∀ j v,vs[j]?=some v→w.cell? ⟨b,o + j,none⟩=some v):(loadCells ⟨b,o,none⟩ n).run P w=.ok vs.toArray w:=by
 subst hn
 refine run_loadCells_list w _ vs fun j v hj=>?_
 have:(⟨b,o,none⟩:Addr).add j=⟨b,o + j,none⟩:=by unfold Addr.add; split <;> simp_all
 rw [this]
 exact hc j v hj
theorem opLoad_ok {P:Program} {T:List (TypeId×TI)} (hT:TOK P T) {o:Oper} {σ:LS} {t:TypeId} {x:Operand} {base:Nat} {k:Rec→Option ρ} {z:ρ} (ho:o.op=.load t x) (h:opLoad T o σ t x k=some z):∃ r,Good P o σ base r∧k r=some z:=by
 unfold opLoad at h
 split at h
 case h_2=>cases h
 case h_1 ti c tl hti hx =>
 split at h
 case h_2=>cases h
 case h_1 cs hp hrd =>
 split at h
 case isFalse=>cases h
 case isTrue hlen =>
 have hok:=hT t ti hti
 obtain ⟨it,zz,hi1,hi2,_⟩:=hok.info
 obtain ⟨d,hd,_⟩:=hok.under
 have hag:=hok.agg
 have main:∀ (g:Bool),ti.agg=g→(g=false→ti.sz=1)→Good P o σ base ⟨o.dst,some (.sv g cs),tl,hp,[],[]⟩:=by
  intro g hg h1
  refine ⟨rfl,opd_temps hx,readAt_hp hrd,by simp,OpOK.value rfl rfl rfl fun fr σ' φ I a w hR hv=>?_⟩
  have hu:RV fr.J φ I w c (a.eval x):=opd_eval hx hR hv.1
  obtain ⟨b,off,vs,e1,h2,h3,_⟩:=readAt_ok hrd hR hv.2.1 hu
  have hvl:vs.length=ti.sz:=by rw [← h2.length]; exact hlen
  have hrun:=run_load_cells (P:=P) hvl h3
  cases g with
  | true =>
   refine ⟨.agg vs.toArray,?_,?_⟩
   ·unfold execOp
    simp only [ho,e1,Instr.loadAt,Instr.sureAddr,loadVar,Sem.run_bind,Sem.run_pure,Result.andThen_ok,run_isAgg hd,hag,hg,if_true,run_sizeOf hi1,hi2,hrun]
   ·intro av e; simp only [Option.some.injEq] at e; subst e; exact ⟨vs,rfl,h2⟩
  | false =>
   have h4:=h1 rfl
   match cs,vs,h2,hlen,hvl with
   | [c1],[v1],h2,hlen,hvl =>
    refine ⟨v1,?_,?_⟩
    ·have:=h3 0 v1 rfl
     rw [Nat.add_zero] at this
     unfold execOp
     simp only [ho,e1,Instr.loadAt,Instr.sureAddr,loadVar,Sem.run_bind,Sem.run_pure,Result.andThen_ok,run_isAgg hd,hag,hg,run_load,this,Bool.false_eq_true,if_false]
    ·intro av e; simp only [Option.some.injEq] at e; subst e; exact h2.1
   | [],vs,h2,hlen,hvl=>simp at hlen; omega
   | [_],[],h2,hlen,hvl=>exact h2.elim
   | [_],_ :: _ :: _,h2,hlen,hvl=>exact h2.2.elim
   | _ :: _ :: _,vs,h2,hlen,hvl=>simp at hlen; omega
 split at h
 ·rename_i hg
  exact ⟨_,main true hg (by simp),h⟩
 ·rename_i hg
  split at h
  ·rename_i h1
   exact ⟨_,main false (by simpa using hg) (fun _=>h1),h⟩
  ·cases h
def okCV:CV→Bool
 | .lit v=>v.oneCell'
 | _=>true
theorem okCV_one {J I:Nat→Prop} {φ:Nat→Option Value} {w:World}:∀ {c:CV} {v:Value},okCV c=true→RV J φ I w c v→v.oneCell'=true
 | .lit _,_,h,e=>by rw [show _=_ from e]; exact h
 | .ptr id off,v,_,h=>by
  simp only [RV,RC,pv] at h
  split at h
  ·simp only [Option.some.injEq] at h; subst h; rfl
  ·cases h
 | .iptr _ _ _,_,_,⟨_,_,_,e,_⟩=>by rw [e]; rfl
 | .eptr _ _ _ _,_,_,⟨_,_,_,_,e,_⟩=>by rw [e]; rfl
 | .imm _ _ _,_,_,⟨_,_,e,_⟩=>by simp at e; rw [e]; rfl
 | .own _,_,_,h=>h.2
 | .clo _ _,_,_,⟨_,e,_⟩=>by rw [e]; rfl
 | .view _ _ _ _,_,_,h=>by rcases h with ⟨g,N,cap,o,_,e,_⟩ | ⟨_,e,_⟩ <;> rw [e] <;> rfl
 | .dyn g,_,_,h=>by rw [show _=_ from h]; exact fnV_one g
 | .immm _,_,_,h=>RdC.one h _ List.mem_cons_self
def newBlock (o:Oper) (tl:List (Tmp×AV)) (base:Nat) (cs:List CV):Rec:=⟨o.dst,some (.sv false [.ptr base 0]),tl,[],[(base,some (.cells cs))],[base]⟩
theorem newBlock_ok {P:Program} {o:Oper} {tl:List (Tmp×AV)} {base:Nat} {cs:List CV} {elem:TypeId}
  (h:∀ (fr:Fr) (σ:FS) (φ:Nat→Option Value) (I:Nat→Prop) (a:Act) (w:World),R fr σ φ I a w→(newBlock o tl base cs).valid σ →
   ∃ vs,(execOp a.eval o).run P w=.ok (.value (.pointer (some ⟨w.heap.size,0,none⟩))) (w.alloc (.cells vs.toArray elem))∧all2 (RV fr.J φ I w) cs vs∧∀ u ∈ vs,u.oneCell'=true):OpOK P o (newBlock o tl base cs):=by
 intro fr σ φ I a w K Q hR hv hdn hK
 obtain ⟨vs,h1,h2,h3⟩:=h fr σ φ I a w hR hv
 unfold Oper.wp
 rw [h1,Oper.upon_value]
 have hf:σ.fresh base:=hv.2.2 base (by simp [newBlock])
 have hmono:=ext_mono (u:=.pointer (some ⟨w.heap.size,0,none⟩)) (hR.fresh base hf)
 have hsame:∀ b,I b ∨ fr.J b→(w.alloc (.cells vs.toArray elem)).heap[b]?=w.heap[b]?:=fun b hb=>(OnlyP.alloc w _).block b (hR.lt b hb) id
 refine hK (ext φ base (.pointer (some ⟨w.heap.size,0,none⟩))) I _ _ (hR.new (newBlock o tl base cs) (id:=base) (hv:=.cells cs) (u:=.pointer (some ⟨w.heap.size,0,none⟩)) (by exact hdn) rfl rfl hf (OnlyP.alloc _ _) ?_ ?_ ?_)
 ·intro b hb
  simp [blk] at hb
  omega
 ·exact ⟨w.heap.size,vs,elem,ext_same,heap_alloc_new w _,h2.mono fun _ _ h=>RV.mono hmono (fun _ h=>h) hsame h,h3⟩
 ·intro av e
  simp only [newBlock,Option.some.injEq] at e
  subst e
  show pv _ base 0=_
  simp [pv,ext_same]
def opAlloc (T:List (TypeId×TI)) (o:Oper) (base:Nat) (t:TypeId) (k:Rec→Option ρ):Option ρ :=
 match T.lookup t with
 | some ti=>if ti.zero.all Value.oneCell' then k (newBlock o [] base (ti.zero.map .lit)) else none
 | none=>none
theorem all2_lit {J I:Nat→Prop} {φ:Nat→Option Value} {w:World}:∀ (vs:List Value),all2 (RV J φ I w) (vs.map .lit) vs
 | []=>trivial
 | v :: vs=>⟨rfl,all2_lit vs⟩
theorem opAlloc_ok {P:Program} {T:List (TypeId×TI)} (hT:TOK P T) {o:Oper} {σ:LS} {t:TypeId} {base:Nat} {k:Rec→Option ρ} {z:ρ} (ho:o.op=.alloc t) (h:opAlloc T o base t k=some z):∃ r,Good P o σ base r∧k r=some z:=by
 unfold opAlloc at h
 split at h
 case h_2=>cases h
 case h_1 ti hti =>
 split at h
 case isFalse=>cases h
 case isTrue hall =>
 obtain ⟨it,zz,hi1,hi2,_,hz,hzz⟩:=(hT t ti hti).info
 refine ⟨_,⟨rfl,by simp [newBlock],by simp [newBlock],by simp [newBlock],newBlock_ok (elem:=t) fun fr σ' φ I a w hR hv=>⟨ti.zero,?_,all2_lit _,?_⟩⟩,h⟩
 ·unfold execOp
  simp only [ho,Instr.alloc,zeroValue,typeInfo,Sem.run_bind,run_program,Result.andThen_ok,hi1,hz,Sem.run_pure,newVar,newRow,run_newObj,← hzz]
  rfl
 ·intro u hu
  exact List.all_eq_true.1 hall u hu
def opBox (o:Oper) (σ:LS) (base:Nat) (t:TypeId) (x:Operand) (k:Rec→Option ρ):Option ρ :=
 match opd σ x with
 | some (.sv true cs,tl)=>if cs.all okCV then k (newBlock o tl base cs) else none
 | some (.sv false [c],tl)=>if okCV c then k (newBlock o tl base [c]) else none
 | _=>none
theorem opBox_ok {P:Program} {o:Oper} {σ:LS} {t:TypeId} {x:Operand} {base:Nat} {k:Rec→Option ρ} {z:ρ} (ho:o.op=.box t x) (h:opBox o σ base t x k=some z):∃ r,Good P o σ base r∧k r=some z:=by
 unfold opBox at h
 have hrun:∀ (a:Act) (w:World),(execOp a.eval o).run P w=.ok (.value (.pointer (some ⟨w.heap.size,0,none⟩))) (w.alloc (.cells (a.eval x).cells t)):=by
  intro a w
  unfold execOp
  simp only [ho,Instr.box,Sem.run_bind,Sem.run_pure,newVar,newRow,run_newObj,Result.andThen_ok]
  rfl
 split at h
 case h_3=>cases h
 case h_1 cs tl hx =>
  split at h
  case isFalse=>cases h
  case isTrue hall =>
  refine ⟨_,⟨rfl,opd_temps hx,by simp [newBlock],by simp [newBlock],newBlock_ok (elem:=t) fun fr σ' φ I a w hR hv=>?_⟩,h⟩
  obtain ⟨vs,e,h2⟩:RA fr.J φ I w (.sv true cs) (a.eval x):=opd_eval hx hR hv.1
  refine ⟨vs,by rw [hrun,e]; rfl,h2,fun u hu=>?_⟩
  obtain ⟨i,hi,rfl⟩:=List.getElem_of_mem hu
  have hi':i < cs.length:=by rw [h2.length]; exact hi
  obtain ⟨b,hb,hb2⟩:=h2.get (List.getElem?_eq_getElem hi')
  rw [List.getElem?_eq_getElem hi] at hb; cases hb
  exact okCV_one (List.all_eq_true.1 hall _ (List.getElem_mem hi')) hb2
 case h_2 c tl hx =>
  split at h
  case isFalse=>cases h
  case isTrue hall =>
  refine ⟨_,⟨rfl,opd_temps hx,by simp [newBlock],by simp [newBlock],newBlock_ok (elem:=t) fun fr σ' φ I a w hR hv=>?_⟩,h⟩
  have h2:RV fr.J φ I w c (a.eval x):=opd_eval hx hR hv.1
  have h3:=okCV_one hall h2
  refine ⟨[a.eval x],?_,⟨h2,trivial⟩,by simpa using h3⟩
  rw [hrun]
  have:(a.eval x).cells=#[a.eval x]:=by
   cases hq:a.eval x <;> first | rfl | (rw [hq] at h3; simp [Value.oneCell'] at h3)
  rw [this]
end
end Go.Ev
