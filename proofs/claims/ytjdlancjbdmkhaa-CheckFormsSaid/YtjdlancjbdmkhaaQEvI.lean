/- A checked evaluator, part I: code, loops, functions. -/
import Derived.Test.YtjdlancjbdmkhaaQEvR
import Derived.Scope
import Derived.LoopN
namespace Go.Ev
open Go.RowKit
set_option linter.unusedVariables false
def Cp.ids:Cp→List Nat
 | .ptr id _=>[id]
 | .ip ..=>[]
def CV.ids:CV→List Nat
 | .ptr id _=>[id]
 | .eptr id _ _ _=>[id]
 | .own id=>[id]
 | .clo _ caps=>caps.flatMap Cp.ids
 | .view id _ _ _=>[id]
 | _=>[]
def AV.ids:AV→List Nat
 | .sv _ cs=>cs.flatMap CV.ids
 | .tup l=>l.flatMap fun p=>p.2.flatMap CV.ids
def HV.ids:HV→List Nat
 | .cells cs=>cs.flatMap CV.ids
 | .nest _ _ _ _ _ lk=>[lk]
 | .lock r _ _=>[r]
 | .pend r _ _ _=>[r]
 | _=>[]
def HV.isPeek:Option HV→Bool
 | some (.peek ..)=>true
 | some (.pend ..)=>true
 | some (.lock _ _ (some _))=>true
 | _=>false
def Cp.ren (f:Nat→Nat):Cp→Cp
 | .ptr id off=>.ptr (f id) off
 | c=>c
def CV.ren (f:Nat→Nat):CV→CV
 | .ptr id off=>.ptr (f id) off
 | .eptr id sz i off=>.eptr (f id) sz i off
 | .own id=>.own (f id)
 | .clo g caps=>.clo g (caps.map (Cp.ren f))
 | .view id sz lo n=>.view (f id) sz lo n
 | c=>c
def AV.ren (f:Nat→Nat):AV→AV
 | .sv g cs=>.sv g (cs.map (CV.ren f))
 | .tup l=>.tup (l.map fun p=>(p.1,p.2.map (CV.ren f)))
def HV.ren (f:Nat→Nat):HV→HV
 | .cells cs=>.cells (cs.map (CV.ren f))
 | .nest e k0 e1 k1 xs lk=>.nest e k0 e1 k1 xs (f lk)
 | .lock r _ _=>.lock (f r) 0 none
 | h=>h
theorem HV.owned_ren (f:Nat→Nat) (h:HV):(h.ren f).owned=h.owned:=by cases h <;> rfl
section
variable {J I:Nat→Prop} {φ φ':Nat→Option Value} {w:World} {f:Nat→Nat}
theorem pv_ren {id off:Nat} (h:φ' (f id)=φ id):pv φ' (f id) off=pv φ id off:=by unfold pv; rw [h]
theorem RC.ren {c:Cp} {u:Value} (hf:∀ id ∈ c.ids,φ' (f id)=φ id) (h:RC J φ I w c u):RC J φ' I w (c.ren f) u:=by
 cases c with
 | ptr id off=>show pv φ' (f id) off=_; rw [pv_ren (hf id (by simp [Cp.ids]))]; exact h
 | ip k x off=>exact h
theorem RCs.ren:∀ {caps:List Cp} {vs:List Value},(∀ id ∈ caps.flatMap Cp.ids,φ' (f id)=φ id)→all2 (RC J φ I w) caps vs→all2 (RC J φ' I w) (caps.map (Cp.ren f)) vs
 | [],[],_,_=>trivial
 | c :: cs,v :: vs,hf,⟨h1,h2⟩=>⟨RC.ren (fun id h=>hf id (by simp [h])) h1,RCs.ren (fun id h=>hf id (by rw [List.flatMap_cons]; exact List.mem_append_right _ h)) h2⟩
 | [],_ :: _,_,h=>h.elim
 | _ :: _,[],_,h=>h.elim
theorem RV.ren {c:CV} {u:Value} (hf:∀ id ∈ c.ids,φ' (f id)=φ id) (h:RV J φ I w c u):RV J φ' I w (c.ren f) u:=by
 cases c with
 | lit v=>exact h
 | ptr id off=>exact RC.ren (J:=J) (I:=I) (w:=w) (c:=.ptr id off) hf h
 | iptr k x off=>exact h
 | eptr id sz i off=>obtain ⟨b,n,c,e,h⟩:=h; exact ⟨b,n,c,by rw [hf id (by simp [CV.ids])]; exact e,h⟩
 | imm e k xs=>exact h
 | dyn g=>exact h
 | immm xs=>exact h
 | own id=>exact ⟨by rw [hf id (by simp [CV.ids])]; exact h.1,h.2⟩
 | clo g caps=>obtain ⟨vs,e,h⟩:=h; exact ⟨vs,e,RCs.ren hf h⟩
 | view id sz lo n=>exact ViewOK.mono (fun v h=>by rw [hf id (by simp [CV.ids])]; exact h) h
theorem RVs.ren:∀ {cs:List CV} {vs:List Value},(∀ id ∈ cs.flatMap CV.ids,φ' (f id)=φ id)→all2 (RV J φ I w) cs vs→all2 (RV J φ' I w) (cs.map (CV.ren f)) vs
 | [],[],_,_=>trivial
 | c :: cs,v :: vs,hf,⟨h1,h2⟩=>⟨RV.ren (fun id h=>hf id (by simp [h])) h1,RVs.ren (fun id h=>hf id (by rw [List.flatMap_cons]; exact List.mem_append_right _ h)) h2⟩
 | [],_ :: _,_,h=>h.elim
 | _ :: _,[],_,h=>h.elim
theorem RSV.ren {g:Bool} {cs:List CV} {v:Value} (hf:∀ id ∈ cs.flatMap CV.ids,φ' (f id)=φ id) (h:RSV J φ I w g cs v):RSV J φ' I w g (cs.map (CV.ren f)) v:=by
 obtain ⟨vs,h1,h2⟩:=RSV.pack h
 exact RSV.mk (RVs.ren hf h1) h2
theorem RSVs.ren:∀ {l:List (Bool×List CV)} {vs:List Value},(∀ id ∈ (l.flatMap fun p=>p.2.flatMap CV.ids),φ' (f id)=φ id)→all2 (fun p u=>RSV J φ I w p.1 p.2 u) l vs→all2 (fun p u=>RSV J φ' I w p.1 p.2 u) (l.map fun p=>(p.1,p.2.map (CV.ren f))) vs
 | [],[],_,_=>trivial
 | c :: cs,v :: vs,hf,⟨h1,h2⟩=>⟨RSV.ren (fun id h=>hf id (by rw [List.flatMap_cons]; exact List.mem_append_left _ h)) h1,RSVs.ren (fun id h=>hf id (by rw [List.flatMap_cons]; exact List.mem_append_right _ h)) h2⟩
 | [],_ :: _,_,h=>h.elim
 | _ :: _,[],_,h=>h.elim
theorem RA.ren {av:AV} {v:Value} (hf:∀ id ∈ av.ids,φ' (f id)=φ id) (h:RA J φ I w av v):RA J φ' I w (av.ren f) v:=by
 cases av with
 | sv g cs=>exact RSV.ren hf h
 | tup l=>obtain ⟨vs,e,h⟩:=h; exact ⟨vs,e,RSVs.ren hf h⟩
theorem RH.ren {id:Nat} {hv:HV} (hid:φ' (f id)=φ id) (hf:∀ id ∈ hv.ids,φ' (f id)=φ id) (h:RH J φ I w id hv):RH J φ' I w (f id) (hv.ren f):=by
 cases hv with
 | cells cs=>obtain ⟨b,vs,t,e,h1,h2,h3⟩:=h; exact ⟨b,vs,t,by rw [hid]; exact e,h1,RVs.ren hf h2,h3⟩
 | row e k xs=>obtain ⟨v,vs,e,h1,h2⟩:=h; exact ⟨v,vs,by rw [hid]; exact e,h1,h2⟩
 | frozen e k xs=>obtain ⟨v,e,h1⟩:=h; exact ⟨v,by rw [hid]; exact e,h1⟩
 | buf e k bs=>obtain ⟨v,e,h1⟩:=h; exact ⟨v,by rw [hid]; exact e,h1⟩
 | nest e k0 e1 k1 xs lk=>obtain ⟨v,vs,e,h1⟩:=h; exact ⟨v,vs,by rw [hid]; exact e,h1⟩
 | lock r ver st=>obtain ⟨v,e⟩:=h; exact ⟨v,by rw [hid]; exact e⟩
 | peek r i ver=>obtain ⟨v,e⟩:=h; exact ⟨v,by rw [hid]; exact e⟩
 | pend r e1 k1 ys=>obtain ⟨v,e⟩:=h; exact ⟨v,by rw [hid]; exact e⟩
 | map xs=>obtain ⟨b,es,cl,e,h1⟩:=h; exact ⟨b,es,cl,by rw [hid]; exact e,h1⟩
theorem HeadOK.ren {id id':Nat} {k0 k1:Ty} {xs:List (D k0×List (D k1))} (hid:φ' id'=φ id) (h:HeadOK φ I w id k0 k1 xs):HeadOK φ' I w id' k0 k1 xs:=by
 have hc:∀ c,cellN φ' w id' c=cellN φ w id c:=fun c=>by unfold cellN; rw [hid]
 intro i hi
 obtain ⟨vs0,h1,h2⟩:=h i hi
 exact ⟨vs0,h1,fun o u hu=>by rw [hc]; exact h2 o u hu⟩
theorem NestOK.monoE {E E' X:Nat→Prop} {id:Nat} {k0:Ty} {e1:TypeId} {k1:Ty} {xs:List (D k0×List (D k1))} (h:NestOK φ I w E X id k0 e1 k1 xs) (hE:∀ b,E b→E' b):NestOK φ I w E' X id k0 e1 k1 xs where
 elem:=fun i hi hX=>let ⟨u,us,h1,h2,h3,h4⟩:=h.elem i hi hX; ⟨u,us,h1,h2,h3,fun b hb=>hE b (h4 b hb)⟩
 dist:=h.dist
theorem NestOK.ren {E X:Nat→Prop} {id id':Nat} {k0:Ty} {e1:TypeId} {k1:Ty} {xs:List (D k0×List (D k1))} (hid:φ' id'=φ id) (h:NestOK φ I w E X id k0 e1 k1 xs):NestOK φ' I w E X id' k0 e1 k1 xs:=by
 have hc:∀ c,cellN φ' w id' c=cellN φ w id c:=fun c=>by unfold cellN; rw [hid]
 constructor
 ·intro i hi hX
  obtain ⟨u,us,h1,h2⟩:=h.elem i hi hX
  exact ⟨u,us,by rw [hc]; exact h1,h2⟩
 ·intro i j u u' b hi hj hX hX' hne h1 h2
  rw [hc] at h1 h2
  exact h.dist i j u u' b hi hj hX hX' hne h1 h2
end
def oids {α:Type} (f:α→List Nat):Option α→List Nat
 | some x=>f x
 | none=>[]
def reach (σ:LS):Nat→List Nat→List Nat→List Nat
 | 0,_,acc=>acc.reverse
 | _ + 1,[],acc=>acc.reverse
 | n + 1,id :: todo,acc=>if acc.contains id then reach σ n todo acc else reach σ n (oids HV.ids (σ.at id) ++ todo) (id :: acc)
def LS.canon (σ:LS) (keep:List Nat):LS :=
 let L:=reach σ 200 (σ.pins ++ keep.flatMap fun t=>oids AV.ids (σ.get t)) []
 if nodupB L && (σ.pins.all L.contains && ((keep.all fun t=>(oids AV.ids (σ.get t)).all L.contains) && L.all fun id=>((oids HV.ids (σ.at id)).all L.contains && !HV.isPeek (σ.at id)))) then
  { env:=keep.map fun t=>(t,(σ.get t).map (AV.ren L.idxOf)),heap:=L.map fun id=>(L.idxOf id,(σ.at id).map (HV.ren L.idxOf)),next:=L.length,pins:=σ.pins.map L.idxOf }
 else σ
theorem lookup_map_self {α:Type} (g:Nat→α):∀ (l:List Nat) (t:Nat),(l.map fun t=>(t,g t)).lookup t=if t ∈ l then some (g t) else none
 | [],t=>rfl
 | x :: l,t=>by
  simp only [List.map_cons,List.lookup]
  by_cases e:t=x
  ·subst e; simp
  ·have:(t == x)=false:=by simpa using e
   rw [this,lookup_map_self g l t]
   simp [e]
theorem lookup_map_idx {α:Type} (g:Nat→α) (f:Nat→Nat):∀ (l:List Nat) (i:Nat) (y:α),(l.map fun id=>(f id,g id)).lookup i=some y→∃ id ∈ l,f id=i∧y=g id
 | [],i,y,h=>by cases h
 | x :: l,i,y,h=>by
  simp only [List.map_cons,List.lookup] at h
  cases e:i == f x with
  | true =>
   rw [e] at h
   cases h
   exact ⟨x,List.mem_cons_self,(by simpa using e:i=f x).symm,rfl⟩
  | false =>
   rw [e] at h
   obtain ⟨id,h1,h2⟩:=lookup_map_idx g f l i y h
   exact ⟨id,List.mem_cons_of_mem _ h1,h2⟩
theorem R.canon {fr:Fr} {σ:LS} {φ:Nat→Option Value} {I:Nat→Prop} {a:Act} {w:World} (keep:List Nat) (h:R fr σ.toF φ I a w):∃ φ',R fr (σ.canon keep).toF φ' I a w:=by
 unfold LS.canon
 simp only
 generalize reach σ 200 (σ.pins ++ keep.flatMap fun t=>oids AV.ids (σ.get t)) []=L
 split
 case isFalse=>exact ⟨φ,h⟩
 case isTrue hc =>
 simp only [Bool.and_eq_true,List.all_eq_true] at hc
 obtain ⟨hnd,hpn,hk,hl⟩:=hc
 have hnd:=nodupB_ok hnd
 refine ⟨fun i=>(L[i]?).bind φ,?_⟩
 have hφ:∀ id ∈ L,(L[L.idxOf id]?).bind φ=φ id:=by
  intro id hid
  have hlt:=List.idxOf_lt_length_iff.2 hid
  rw [List.getElem?_eq_getElem hlt,List.getElem_idxOf hlt]
  rfl
 have hinj:∀ id ∈ L,∀ id' ∈ L,L.idxOf id=L.idxOf id'→id=id':=by
  intro id hid id' hid' e
  have h1:=List.getElem_idxOf (List.idxOf_lt_length_iff.2 hid)
  have h2:=List.getElem_idxOf (List.idxOf_lt_length_iff.2 hid')
  have h3:L[L.idxOf id]?=L[L.idxOf id']?:=by rw [e]
  rw [List.getElem?_eq_getElem (List.idxOf_lt_length_iff.2 hid),List.getElem?_eq_getElem (List.idxOf_lt_length_iff.2 hid'),h1,h2] at h3
  simpa using h3
 have hget:∀ t av,(LS.toF { env:=keep.map fun t=>(t,(σ.get t).map (AV.ren L.idxOf)),heap:=L.map fun id=>(L.idxOf id,(σ.at id).map (HV.ren L.idxOf)),next:=L.length,pins:=σ.pins.map L.idxOf }).env t=some av→t ∈ keep∧∃ av0,σ.get t=some av0∧av=av0.ren L.idxOf:=by
  intro t av he
  have he:(match (keep.map fun t=>(t,(σ.get t).map (AV.ren L.idxOf))).lookup t with
   | some x=>x
   | none=>none)=some av:=he
  rw [lookup_map_self] at he
  by_cases ht:t ∈ keep
  ·rw [if_pos ht] at he
   simp only at he
   obtain ⟨av0,h1,h2⟩:=Option.map_eq_some_iff.1 he
   exact ⟨ht,av0,h1,h2.symm⟩
  ·rw [if_neg ht] at he
   cases he
 have hat:∀ i hv,(LS.toF { env:=keep.map fun t=>(t,(σ.get t).map (AV.ren L.idxOf)),heap:=L.map fun id=>(L.idxOf id,(σ.at id).map (HV.ren L.idxOf)),next:=L.length,pins:=σ.pins.map L.idxOf }).heap i=some hv→∃ id ∈ L,L.idxOf id=i∧∃ hv0,σ.at id=some hv0∧hv=hv0.ren L.idxOf:=by
  intro i hv he
  have he:(match (L.map fun id=>(L.idxOf id,(σ.at id).map (HV.ren L.idxOf))).lookup i with
   | some x=>x
   | none=>none)=some hv:=he
  cases hq:(L.map fun id=>(L.idxOf id,(σ.at id).map (HV.ren L.idxOf))).lookup i with
  | none=>rw [hq] at he; cases he
  | some y =>
   rw [hq] at he
   obtain ⟨id,h1,h2,h3⟩:=lookup_map_idx _ _ L i y hq
   simp only at he
   rw [h3] at he
   obtain ⟨hv0,h4,h5⟩:=Option.map_eq_some_iff.1 he
   exact ⟨id,h1,h2,hv0,h4,h5.symm⟩
 constructor
 ·exact h.nt
 ·exact h.dfr
 ·intro t av he
  obtain ⟨ht,av0,h1,rfl⟩:=hget t av he
  obtain ⟨v,h2,h3⟩:=h.env t av0 h1
  refine ⟨v,h2,RA.ren (fun id hid=>hφ id ?_) h3⟩
  have:=hk t ht id (by rw [h1]; exact hid)
  simpa using this
 ·intro i hv he
  obtain ⟨id,h1,rfl,hv0,h2,rfl⟩:=hat i hv he
  refine RH.ren (φ:=φ) (φ':=fun i=>(L[i]?).bind φ) (f:=L.idxOf) (hφ id h1) (fun id' hid'=>hφ id' ?_) (h.heap id hv0 h2)
  have:=(hl id h1).1 id' (by rw [h2]; exact hid')
  simpa using this
 ·intro i he
  have he:L.length ≤ i:=he
  simp [List.getElem?_eq_none he]
 ·intro i hv v b he ho hv' hb
  obtain ⟨id,h1,rfl,hv0,h2,rfl⟩:=hat i hv he
  rw [HV.owned_ren] at ho
  simp only [hφ id h1] at hv'
  exact h.own id hv0 v b h2 ho hv' hb
 ·intro i i' hv hv' v v' b hne he he' ho ho' hφv hφv' hb
  obtain ⟨id,h1,rfl,hv0,h2,rfl⟩:=hat i hv he
  obtain ⟨id',h1',rfl,hv0',h2',rfl⟩:=hat i' hv' he'
  rw [HV.owned_ren] at ho ho'
  simp only [hφ id h1] at hφv
  simp only [hφ id' h1'] at hφv'
  exact h.sep id id' hv0 hv0' v v' b (fun e=>hne (by rw [e])) h2 h2' ho ho' hφv hφv' hb
 ·exact h.only
 ·exact h.imm
 ·exact h.lt
 ·have key:∀ (l:List Nat) (us:List Value),(∀ id ∈ l,id ∈ L)→all2 (fun id u=>φ id=some u) l us→all2 (fun id u=>(L[id]?).bind φ=some u) (l.map L.idxOf) us:=by
   intro l
   induction l with
   | nil =>
    intro us _ h
    cases us with
    | nil=>trivial
    | cons u us=>exact h.elim
   | cons x l ih =>
    intro us hl h
    cases us with
    | nil=>exact h.elim
    | cons u us=>exact ⟨(hφ x (hl x List.mem_cons_self)).trans h.1,ih us (fun y hy=>hl y (List.mem_cons_of_mem _ hy)) h.2⟩
  exact key σ.pins fr.pins (fun id hid=>by have:=hpn id hid; simpa using this) h.pin
 ·obtain ⟨E,hE⟩:=h.deep
  have hmem:∀ i ∈ L,HV.isPeek (σ.at i)=false:=by
   intro i hi
   have:=(hl i hi).2
   simpa using this
  have hnest:∀ i e k0 e1 k1 xs lk,(LS.toF { env:=keep.map fun t=>(t,(σ.get t).map (AV.ren L.idxOf)),heap:=L.map fun id=>(L.idxOf id,(σ.at id).map (HV.ren L.idxOf)),next:=L.length,pins:=σ.pins.map L.idxOf }).heap i=some (.nest e k0 e1 k1 xs lk) →
    ∃ id lk0,id ∈ L∧L.idxOf id=i∧L[i]?=some id∧σ.at id=some (.nest e k0 e1 k1 xs lk0)∧lk0 ∈ L∧L.idxOf lk0=lk:=by
   intro i e k0 e1 k1 xs lk he
   obtain ⟨id,h1,rfl,hv0,h2,h3⟩:=hat i _ he
   have hii:L[L.idxOf id]?=some id:=by
    rw [List.getElem?_eq_getElem (List.idxOf_lt_length_iff.2 h1),List.getElem_idxOf]
   cases hv0 with
   | nest e' k0' e1' k1' xs' lk' =>
    simp only [HV.ren,HV.nest.injEq] at h3
    obtain ⟨rfl,rfl,rfl,rfl,h4,h5⟩:=h3
    cases h4
    refine ⟨id,lk',h1,rfl,hii,h2,?_,h5.symm⟩
    have:=(hl id h1).1 lk' (by rw [h2]; simp [oids,HV.ids])
    simpa using this
   | _=>simp [HV.ren] at h3
  refine ⟨fun i b=>∃ id,L[i]?=some id∧E id b,?_,?_,?_,?_,?_,?_,?_,?_,?_,?_⟩
  ·intro i e k0 e1 k1 xs lk he
   obtain ⟨id,lk0,h1,rfl,hii,h2,-⟩:=hnest i e k0 e1 k1 xs lk he
   exact (hE.head id _ _ _ _ _ _ h2).ren (φ':=fun i=>(L[i]?).bind φ) (hφ id h1)
  ·intro i e k0 e1 k1 xs lk ver st he hlk
   obtain ⟨id,lk0,h1,rfl,hii,h2,hlm,rfl⟩:=hnest i e k0 e1 k1 xs lk he
   obtain ⟨id2,g1,g2,hv0,g3,g4⟩:=hat _ _ hlk
   have:=hinj _ g1 _ hlm g2
   subst this
   have hnp:=hmem id2 g1
   rw [g3] at hnp
   cases hv0 with
   | lock r0 ver0 st0 =>
    simp only [HV.ren,HV.lock.injEq] at g4
    obtain ⟨g5,-,rfl⟩:=g4
    have hr0:r0 ∈ L:=by
     have:=(hl id2 g1).1 r0 (by rw [g3]; simp [oids,HV.ids])
     simpa using this
    have:=hinj _ h1 _ hr0 g5
    subst this
    cases st0 with
    | some p=>simp [HV.isPeek] at hnp
    | none=>exact ((hE.nest id _ _ _ _ _ _ _ _ h2 g3).ren (φ':=fun i=>(L[i]?).bind φ) (hφ id h1)).monoE fun b hb=>⟨id,hii,hb⟩
   | _=>simp [HV.ren] at g4
  ·intro n r i ver he
   obtain ⟨id,h1,rfl,hv0,h2,h3⟩:=hat n _ he
   have:=hmem id h1
   rw [h2] at this
   cases hv0 <;> simp [HV.ren,HV.isPeek] at h3 this
  ·intro n r i e1 k1 ys he
   obtain ⟨id,h1,rfl,hv0,h2,h3⟩:=hat n _ he
   have:=hmem id h1
   rw [h2] at this
   cases hv0 <;> simp [HV.ren,HV.isPeek] at h3 this
  ·intro n r i ver he
   obtain ⟨id,h1,rfl,hv0,h2,h3⟩:=hat n _ he
   have:=hmem id h1
   rw [h2] at this
   cases hv0 <;> simp [HV.ren,HV.isPeek] at h3 this
  ·intro n r e1 k1 ys he
   obtain ⟨id,h1,rfl,hv0,h2,h3⟩:=hat n _ he
   have:=hmem id h1
   rw [h2] at this
   cases hv0 <;> simp [HV.ren,HV.isPeek] at h3 this
  ·intro n r i ver he
   obtain ⟨id,h1,rfl,hv0,h2,h3⟩:=hat n _ he
   have:=hmem id h1
   rw [h2] at this
   cases hv0 <;> simp [HV.ren,HV.isPeek] at h3 this
  ·rintro i b ⟨id,-,hb⟩
   exact hE.priv id b hb
  ·rintro i b ⟨id,-,hb⟩ i' hv' v' he ho hv hb'
   obtain ⟨id',h1,rfl,hv0,h2,rfl⟩:=hat i' hv' he
   rw [HV.owned_ren] at ho
   simp only [hφ id' h1] at hv
   exact hE.sep1 id b hb id' hv0 v' h2 ho hv hb'
  ·rintro i i' b hne ⟨id,h1,hb⟩ ⟨id',h1',hb'⟩
   refine hE.sep2 id id' b (fun e=>hne ?_) hb hb'
   subst e
   have n1:=List.getElem?_eq_some_iff.1 h1
   have n2:=List.getElem?_eq_some_iff.1 h1'
   obtain ⟨l1,e1⟩:=n1
   obtain ⟨l2,e2⟩:=n2
   rcases Nat.lt_trichotomy i i' with h | h | h
   ·exact (List.pairwise_iff_getElem.1 hnd i i' l1 l2 h (e1.trans e2.symm)).elim
   ·exact h
   ·exact (List.pairwise_iff_getElem.1 hnd i' i l2 l1 h (e2.trans e1.symm)).elim
def nestFzT (k0:Ty) (e1:TypeId) (k1:Ty):Ty:=match k0 with
 | .unit=>.seq e1 k1
 | k0=>.pair k0 (.seq e1 k1)
def nestFzX (k0:Ty) (e1:TypeId) (k1:Ty) (xs:List (D k0×List (D k1))):List (D (nestFzT k0 e1 k1)):=match k0,xs with
 | .unit,xs=>xs.map Prod.snd
 | .int _,xs=>xs
 | .bool,xs=>xs
 | .str,xs=>xs
 | .pair _ _,xs=>xs
 | .seq _ _,xs=>xs
 | .fn,xs=>xs
 | .mset,xs=>xs
def LS.frzL (σ:LS):List CV→LS
 | []=>σ
 | c :: cs=>match c with
  | .own id=>match σ.at id with
   | some (.row e t xs)=>(σ.frz id e t xs).frzL cs
   | some (.nest e k0 e1 k1 xs lk)=>match σ.at lk with
    | some (.lock r _ none)=>if r=id then (σ.frz id e (nestFzT k0 e1 k1) (nestFzX k0 e1 k1 xs)).frzL cs else σ.frzL cs
    | _=>σ.frzL cs
   | _=>σ.frzL cs
  | _=>σ.frzL cs
theorem nestFz_rd {I:Nat→Prop} {w:World} {k0:Ty} {e1:TypeId} {k1:Ty}:∀ {xs:List (D k0×List (D k1))} {vs:List Value},lst (RdC I w (.pair k0 (.seq e1 k1))) (xs:List (D (.pair k0 (.seq e1 k1)))) vs→lst (RdC I w (nestFzT k0 e1 k1)) (nestFzX k0 e1 k1 xs) vs:=by
 intro xs vs h
 cases k0 with
 | unit =>
  show lst (RdC I w (.seq e1 k1)) (xs.map Prod.snd) vs
  induction xs generalizing vs with
  | nil=>exact h
  | cons x xs ih =>
   obtain ⟨v1,v2,e,⟨u1,u2,e2,h1,h2⟩,h3⟩:=h
   have:u1=[]:=h1
   subst this
   refine ⟨v1,v2,e,?_,ih h3⟩
   rw [e2]; exact h2
 | _=>exact h
theorem nestFz_len {k0:Ty} {e1:TypeId} {k1:Ty} {xs:List (D k0×List (D k1))}:(nestFzX k0 e1 k1 xs).length=xs.length:=by
 cases k0 with
 | unit=>exact List.length_map _
 | _=>rfl
theorem frz_toF (σ:LS) (id:Nat) (e:TypeId) (k:Ty) (xs:List (D k)):(σ.frz id e k xs).toF=σ.toF.frz id e k xs:=by
 unfold LS.toF FS.frz
 congr 1
 funext i
 exact frz_at σ id e k xs i
theorem R.frzL {fr:Fr} {φ:Nat→Option Value} {a:Act} {w:World}:∀ (cs:List CV) (σ:LS) (I:Nat→Prop),R fr σ.toF φ I a w→∃ I',R fr (σ.frzL cs).toF φ I' a w
 | [],σ,I,h=>⟨I,h⟩
 | c :: cs,σ,I,h=>by
  have plain:∃ I',R fr (σ.frzL cs).toF φ I' a w:=R.frzL cs σ I h
  cases c with
  | own id =>
   simp only [LS.frzL]
   split
   ·rename_i e t xs h0
    obtain ⟨I',h1⟩:=h.frz (id:=id) (e:=e) (k:=t) (xs:=xs) h0
    rw [← frz_toF] at h1
    exact R.frzL cs _ I' h1
   ·rename_i e k0 e1 k1 xs lk h0
    split
    ·rename_i r ver hlk
     split
     ·rename_i hr
      subst hr
      obtain ⟨I',h1⟩:=h.nestFrz (k:=(nestFzT k0 e1 k1)) (ys:=(nestFzX k0 e1 k1 xs)) h0 hlk (fun _ _ h=>nestFz_rd h) nestFz_len
      have h2:R fr (σ.frz r e (nestFzT k0 e1 k1) (nestFzX k0 e1 k1 xs)).toF φ I' a w:=by rw [frz_toF]; exact h1
      exact R.frzL cs _ I' h2
     ·exact plain
    ·exact plain
   ·exact plain
  | _=>exact plain
structure Wd where
 slot:Nat
 box:Bool
 cell:Nat
 e:TypeId
 k:Ty
 fz:Bool
 nt:Bool:=false
def nestSpl:Ty→Option (Ty×TypeId×Ty)
 | .seq e k=>some (.unit,e,k)
 | .pair k0 (.seq e k)=>some (k0,e,k)
 | _=>none
def widCell (cs:List CV) (j n:Nat):Option (List CV):=match cs[j]? with
 | some c=>if isNil c then some (cs.set j (.own n)) else none
 | none=>none
def LS.widenG (σ:LS) (d:Wd) (news:List (Nat×Option HV)) (m:Nat):LS:=match σ.get d.slot with
 | some (.sv g cs)=>if d.box=true then (match cs with
  | [.ptr id _]=>match σ.at id with
   | some (.cells cs)=>match widCell cs d.cell σ.next with
    | some cs'=>⟨σ.env,(id,some (.cells cs')) :: (news ++ σ.heap),σ.next + m,σ.pins⟩
    | none=>σ
   | _=>σ
  | _=>σ) else (match widCell cs d.cell σ.next with
   | some cs'=>⟨(d.slot,some (.sv g cs')) :: σ.env,news ++ σ.heap,σ.next + m,σ.pins⟩
   | none=>σ)
 | _=>σ
def LS.widen1 (σ:LS) (d:Wd):LS :=
 if d.nt=true then (match nestSpl d.k with
  | some (k0,e1,k1)=>σ.widenG d [(σ.next,some (.nest d.e k0 e1 k1 [] (σ.next + 1))),(σ.next + 1,some (.lock σ.next 0 none))] 2
  | none=>σ) else σ.widenG d [(σ.next,some (.row d.e d.k []))] 1
def fzCVs (σ:LS) (d:Wd):List CV:=match σ.get d.slot with
 | some (.sv g cs)=>if d.box=true then (match cs with
  | [.ptr id _]=>match σ.at id with
   | some (.cells cs)=>(cs.drop d.cell).take 1
   | _=>[]
  | _=>[]) else (cs.drop d.cell).take 1
 | _=>[]
def immCell (σ:LS) (cs:List CV) (j:Nat):Option (List CV):=match cs[j]? with
 | some (.own id)=>match σ.at id with
  | some (.frozen e k xs)=>some (cs.set j (.imm e k xs))
  | _=>none
 | _=>none
def LS.imm1 (σ:LS) (d:Wd):LS:=match σ.get d.slot with
 | some (.sv g cs)=>if d.box=true then (match cs with
  | [.ptr id _]=>match σ.at id with
   | some (.cells cs)=>match immCell σ cs d.cell with
    | some cs'=>⟨σ.env,(id,some (.cells cs')) :: σ.heap,σ.next,σ.pins⟩
    | none=>σ
   | _=>σ
  | _=>σ) else (match immCell σ cs d.cell with
   | some cs'=>⟨(d.slot,some (.sv g cs')) :: σ.env,σ.heap,σ.next,σ.pins⟩
   | none=>σ)
 | _=>σ
def LS.widen (σ:LS):List Wd→LS
 | []=>σ
 | d :: ds=>if d.fz=true then ((σ.frzL (fzCVs σ d)).imm1 d).widen ds else (σ.widen1 d).widen ds
section
variable {fr:Fr} {σ:FS} {φ:Nat→Option Value} {I:Nat→Prop} {a:Act} {w:World}
theorem R.reenv (h:R fr σ φ I a w) {t:Nat} {av av':AV} (h0:σ.env t=some av) (hs:∀ v,RA fr.J φ I w av v→RA fr.J φ I w av' v):R fr { σ with env:=fun i=>if i=t then some av' else σ.env i } φ I a w where
 nt:=h.nt
 dfr:=h.dfr
 env:=fun i av1 e=>by
  replace e:(if i=t then some av' else σ.env i)=some av1:=e
  split at e
  ·rename_i hi; subst hi; cases e
   obtain ⟨v,h1,h2⟩:=h.env i av h0
   exact ⟨v,h1,hs v h2⟩
  ·exact h.env i av1 e
 heap:=h.heap
 fresh:=h.fresh
 own:=h.own
 sep:=h.sep
 only:=h.only
 imm:=h.imm
 lt:=h.lt
 pin:=h.pin
 deep:=h.deep.imp fun E hE=>⟨hE.head,hE.nest,hE.peek,hE.pend,hE.peekr,hE.pendr,hE.peekv,hE.priv,hE.sep1,hE.sep2⟩
theorem R.reheap (h:R fr σ φ I a w) {id:Nat} {hv hv':HV} (h0:σ.heap id=some hv) (ho:hv.owned=true) (hs:RH fr.J φ I w id hv→RH fr.J φ I w id hv') (hpl:hv'.plain=true:=by rfl):R fr { σ with heap:=fun i=>if i=id then some hv' else σ.heap i } φ I a w:=by
 have key:∀ i hv1,(if i=id then some hv' else σ.heap i)=some hv1→∃ hv2,σ.heap i=some hv2∧(hv1.owned=true→hv2.owned=true):=by
  intro i hv1 e
  split at e
  ·rename_i hi; subst hi; exact ⟨hv,h0,fun _=>ho⟩
  ·exact ⟨hv1,e,fun h=>h⟩
 exact {
  nt:=h.nt
  dfr:=h.dfr
  env:=h.env
  heap:=fun i hv1 e=>by
   replace e:(if i=id then some hv' else σ.heap i)=some hv1:=e
   split at e
   ·rename_i hi; subst hi; cases e
    exact hs (h.heap i hv h0)
   ·exact h.heap i hv1 e
  fresh:=h.fresh
  own:=fun i hv1 v b e ho1=>by
   obtain ⟨hv2,h1,h2⟩:=key i hv1 e
   exact h.own i hv2 v b h1 (h2 ho1)
  sep:=fun i i' hv1 hv1' v v' b hne e e' ho1 ho1'=>by
   obtain ⟨hv2,h1,h2⟩:=key i hv1 e
   obtain ⟨hv2',h1',h2'⟩:=key i' hv1' e'
   exact h.sep i i' hv2 hv2' v v' b hne h1 h1' (h2 ho1) (h2' ho1')
  only:=h.only
  imm:=h.imm
  lt:=h.lt
  pin:=h.pin
  deep:=by
   obtain ⟨E,hE⟩:=h.deep
   refine ⟨E,hE.frame h.old (fun _ _ h=>h) (fun _ h=>h) (fun _ _=>rfl) (fun id b hb=>⟨rfl,(hE.priv id b hb).1⟩) (Nat.le_refl _) (fun i hv1 e hp=>⟨?_,fun _ _ _ _ _=>rfl⟩) fun i hv1 v b e h2 h3 h4 id' h5=>?_⟩
   ·replace e:(if i=id then some hv' else σ.heap i)=some hv1:=e
    split at e
    ·cases e; rw [hpl] at hp; cases hp
    ·exact e
   ·obtain ⟨hv2,g1,g2⟩:=key i hv1 e
    exact hE.sep1 id' b h5 i hv2 v g1 (g2 h2) h3 h4 }
def nilV:Value:=.slice none 0 0
theorem R.nilRow (h:R fr σ φ I a w) {id:Nat} (hf:σ.fresh id) (e:TypeId) (k:Ty):R fr ((⟨none,none,[],[],[(id,some (.row e k []))],[id]⟩:Rec).apply σ) (ext φ id nilV) I a w :=
 h.new (v:=undef) (w':=w) ⟨none,none,[],[],[(id,some (.row e k []))],[id]⟩ (fun _ h=>by cases h) rfl rfl hf (OnlyP.refl _ _) (fun b hb=>by cases hb)
  ⟨nilV,[],ext_same,World.ownsRow_nil _ _ _ _,rfl⟩ (fun _ h=>by cases h)
theorem widCell_ok {J:Nat→Prop} {cs cs':List CV} {j n:Nat} (h:widCell cs j n=some cs') (hn:φ n=some nilV) {vs:List Value} (ha:all2 (RV J φ I w) cs vs):all2 (RV J φ I w) cs' vs:=by
 unfold widCell at h
 split at h
 case h_2=>cases h
 case h_1 c hc =>
 have h0:=ite_some h rfl
 clear h
 obtain ⟨hi,h⟩:=h0
 cases h
 obtain ⟨v,h1,h2⟩:=ha.get hc
 have h3:v=nilV:=by rw [isNil_ok hi] at h2; exact h2
 have h4:=ha.set j (a:=.own n) (b:=v) ⟨by rw [h3]; exact hn,by rw [h3]; rfl⟩
 have h5:vs.set j v=vs:=by
  apply List.ext_getElem?
  intro i
  rw [List.getElem?_set]
  split
  ·rename_i hij; subst hij
   split
   ·exact h1.symm
   ·rename_i hlt; rw [List.getElem?_eq_none (by omega)]
  ·rfl
 rw [h5] at h4
 exact h4
end
theorem R.widenG {fr:Fr} {σ:LS} {φ φ':Nat→Option Value} {I:Nat→Prop} {a:Act} {w:World} (d:Wd) (news:List (Nat×Option HV)) (nw:List Nat) (m:Nat) (h:R fr σ.toF φ I a w)
  (hnew:R fr ((⟨none,none,[],[],news,nw⟩:Rec).apply σ.toF) φ' I a w) (hφ:φ' σ.next=some nilV) (hnews:∀ p ∈ news,σ.next ≤ p.1) (hnw:∀ i ∈ nw,i < σ.next + m):∃ φ',R fr (σ.widenG d news m).toF φ' I a w:=by
 unfold LS.widenG
 split
 case h_2=>exact ⟨φ,h⟩
 case h_1 g cs hg =>
 have hlk:∀ i,(match news.lookup i with
   | some h=>h
   | none=>σ.at i)=(match (news ++ σ.heap).lookup i with
   | some x=>x
   | none=>none):=by
  intro i
  rw [List.lookup_append]
  cases news.lookup i with
  | some x=>rfl
  | none=>rfl
 split
 ·split
  case h_2=>exact ⟨φ,h⟩
  case h_1 id off =>
  split
  case h_2=>exact ⟨φ,h⟩
  case h_1 cs1 hat =>
  split
  case h_2=>exact ⟨φ,h⟩
  case h_1 cs' hw =>
  have hne:id < σ.next:=by
   rcases Nat.lt_or_ge id σ.next with h1 | h1
   ·exact h1
   ·obtain ⟨b,vs,t,e,_⟩:=h.heap _ _ hat
    rw [h.fresh id h1] at e; cases e
  have hl0:news.lookup id=none:=by
   rw [List.lookup_eq_none_iff]
   intro p hp
   have:=hnews p hp
   simp only [beq_eq_false_iff_ne,ne_eq,bne_iff_ne]
   omega
  refine ⟨φ',(hnew.reheap (id:=id) (hv:=.cells cs1) (hv':=.cells cs') ?_ rfl ?_).sub (fun t av he=>he) (fun i hv he=>?_) fun i he=>?_⟩
  ·show (match news.lookup id with
    | some h=>h
    | none=>σ.at id)=_
   rw [hl0]; exact hat
  ·rintro ⟨b,vs,t,h1,h2,h3,h4⟩
   exact ⟨b,vs,t,h1,h2,widCell_ok hw hφ h3,h4⟩
  ·show (if i=id then some (HV.cells cs') else (match news.lookup i with
    | some h=>h
    | none=>σ.at i))=some hv
   rw [hlk]
   have he:(match ((id,some (HV.cells cs')) :: (news ++ σ.heap)).lookup i with
    | some x=>x
    | none=>none)=some hv:=he
   simp only [List.lookup] at he
   by_cases e1:i=id
   ·rw [if_pos e1]; simpa [e1] using he
   ·have e2:(i == id)=false:=by simpa using e1
    rw [if_neg e1]
    rw [e2] at he
    exact he
  ·have he:σ.next + m ≤ i:=he
   exact ⟨show σ.next ≤ i by omega,fun hi=>by have:=hnw i hi; omega⟩
 ·split
  case h_2=>exact ⟨φ,h⟩
  case h_1 cs' hw =>
  refine ⟨φ',(hnew.reenv (t:=d.slot) (av:=.sv g cs) (av':=.sv g cs') ?_ ?_).sub (fun t av he=>?_) (fun i hv he=>?_) fun i he=>?_⟩
  ·exact hg
  ·intro v hv
   obtain ⟨vs,h1,h2⟩:=RSV.pack hv
   exact RSV.mk (widCell_ok hw hφ h1) h2
  ·show (if t=d.slot then some (AV.sv g cs') else σ.get t)=some av
   have he:(match ((d.slot,some (AV.sv g cs')) :: σ.env).lookup t with
    | some x=>x
    | none=>none)=some av:=he
   simp only [List.lookup] at he
   by_cases e1:t=d.slot
   ·rw [if_pos e1]; simpa [e1] using he
   ·have e2:(t == d.slot)=false:=by simpa using e1
    rw [if_neg e1]
    rw [e2] at he
    exact he
  ·show (match news.lookup i with
    | some h=>h
    | none=>σ.at i)=some hv
   rw [hlk]
   exact he
  ·have he:σ.next + m ≤ i:=he
   exact ⟨show σ.next ≤ i by omega,fun hi=>by have:=hnw i hi; omega⟩
theorem R.widen1 {fr:Fr} {σ:LS} {φ:Nat→Option Value} {I:Nat→Prop} {a:Act} {w:World} (d:Wd) (h:R fr σ.toF φ I a w):∃ φ',R fr (σ.widen1 d).toF φ' I a w:=by
 unfold LS.widen1
 split
 ·split
  case h_2=>exact ⟨φ,h⟩
  case h_1 k0 e1 k1 hk =>
  have hf:σ.toF.fresh σ.next:=Nat.le_refl _
  have hf2:σ.toF.fresh (σ.next + 1):=Nat.le_succ _
  refine h.widenG d _ [σ.next,σ.next + 1] 2 (h.nestMk (v:=undef) (w':=w) (u:=nilV) (id:=σ.next) (lk:=σ.next + 1) (olds:=[]) (e:=d.e) (k0:=k0) (e1:=e1) (k1:=k1) (xs:=[]) ⟨none,none,[],[],[(σ.next,some (.nest d.e k0 e1 k1 [] (σ.next + 1))),(σ.next + 1,some (.lock σ.next 0 none))],[σ.next,σ.next + 1]⟩ (fun _ h=>by cases h) rfl rfl hf hf2 (by omega) (fun _ h=>by cases h) (OnlyP.refl _ _) (fun b hb=>by cases hb) ⟨[],World.ownsRow_nil _ _ _ _⟩ (fun _ h=>by cases h) (fun i hi=>absurd hi (Nat.not_lt_zero _)) (fun E _=>⟨fun i hi=>absurd hi (Nat.not_lt_zero _),fun i j u u' b hi=>absurd hi (Nat.not_lt_zero _)⟩)) ?_ ?_ ?_
  ·unfold ext; rw [if_neg (by omega),if_pos rfl]
  ·intro p hp
   simp only [List.mem_cons,List.not_mem_nil,or_false] at hp
   rcases hp with rfl | rfl <;> simp
  ·intro i hi
   simp only [List.mem_cons,List.not_mem_nil,or_false] at hi
   omega
 ·exact h.widenG d _ [σ.next] 1 (h.nilRow (Nat.le_refl _) d.e d.k) ext_same (fun p hp=>by simp only [List.mem_singleton] at hp; subst hp; exact Nat.le_refl _) (fun i hi=>by simp only [List.mem_singleton] at hi; omega)
theorem immCell_ok {fr:Fr} {σ:LS} {φ:Nat→Option Value} {I:Nat→Prop} {a:Act} {w:World} (hR:R fr σ.toF φ I a w) {cs cs':List CV} {j:Nat} (h:immCell σ cs j=some cs') {vs:List Value} (ha:all2 (RV fr.J φ I w) cs vs):all2 (RV fr.J φ I w) cs' vs:=by
 unfold immCell at h
 split at h
 case h_2=>cases h
 case h_1 id hc =>
 split at h
 case h_2=>cases h
 case h_1 e k xs hat =>
 cases h
 obtain ⟨v,h1,h2⟩:=ha.get hc
 obtain ⟨v',h3,h4⟩:=hR.heap id _ hat
 have h2:φ id=some v:=h2.1
 rw [h2] at h3; cases h3
 have h5:=ha.set j (a:=.imm e k xs) (b:=v) h4
 have h6:vs.set j v=vs:=by
  apply List.ext_getElem?
  intro i
  rw [List.getElem?_set]
  split
  ·rename_i hij; subst hij
   split
   ·exact h1.symm
   ·rename_i hlt; rw [List.getElem?_eq_none (by omega)]
  ·rfl
 rw [h6] at h5
 exact h5
theorem R.imm1 {fr:Fr} {σ:LS} {φ:Nat→Option Value} {I:Nat→Prop} {a:Act} {w:World} (d:Wd) (h:R fr σ.toF φ I a w):R fr (σ.imm1 d).toF φ I a w:=by
 unfold LS.imm1
 split
 case h_2=>exact h
 case h_1 g cs hg =>
 split
 ·split
  case h_2=>exact h
  case h_1 id off =>
  split
  case h_2=>exact h
  case h_1 cs1 hat =>
  split
  case h_2=>exact h
  case h_1 cs' hw =>
  refine (h.reheap (id:=id) (hv:=.cells cs1) (hv':=.cells cs') hat rfl ?_).sub (fun t av he=>he) (fun i hv he=>?_) fun i he=>he
  ·rintro ⟨b,vs,t,h1,h2,h3,h4⟩
   exact ⟨b,vs,t,h1,h2,immCell_ok h hw h3,h4⟩
  ·show (if i=id then some (HV.cells cs') else σ.at i)=some hv
   have he:(match ((id,some (HV.cells cs')) :: σ.heap).lookup i with
    | some x=>x
    | none=>none)=some hv:=he
   simp only [List.lookup] at he
   by_cases e1:i=id
   ·rw [if_pos e1]; simpa [e1] using he
   ·have e2:(i == id)=false:=by simpa using e1
    rw [if_neg e1]
    rw [e2] at he
    exact he
 ·split
  case h_2=>exact h
  case h_1 cs' hw =>
  refine (h.reenv (t:=d.slot) (av:=.sv g cs) (av':=.sv g cs') hg ?_).sub (fun t av he=>?_) (fun i hv he=>he) fun i he=>he
  ·intro v hv
   obtain ⟨vs,h1,h2⟩:=RSV.pack hv
   exact RSV.mk (immCell_ok h hw h1) h2
  ·show (if t=d.slot then some (AV.sv g cs') else σ.get t)=some av
   have he:(match ((d.slot,some (AV.sv g cs')) :: σ.env).lookup t with
    | some x=>x
    | none=>none)=some av:=he
   simp only [List.lookup] at he
   by_cases e1:t=d.slot
   ·rw [if_pos e1]; simpa [e1] using he
   ·have e2:(t == d.slot)=false:=by simpa using e1
    rw [if_neg e1]
    rw [e2] at he
    exact he
theorem R.widen {fr:Fr} {a:Act} {w:World}:∀ (ds:List Wd) {σ:LS} {φ:Nat→Option Value} {I:Nat→Prop},R fr σ.toF φ I a w→∃ φ' I',R fr (σ.widen ds).toF φ' I' a w
 | [],σ,φ,I,h=>⟨φ,I,h⟩
 | d :: ds,σ,φ,I,h=>by
  unfold LS.widen
  split
  ·obtain ⟨I1,h1⟩:=R.frzL (fzCVs σ d) σ I h
   exact R.widen ds (R.imm1 d h1)
  ·obtain ⟨φ1,h1⟩:=R.widen1 d h
   exact R.widen ds h1
section
variable {ρ:Type}
def loopE (body:LS→(Exit→LS→Option ρ)→Option ρ) (cn:LS→LS) (k:Exit→LS→Option ρ):Nat→LS→Option ρ
 | 0,_=>none
 | m + 1,σ=>body σ fun e σ'=>match e with
  | .normal=>loopE body cn k m (cn σ')
  | e=>k e σ'
def firstReg:Code→Nat
 | .region id _ _=>id
 | .seq a b=>match a with
  | .skip=>firstReg b
  | a=>firstReg a
 | .cond _ a _=>firstReg a
 | .block _ a=>firstReg a
 | .loop a=>firstReg a
 | .scope a=>firstReg a
 | _=>0
abbrev HL:=List (Nat×List Nat×List Wd)
def headOf (H:HL) (id:Nat) (σ:LS):LS:=match H.lookup id with
 | some p=>(σ.widen p.2).canon p.1
 | none=>σ.canon []
theorem R.head {fr:Fr} {σ:LS} {φ:Nat→Option Value} {I:Nat→Prop} {a:Act} {w:World} (H:HL) (id:Nat) (h:R fr σ.toF φ I a w):∃ φ' I',R fr (headOf H id σ).toF φ' I' a w:=by
 unfold headOf
 split
 ·rename_i p _
  obtain ⟨φ1,I1,h1⟩:=R.widen p.2 h
  obtain ⟨φ2,h2⟩:=R.canon p.1 h1
  exact ⟨φ2,I1,h2⟩
 ·obtain ⟨φ2,h2⟩:=R.canon [] h
  exact ⟨φ2,I,h2⟩
def joinOf (H:HL) (b:Code) (σ:LS):LS:=match H.lookup (1000000 + firstReg b) with
 | some p=>(σ.widen p.2).canon p.1
 | none=>σ
theorem R.join {fr:Fr} {σ:LS} {φ:Nat→Option Value} {I:Nat→Prop} {a:Act} {w:World} (H:HL) (b:Code) (h:R fr σ.toF φ I a w):∃ φ' I',R fr (joinOf H b σ).toF φ' I' a w:=by
 unfold joinOf
 split
 ·rename_i p _
  obtain ⟨φ1,I1,h1⟩:=R.widen p.2 h
  obtain ⟨φ2,h2⟩:=R.canon p.1 h1
  exact ⟨φ2,I1,h2⟩
 ·exact ⟨φ,I,h⟩
def jn (run:LS→(Exit→LS→Option ρ)→Option ρ) (cn:LS→LS) (σ:LS) (k:Exit→LS→Option ρ):Option ρ:=run (cn σ) k
def codeE (ev:Oper→LS→Nat→(Rec→Option ρ)→Option ρ) (N:Nat) (H:HL) (n:Nat):Code→LS→(Exit→LS→Option ρ)→Option ρ
 | .skip,σ,k=>k .normal σ
 | .label _,σ,k=>k .normal σ
 | .region _ ops draw,σ,k=>regT ev N ops.toList ops.toList σ fun tes σ'=>if draw then (if drawOk ops.toList tes then k .normal σ' else none) else k .normal σ'
 | .seq a b,σ,k=>codeE ev N H n a σ fun e σ'=>match e with
  | .normal=>jn (codeE ev N H n b) (joinOf H b) σ' k
  | e=>k e σ'
 | .cond c a b,σ,k=>match (opd σ c).bind fun p=>boolOf p.1 with
  | some t=>cnd t (codeE ev N H n a σ k) (codeE ev N H n b σ k)
  | none=>none
 | .block id a,σ,k=>codeE ev N H n a σ fun e σ'=>match e with
  | .exit id'=>if id'=id then k .normal σ' else k (.exit id') σ'
  | e=>k e σ'
 | .loop a,σ,k=>loopE (codeE ev N H n a) (headOf H (firstReg a)) k n (headOf H (firstReg a) σ)
 | .exit id,σ,k=>k (.exit id) σ
 | .ret,σ,k=>k .ret σ
 | _,_,_=>none
inductive Dir where
 | l
 | r
 | b
 | loop (m:Nat)
def codeAt:Code→List Dir→Code
 | c,[]=>c
 | .seq a _,.l :: p=>codeAt a p
 | .seq _ b,.r :: p=>codeAt b p
 | .cond _ a _,.l :: p=>codeAt a p
 | .cond _ _ b,.r :: p=>codeAt b p
 | .block _ a,.b :: p=>codeAt a p
 | .loop a,.loop _ :: p=>codeAt a p
 | c,_=>c
def kAt (ev:Oper→LS→Nat→(Rec→Option ρ)→Option ρ) (N:Nat) (H:HL) (n:Nat):Code→List Dir→(Exit→LS→Option ρ)→Exit→LS→Option ρ
 | .seq a b,.l :: p,k=>kAt ev N H n a p fun e σ'=>match e with
  | .normal=>jn (codeE ev N H n b) (joinOf H b) σ' k
  | e=>k e σ'
 | .seq _ b,.r :: p,k=>kAt ev N H n b p k
 | .cond _ a _,.l :: p,k=>kAt ev N H n a p k
 | .cond _ _ b,.r :: p,k=>kAt ev N H n b p k
 | .block id a,.b :: p,k=>kAt ev N H n a p fun e σ'=>match e with
  | .exit id'=>if id'=id then k .normal σ' else k (.exit id') σ'
  | e=>k e σ'
 | .loop a,.loop m :: p,k=>kAt ev N H n a p fun e σ'=>match e with
  | .normal=>loopE (codeE ev N H n a) (headOf H (firstReg a)) k m (headOf H (firstReg a) σ')
  | e=>k e σ'
 | _,_,k=>k
def loopAt (ev:Oper→LS→Nat→(Rec→Option ρ)→Option ρ) (N:Nat) (H:HL) (n:Nat) (c:Code) (p:List Dir) (k:Exit→LS→Option ρ) (m:Nat) (σ:LS):Option ρ :=
 match codeAt c p with
 | .loop a=>loopE (codeE ev N H n a) (headOf H (firstReg a)) (kAt ev N H n c p k) m σ
 | _=>none
def jnR (run:LS→(Exit→LS→Option ρ)→Option ρ) (σ:LS) (k:Exit→LS→Option ρ):Option ρ:=run σ k
def PostE (fr:Fr) (k:Exit→LS→Option ρ) (z:ρ) (e:Exit) (a:Act) (w:World):Prop:=∃ σ φ I,k e σ=some z∧R fr σ.toF φ I a w
theorem codeE_ok {P:Program} (hm:P.follows .mixedOrders=true) {ev:Oper→LS→Nat→(Rec→Option ρ)→Option ρ} (hev:EvOK P ev) {H:HL} {n:Nat} {fr:Fr} {z:ρ} :
  ∀ (c:Code) (σ:LS) (k:Exit→LS→Option ρ),codeE ev fr.N H n c σ k=some z→∀ (φ:Nat→Option Value) (I:Nat→Prop) (a:Act) (w:World),R fr σ.toF φ I a w→c.wp P (PostE fr k z) a w
 | .skip,σ,k,h,φ,I,a,w,hR=>wp_skip ⟨σ,φ,I,h,hR⟩
 | .label _,σ,k,h,φ,I,a,w,hR=>wp_label ⟨σ,φ,I,h,hR⟩
 | .region id ops draw,σ,k,h,φ,I,a,w,hR=>by
  obtain ⟨tes,σ',ht,h1⟩:=regT_ok hev _ _ _ _ h
  cases draw with
  | false =>
   simp only [Bool.false_eq_true,if_false] at h1
   refine wp_region ?_
   have:=ht.seq (Q:=PostE fr k z) (i:=0) (by simp) hR fun φ' I' a' w' h3=>⟨σ',φ',I',h1,h3⟩
   rw [List.range_eq_range']
   simpa using this
  | true =>
   simp only [if_true] at h1
   obtain ⟨hd,h1⟩:=ite_some h1 rfl
   refine wp_region_any hm ?_
   refine ht.any hd (fun φ' I' a' w' h3=>⟨σ',φ',I',h1,h3⟩) ops.size _ φ I a _ (by simp) ?_ ?_ ?_
   ·have:(Array.replicate ops.size false).toList.countP (fun b=>!b) ≤ (Array.replicate ops.size false).toList.length:=List.countP_le_length
    simpa using this
   ·intro j o ho hj
    simp only [Array.getD_eq_getD_getElem?,Array.getElem?_replicate] at hj
    split at hj <;> simp at hj
   ·have hX:∀ j,(Array.replicate ops.size false).getD j false=false:=by
     intro j
     simp only [Array.getD_eq_getD_getElem?,Array.getElem?_replicate]
     split <;> rfl
    refine (hR.drew).sub (fun t av he=>?_) (fun id hv he=>?_) fun id he=>he.1
    ·rw [← he]
     exact (fo_none fun j _ hj=>by rw [hX] at hj; cases hj).symm
    ·rw [← he]
     exact (fo_none fun j _ hj=>by rw [hX] at hj; cases hj).symm
 | .seq c d,σ,k,h,φ,I,a,w,hR=>by
  refine wp_seq (wp_mono (codeE_ok hm hev c σ _ h φ I a w hR) ?_)
  rintro e a' w' ⟨σ',φ',I',h1,h2⟩
  cases e with
  | normal =>
   obtain ⟨φ2,I2,h3⟩:=h2.join H d
   exact codeE_ok hm hev d _ k h1 φ2 I2 a' w' h3
  | _=>exact ⟨σ',φ',I',h1,h2⟩
 | .cond c x y,σ,k,h,φ,I,a,w,hR=>by
  unfold codeE at h
  split at h
  case h_2=>cases h
  case h_1 t ht =>
  obtain ⟨⟨av,tl⟩,h1,h2⟩:=Option.bind_eq_some_iff.1 ht
  have h3:=opd_eval h1 hR (opd_temps h1)
  have h2:boolOf av=some t:=h2
  rw [boolOf_eq h2] at h3
  cases t with
  | true=>exact wp_cond_true h3 (codeE_ok hm hev x σ k h φ I a w hR)
  | false=>exact wp_cond_false h3 (codeE_ok hm hev y σ k h φ I a w hR)
 | .block id c,σ,k,h,φ,I,a,w,hR=>by
  refine wp_block (wp_mono (codeE_ok hm hev c σ _ h φ I a w hR) ?_)
  rintro e a' w' ⟨σ',φ',I',h1,h2⟩
  cases e with
  | exit id' =>
   simp only [Exit.inBlock]
   simp only at h1
   by_cases e:id'=id
   ·rw [if_pos e] at h1 ⊢; exact ⟨σ',φ',I',h1,h2⟩
   ·rw [if_neg e] at h1 ⊢; exact ⟨σ',φ',I',h1,h2⟩
  | _=>exact ⟨σ',φ',I',h1,h2⟩
 | .loop c,σ,k,h,φ,I,a,w,hR=>by
  have body:=codeE_ok hm hev (H:=H) (n:=n) (fr:=fr) (z:=z) c
  have h:loopE (codeE ev fr.N H n c) (headOf H (firstReg c)) k n (headOf H (firstReg c) σ)=some z:=h
  have key:∀ (m:Nat) (σ:LS) (φ:Nat→Option Value) (I:Nat→Prop) (a:Act) (w:World),loopE (codeE ev fr.N H n c) (headOf H (firstReg c)) k m σ=some z→R fr σ.toF φ I a w→Code.rounds P c (PostE fr k z) m a w:=by
   intro m
   induction m with
   | zero=>intro σ φ I a w h; cases h
   | succ m ih =>
    intro σ φ I a w h hR
    rw [rounds_succ]
    refine wp_mono (body _ _ h φ I a w hR) ?_
    rintro e a' w' ⟨σ',φ',I',h1,h2⟩
    cases e with
    | normal =>
     obtain ⟨φ0,I0,hR0⟩:=h2.head H (firstReg c)
     exact ih _ φ0 I0 a' w' h1 hR0
    | _=>exact ⟨σ',φ',I',h1,h2⟩
  obtain ⟨φ0,I0,hR0⟩:=hR.head H (firstReg c)
  exact wp_loop_rounds n (key n _ φ0 I0 a w h hR0)
 | .exit id,σ,k,h,φ,I,a,w,hR=>wp_exit ⟨σ,φ,I,h,hR⟩
 | .ret,σ,k,h,φ,I,a,w,hR=>wp_ret ⟨σ,φ,I,h,hR⟩
 | .rangeFunc ..,σ,k,h,_,_,_,_,_=>by cases h
 | .scope _,σ,k,h,_,_,_,_,_=>by cases h
 | .goto _,σ,k,h,_,_,_,_,_=>by cases h
 | .refuse _,σ,k,h,_,_,_,_,_=>by cases h
end
end Go.Ev
