/- A checked evaluator, part G: regions, in the text's order and in any other one. -/
import Derived.Test.YtjdlancjbdmkhaaQEvF
namespace Go.Ev
open Go.RowKit
set_option linter.unusedVariables false
theorem R.sub {fr:Fr} {σ σ':FS} {φ:Nat→Option Value} {I:Nat→Prop} {a:Act} {w:World} (h:R fr σ φ I a w) (he:∀ t av,σ'.env t=some av→σ.env t=some av) (hh:∀ id hv,σ'.heap id=some hv→σ.heap id=some hv) (hf:∀ id,σ'.fresh id→σ.fresh id) (hp:σ'.pin=σ.pin:=by rfl):R fr σ' φ I a w where
 nt:=h.nt
 dfr:=h.dfr
 env:=fun t av e=>h.env t av (he t av e)
 heap:=fun id hv e=>h.heap id hv (hh id hv e)
 fresh:=fun id e=>h.fresh id (hf id e)
 own:=fun id hv v b e=>h.own id hv v b (hh id hv e)
 sep:=fun id id' hv hv' v v' b hne e e'=>h.sep id id' hv hv' v v' b hne (hh id hv e) (hh id' hv' e')
 only:=h.only
 imm:=h.imm
 lt:=h.lt
 pin:=by rw [hp]; exact h.pin
 deep:=by
  obtain ⟨E,hE⟩:=h.deep
  exact ⟨E,hE.frame h.old (fun _ _ h=>h) (fun _ h=>h) (fun _ _=>rfl) (fun id b hb=>⟨rfl,(hE.priv id b hb).1⟩) (Nat.le_refl _) (fun id hv h0 _=>⟨hh id hv h0,fun _ _ _ _ _=>rfl⟩) fun id hv v b h1 h2 h3 h4 id' h5=>hE.sep1 id' b h5 id hv v (hh id hv h1) h2 h3 h4⟩
def LS.step (σ:LS) (r:Rec):LS where
 env:=match r.dst with
  | some d=>(d,r.val) :: σ.env
  | none=>σ.env
 heap:=r.wr ++ σ.heap
 next:=σ.next + 16
 pins:=σ.pins
theorem lookup_append {α:Type} (l m:List (Nat×α)) (i:Nat):(l ++ m).lookup i=match l.lookup i with
  | some x=>some x
  | none=>m.lookup i:=by
 induction l with
 | nil=>rfl
 | cons p l ih =>
  obtain ⟨j,y⟩:=p
  simp only [List.cons_append,List.lookup]
  cases h:i == j <;> simp [ih]
theorem step_get (σ:LS) (r:Rec) (t:Nat):(σ.step r).get t=if r.dst=some t then r.val else σ.get t:=by
 unfold LS.step LS.get
 cases hd:r.dst with
 | none=>simp
 | some d =>
  by_cases e:d=t
  ·subst e
   simp [List.lookup]
  ·have:(t == d)=false:=by simpa using Ne.symm e
   simp [List.lookup,this,e]
theorem step_at (σ:LS) (r:Rec) (id:Nat):(σ.step r).at id=match r.wr.lookup id with
  | some h=>h
  | none=>σ.at id:=by
 unfold LS.step LS.at
 simp only [lookup_append]
 cases r.wr.lookup id <;> rfl
theorem step_sub {fr:Fr} {σ:LS} {r:Rec} {φ:Nat→Option Value} {I:Nat→Prop} {a:Act} {w:World} (hn:∀ id ∈ r.new,id < σ.next + 16) (h:R fr (r.apply σ.toF) φ I a w):R fr (σ.step r).toF φ I a w:=by
 refine h.sub (fun t av e=>?_) (fun id hv e=>?_) fun id e=>?_
 ·simp only [LS.toF,step_get] at e
  simpa [Rec.apply,LS.toF] using e
 ·simp only [LS.toF,step_at] at e
  simp only [Rec.apply,LS.toF]
  cases hl:r.wr.lookup id with
  | none=>rw [hl] at e; exact e
  | some x=>rw [hl] at e; exact e
 ·have e:σ.next + 16 ≤ id:=e
  exact ⟨show σ.next ≤ id by omega,fun hm=>by have:=hn id hm; omega⟩
def bAV (b:Bool):AV:=.sv false [.lit (.bool b)]
def LS.setB (σ:LS) (t:Nat) (b:Bool):LS:={ σ with env:=(t,some (bAV b)) :: σ.env }
theorem setB_toF {σ:LS} {t:Nat} {b:Bool} (h:σ.get t=some (bAV b)):(σ.setB t b).toF=σ.toF:=by
 unfold LS.toF
 congr 1
 funext u
 unfold LS.setB LS.get
 by_cases e:u=t
 ·subst e
  simp only [List.lookup,beq_self_eq_true]
  exact h.symm
 ·have:(u == t)=false:=by simpa using e
  simp [List.lookup,this]
def uAV:AV:=.sv false [.lit undef]
def isU:Option AV→Bool
 | some (.sv false [.lit (.tuple l)])=>l.size == 0
 | _=>false
theorem isU_ok {x:Option AV} (h:isU x=true):x=some uAV:=by
 unfold isU at h
 split at h
 ·rename_i l
  have:l=#[]:=by simpa using h
  subst this
  rfl
 ·cases h
def offB (b:Bool) (g:AV):Prop:=g=bAV (!b) ∨ g=uAV
def skipRec (o:Oper) (t:Nat) (g:AV):Rec:=⟨o.dst,some uAV,[(t,g)],[],[],[]⟩
def Rec.gd (r:Rec) (t:Nat) (b:Bool):Rec:={ r with temps:=(t,bAV b) :: r.temps }
def dstOk (N:Nat):Option Tmp→Bool
 | some d=>d < N
 | none=>true
theorem dstOk_lt {N:Nat} {d:Option Tmp} (h:dstOk N d=true):∀ x,d=some x→x < N:=by
 rintro x rfl
 simpa [dstOk] using h
def gtmp (ops:List Oper) (j:Nat):Option Tmp:=(ops[j]?).bind (·.dst)
structure TE where
 perf:Bool
 r:Rec
inductive Tr (P:Program) (N:Nat) (ops:List Oper):List Oper→LS→List TE→LS→Prop
 | nil (σ:LS):Tr P N ops [] σ [] σ
 | perf {o:Oper} {l:List Oper} {σ σ':LS} {r:Rec} {tes:List TE} (hd:dstOk N o.dst=true) (hg:o.guard=none) (h:Good P o σ σ.next r) (ht:Tr P N ops l (σ.step r) tes σ'):Tr P N ops (o :: l) σ (⟨true,r⟩ :: tes) σ'
 | gperf {o:Oper} {l:List Oper} {σ σ':LS} {r:Rec} {tes:List TE} {j:Nat} {b:Bool} {t:Tmp} (hd:dstOk N o.dst=true) (hg:o.guard=some (j,b)) (hj:gtmp ops j=some t) (hb:σ.get t=some (bAV b)) (h:Good P o σ σ.next r)
   (ht:Tr P N ops l (σ.step (r.gd t b)) tes σ'):Tr P N ops (o :: l) σ (⟨true,r.gd t b⟩ :: tes) σ'
 | gskip {o:Oper} {l:List Oper} {σ σ':LS} {tes:List TE} {j:Nat} {b:Bool} {t:Tmp} {g:AV} (hd:dstOk N o.dst=true) (hg:o.guard=some (j,b)) (hj:gtmp ops j=some t) (hgb:offB b g) (hb:σ.get t=some g)
   (ht:Tr P N ops l (σ.step (skipRec o t g)) tes σ'):Tr P N ops (o :: l) σ (⟨false,skipRec o t g⟩ :: tes) σ'
 | setb {l:List Oper} {σ σ':LS} {tes:List TE} {t:Nat} {b:Bool} (hb:σ.get t=some (bAV b)) (ht:Tr P N ops l (σ.setB t b) tes σ'):Tr P N ops l σ tes σ'
section
variable {ρ:Type}
def regT (ev:Oper→LS→Nat→(Rec→Option ρ)→Option ρ) (N:Nat) (ops:List Oper):List Oper→LS→(List TE→LS→Option ρ)→Option ρ
 | [],σ,k=>k [] σ
 | o :: l,σ,k=>if dstOk N o.dst then (match o.guard with
  | none=>ev o σ σ.next fun r=>regT ev N ops l (σ.step r) fun tes σ'=>k (⟨true,r⟩ :: tes) σ'
  | some (j,b)=>match gtmp ops j with
   | some t=>match (σ.get t).bind boolOf with
    | some c=>cnd c
     (cnd b (ev o (σ.setB t true) σ.next fun r=>regT ev N ops l ((σ.setB t true).step (r.gd t true)) fun tes σ'=>k (⟨true,r.gd t true⟩ :: tes) σ')
      (regT ev N ops l ((σ.setB t true).step (skipRec o t (bAV true))) fun tes σ'=>k (⟨false,skipRec o t (bAV true)⟩ :: tes) σ'))
     (cnd b (regT ev N ops l ((σ.setB t false).step (skipRec o t (bAV false))) fun tes σ'=>k (⟨false,skipRec o t (bAV false)⟩ :: tes) σ')
      (ev o (σ.setB t false) σ.next fun r=>regT ev N ops l ((σ.setB t false).step (r.gd t false)) fun tes σ'=>k (⟨true,r.gd t false⟩ :: tes) σ'))
    | none=>if isU (σ.get t)=true then (regT ev N ops l (σ.step (skipRec o t uAV)) fun tes σ'=>k (⟨false,skipRec o t uAV⟩ :: tes) σ') else none
   | none=>none) else none
def EvOK (P:Program) (ev:Oper→LS→Nat→(Rec→Option ρ)→Option ρ):Prop:=∀ o σ base k z,ev o σ base k=some z→∃ r,Good P o σ base r∧k r=some z
theorem setB_get {σ:LS} {t:Nat} {b:Bool}:(σ.setB t b).get t=some (bAV b):=by simp [LS.setB,LS.get]
theorem regT_ok {P:Program} {ev:Oper→LS→Nat→(Rec→Option ρ)→Option ρ} (hev:EvOK P ev) {N:Nat} {ops:List Oper}:∀ (l:List Oper) (σ:LS) (k:List TE→LS→Option ρ) (z:ρ),regT ev N ops l σ k=some z→∃ tes σ',Tr P N ops l σ tes σ'∧k tes σ'=some z
 | [],σ,k,z,h=>⟨[],σ,.nil σ,h⟩
 | o :: l,σ,k,z,h=>by
  unfold regT at h
  have h0:=ite_some h rfl
  clear h
  obtain ⟨hd,h⟩:=h0
  split at h
  ·rename_i hg
   obtain ⟨r,h1,h2⟩:=hev _ _ _ _ _ h
   obtain ⟨tes,σ',h3,h4⟩:=regT_ok hev l _ _ z h2
   exact ⟨_,σ',.perf hd hg h1 h3,h4⟩
  ·rename_i j b hg
   split at h
   ·rename_i t hj
    split at h
    ·rename_i c hc
     obtain ⟨av,h5,h6⟩:=Option.bind_eq_some_iff.1 hc
     have h7:σ.get t=some (bAV c):=by rw [h5,boolOf_eq h6]; rfl
     cases c with
     | true =>
      cases b with
      | true =>
       obtain ⟨r,h1,h2⟩:=hev _ _ _ _ _ h
       obtain ⟨tes,σ',h3,h4⟩:=regT_ok hev l _ _ z h2
       exact ⟨_,σ',.setb h7 (.gperf hd hg hj setB_get h1 h3),h4⟩
      | false =>
       obtain ⟨tes,σ',h3,h4⟩:=regT_ok hev l _ _ z h
       exact ⟨_,σ',.setb h7 (.gskip (b:=false) hd hg hj (.inl rfl) setB_get h3),h4⟩
     | false =>
      cases b with
      | true =>
       obtain ⟨tes,σ',h3,h4⟩:=regT_ok hev l _ _ z h
       exact ⟨_,σ',.setb h7 (.gskip (b:=true) hd hg hj (.inl rfl) setB_get h3),h4⟩
      | false =>
       obtain ⟨r,h1,h2⟩:=hev _ _ _ _ _ h
       obtain ⟨tes,σ',h3,h4⟩:=regT_ok hev l _ _ z h2
       exact ⟨_,σ',.setb h7 (.gperf hd hg hj setB_get h1 h3),h4⟩
    ·have h0:=ite_some h rfl
     clear h
     obtain ⟨hu,h⟩:=h0
     obtain ⟨tes,σ',h3,h4⟩:=regT_ok hev l _ _ z h
     exact ⟨_,σ',.gskip hd hg hj (.inr rfl) (isU_ok hu) h3,h4⟩
   ·cases h
end
structure TEok (P:Program) (N:Nat) (ops:List Oper) (o:Oper) (e:TE):Prop where
 hd:dstOk N o.dst=true
 dst:e.r.dst=o.dst
 perf:e.perf=true→OpOK P o e.r∧(o.guard=none ∨ ∃ j b t,o.guard=some (j,b)∧gtmp ops j=some t∧(t,bAV b) ∈ e.r.temps)
 skip:e.perf=false→e.r.val=some uAV∧e.r.wr=[]∧e.r.new=[]∧∃ j b t g,o.guard=some (j,b)∧gtmp ops j=some t∧offB b g∧(t,g) ∈ e.r.temps
theorem OpOK.gd {P:Program} {o:Oper} {r:Rec} {t:Nat} {b:Bool} (h:OpOK P o r):OpOK P o (r.gd t b):=by
 intro fr σ φ I a w K Q hR hv hd hK
 exact h fr σ φ I a w K Q hR ⟨fun p hp=>hv.1 p (List.mem_cons_of_mem _ hp),hv.2.1,hv.2.2⟩ hd hK
section
variable {P:Program} {ops:Array Oper} {Q:Exit→Act→World→Prop} {fr:Fr} {φ:Nat→Option Value} {I:Nat→Prop} {a:Act} {w:World}
theorem yield_of {σ:FS} (hR:R fr σ φ I a w) {j:Nat} {t:Tmp} {b:Bool} (hj:gtmp ops.toList j=some t) (hb:σ.env t=some (bAV b)):yielded ops a.tmps j=some b:=by
 obtain ⟨v,h1,h2⟩:=hR.env t _ hb
 have h2:v=.bool b:=h2
 subst h2
 have hj':(ops[j]?).bind (·.dst)=some t:=by
  unfold gtmp at hj
  simpa using hj
 unfold yielded
 rw [hj']
 simp [h1]
theorem yield_none {σ:FS} (hR:R fr σ φ I a w) {j:Nat} {t:Tmp} (hj:gtmp ops.toList j=some t) (hb:σ.env t=some uAV):yielded ops a.tmps j=none:=by
 obtain ⟨v,h1,h2⟩:=hR.env t _ hb
 have h2:v=undef:=h2
 subst h2
 have hj':(ops[j]?).bind (·.dst)=some t:=by
  unfold gtmp at hj
  simpa using hj
 unfold yielded
 rw [hj']
 simp [h1,undef]
theorem wpOp_te {σ:FS} {e:TE} {o:Oper} {i:Nat} (ho:ops[i]?=some o) (he:TEok P fr.N ops.toList o e) (hR:R fr σ φ I a w) (hv:e.r.valid σ) {K:Act→World→Prop} (hK:∀ φ' I' a' w',R fr (e.r.apply σ) φ' I' a' w'→K a' w'):wpOp P ops Q i K a w:=by
 unfold wpOp
 simp only [ho]
 cases hp:e.perf with
 | true =>
  obtain ⟨hok,hg⟩:=he.perf hp
  have hw:Region.wanted o (yielded ops a.tmps)=true:=by
   unfold Region.wanted
   rcases hg with hg | ⟨j,b,t,hg,hj,hm⟩
   ·rw [hg]
   ·rw [hg]
    simp only [yield_of hR hj (hv.1 _ hm)]
    simp
  rw [if_pos hw]
  exact .inl (hok fr σ φ I a w K Q hR hv (dstOk_lt he.hd) fun φ' I' v w' h=>hK φ' I' _ w' h)
 | false =>
  obtain ⟨h1,h2,h3,j,b,t,g,hg,hj,hgb,hm⟩:=he.skip hp
  have hw:Region.wanted o (yielded ops a.tmps)=false:=by
   unfold Region.wanted
   rw [hg]
   rcases hgb with rfl | rfl
   ·simp only [yield_of hR hj (hv.1 _ hm)]
    cases b <;> rfl
   ·simp only [yield_none hR hj (hv.1 _ hm)]
    rfl
  rw [if_neg (by rw [hw]; simp)]
  have:=hR.pure e.r (v:=undef) (by rw [he.dst]; exact dstOk_lt he.hd) h2 h3 (fun av h=>by rw [h1] at h; cases h; rfl)
  rw [he.dst] at this
  exact hK φ I _ w this
end
theorem Tr.seq {P:Program} {ops:Array Oper} {Q:Exit→Act→World→Prop} {fr:Fr}:∀ {l:List Oper} {σ σ':LS} {tes:List TE},Tr P fr.N ops.toList l σ tes σ'→∀ {i:Nat} (hi:ops.toList.drop i=l) {φ:Nat→Option Value} {I:Nat→Prop} {a:Act} {w:World},R fr σ.toF φ I a w →
  (∀ φ' I' a' w',R fr σ'.toF φ' I' a' w'→Q .normal a' w')→wpOps P ops Q (List.range' i l.length) a w:=by
 intro l σ σ' tes ht
 have stepOp:∀ {o:Oper} {l:List Oper} {i:Nat},ops.toList.drop i=o :: l→ops[i]?=some o∧ops.toList.drop (i + 1)=l:=by
  intro o l i hi
  have h1:ops.toList[i]?=some o:=by
   have:=congrArg (fun x=>x[0]?) hi
   simpa using this
  refine ⟨by simpa using h1,?_⟩
  rw [← List.tail_drop,hi]
  rfl
 induction ht with
 | nil σ=>intro i hi φ I a w hR hQ; exact hQ φ I a w hR
 | perf hd hg h ht ih =>
  intro i hi φ I a w hR hQ
  obtain ⟨h1,h2⟩:=stepOp hi
  rw [List.length_cons,List.range'_succ,wpOps_cons]
  refine wpOp_te h1 (e:=⟨true,_⟩) ⟨hd,h.1,fun _=>⟨h.2.2.2.2,.inl hg⟩,fun h=>by cases h⟩ hR ⟨h.2.1,h.2.2.1,fun id hid=>(h.2.2.2.1 id hid).1⟩ fun φ' I' a' w' h3=>?_
  exact ih h2 (step_sub (fun id hid=>(h.2.2.2.1 id hid).2) h3) hQ
 | @gperf o l σ σ' r tes j b t hd hg hj hb h ht ih =>
  intro i hi φ I a w hR hQ
  obtain ⟨h1,h2⟩:=stepOp hi
  rw [List.length_cons,List.range'_succ,wpOps_cons]
  refine wpOp_te h1 (e:=⟨true,r.gd t b⟩) ⟨hd,h.1,fun _=>⟨h.2.2.2.2.gd,.inr ⟨_,_,_,hg,hj,List.mem_cons_self⟩⟩,fun h=>by cases h⟩ hR ⟨?_,h.2.2.1,fun id hid=>(h.2.2.2.1 id hid).1⟩ fun φ' I' a' w' h3=>?_
  ·intro p hp
   rcases List.mem_cons.1 hp with rfl | hp
   ·exact hb
   ·exact h.2.1 p hp
  ·exact ih h2 (step_sub (fun id hid=>(h.2.2.2.1 id hid).2) h3) hQ
 | @gskip o l σ σ' tes j b t g hd hg hj hgb hb ht ih =>
  intro i hi φ I a w hR hQ
  obtain ⟨h1,h2⟩:=stepOp hi
  rw [List.length_cons,List.range'_succ,wpOps_cons]
  refine wpOp_te h1 (e:=⟨false,skipRec o t g⟩) ⟨hd,rfl,(fun h=>by cases h),fun _=>⟨rfl,rfl,rfl,_,_,_,_,hg,hj,hgb,by simp [skipRec]⟩⟩ hR ⟨?_,by simp [skipRec],by simp [skipRec]⟩ fun φ' I' a' w' h3=>?_
  ·intro p hp
   simp [skipRec] at hp
   subst hp
   exact hb
  ·exact ih h2 (step_sub (by simp [skipRec]) h3) hQ
 | setb hb ht ih =>
  intro i hi φ I a w hR hQ
  exact ih hi (by rw [setB_toF hb]; exact hR) hQ
end Go.Ev
