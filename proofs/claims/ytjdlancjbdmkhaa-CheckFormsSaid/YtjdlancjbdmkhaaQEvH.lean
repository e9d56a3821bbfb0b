/- A checked evaluator, part H: a region that draws its order: whatever it draws, it comes to what the text's order comes to. -/
import Derived.Test.YtjdlancjbdmkhaaQEvG
namespace Go.Ev
open Go.RowKit
set_option linter.unusedVariables false
def fo {β:Type} (w:Nat→Nat→Option β) (Y:Nat→Bool) (base:Nat→β):Nat→Nat→β
 | 0,x=>base x
 | n + 1,x=>if Y n then (w n x).getD (fo w Y base n x) else fo w Y base n x
section
variable {β:Type} {w:Nat→Nat→Option β} {Y Y':Nat→Bool} {base:Nat→β}
theorem fo_eq {x:Nat}:∀ {n:Nat},(∀ j,j < n→(w j x).isSome=true→Y j=Y' j)→fo w Y base n x=fo w Y' base n x
 | 0,_=>rfl
 | n + 1,h=>by
  have ih:=fo_eq (n:=n) fun j hj=>h j (by omega)
  simp only [fo]
  cases hw:w n x with
  | none=>simp [ih]
  | some v=>rw [h n (by omega) (by simp [hw])]; simp [ih]
theorem fo_none {x:Nat}:∀ {n:Nat},(∀ j,j < n→Y j=true→w j x=none)→fo w Y base n x=base x
 | 0,_=>rfl
 | n + 1,h=>by
  have ih:=fo_none (n:=n) fun j hj=>h j (by omega)
  simp only [fo]
  split
  ·rename_i hy
   rw [h n (by omega) hy]
   exact ih
  ·exact ih
theorem fo_last {x i:Nat} {v:β}:∀ {n:Nat},i < n→Y i=true→w i x=some v→(∀ j,i < j→j < n→Y j=true→w j x=none)→fo w Y base n x=v
 | 0,h,_,_,_=>by omega
 | n + 1,h,hy,hw,hl=>by
  simp only [fo]
  by_cases e:i=n
  ·subst e
   simp [hy,hw]
  ·have ih:=fo_last (n:=n) (by omega) hy hw fun j h1 h2=>hl j h1 (by omega)
   split
   ·rename_i hyn
    rw [hl n (by omega) (by omega) hyn]
    exact ih
   ·exact ih
theorem fo_cons:∀ {x n:Nat},fo w Y base (n + 1) x=fo (fun j=>w (j + 1)) (fun j=>Y (j + 1)) (fun x=>if Y 0 then (w 0 x).getD (base x) else base x) n x
 | x,0=>rfl
 | x,n + 1=>by
  have ih:=fo_cons (x:=x) (n:=n)
  rw [fo,ih]
  rfl
end
def wE (tes:List TE) (j t:Nat):Option (Option AV) :=
 match tes[j]? with
 | some e=>if e.r.dst=some t then some e.r.val else none
 | none=>none
def wH (tes:List TE) (j id:Nat):Option (Option HV) :=
 match tes[j]? with
 | some e=>e.r.wr.lookup id
 | none=>none
structure Told (P:Program) (N:Nat) (ops l:List Oper) (σ:LS) (tes:List TE) (σ':LS):Prop where
 len:tes.length=l.length
 ok:∀ (i:Nat) (o:Oper) (e:TE),l[i]?=some o→tes[i]?=some e→TEok P N ops o e
 temps:∀ (i:Nat) (e:TE),tes[i]?=some e→∀ p ∈ e.r.temps,fo (wE tes) (fun j=>decide (j < i)) σ.get tes.length p.1=some p.2
 hp:∀ (i:Nat) (e:TE),tes[i]?=some e→∀ p ∈ e.r.hp,fo (wH tes) (fun j=>decide (j < i)) σ.at tes.length p.1=p.2
 new:∀ (i:Nat) (e:TE),tes[i]?=some e→∀ id ∈ e.r.new,σ.next + 16 * i ≤ id∧id < σ.next + 16 * i + 16
 get:∀ t,σ'.get t=fo (wE tes) (fun _=>true) σ.get tes.length t
 at_:∀ id,σ'.at id=fo (wH tes) (fun _=>true) σ.at tes.length id
 next:σ'.next=σ.next + 16 * tes.length
 pins:σ'.pins=σ.pins
theorem Told.cons {P:Program} {N:Nat} {ops l:List Oper} {o:Oper} {σ σ':LS} {tes:List TE} {e:TE} (he:TEok P N ops o e) (h1:∀ p ∈ e.r.temps,σ.get p.1=some p.2) (h2:∀ p ∈ e.r.hp,σ.at p.1=p.2) (h3:∀ id ∈ e.r.new,σ.next ≤ id∧id < σ.next + 16)
  (h:Told P N ops l (σ.step e.r) tes σ'):Told P N ops (o :: l) σ (e :: tes) σ':=by
 have bE:(fun x=>if true=true then (wE (e :: tes) 0 x).getD (σ.get x) else σ.get x)=(σ.step e.r).get:=by
  funext t
  rw [step_get]
  simp only [wE,List.getElem?_cons_zero,if_true]
  split <;> rfl
 have bH:(fun x=>if true=true then (wH (e :: tes) 0 x).getD (σ.at x) else σ.at x)=(σ.step e.r).at:=by
  funext t
  rw [step_at]
  simp only [wH,List.getElem?_cons_zero,if_true]
  cases e.r.wr.lookup t <;> rfl
 have sE:(fun j=>wE (e :: tes) (j + 1))=wE tes:=by funext j t; simp [wE]
 have sH:(fun j=>wH (e :: tes) (j + 1))=wH tes:=by funext j t; simp [wH]
 have sY:∀ i:Nat,(fun j:Nat=>decide (j + 1 < i + 1))=fun j=>decide (j < i):=fun i=>by funext j; simp
 refine ⟨by simp [h.len],?_,?_,?_,?_,?_,?_,?_,?_⟩
 ·intro i o' e' ho he'
  cases i with
  | zero=>simp at ho he'; subst ho he'; exact he
  | succ i=>exact h.ok i o' e' (by simpa using ho) (by simpa using he')
 ·intro i e' he' p hp
  cases i with
  | zero =>
   simp at he'; subst he'
   rw [fo_none (fun j _ hj=>by simp at hj)]
   exact h1 p hp
  | succ i =>
   rw [List.length_cons,fo_cons]
   have:=h.temps i e' (by simpa using he') p hp
   rw [sE,sY]
   have b2:=bE
   simp only [if_true] at b2
   simp only [Nat.zero_lt_succ,decide_true,if_true]
   rw [b2]
   exact this
 ·intro i e' he' p hp
  cases i with
  | zero =>
   simp at he'; subst he'
   rw [fo_none (fun j _ hj=>by simp at hj)]
   exact h2 p hp
  | succ i =>
   rw [List.length_cons,fo_cons]
   have:=h.hp i e' (by simpa using he') p hp
   rw [sH,sY]
   have b2:=bH
   simp only [if_true] at b2
   simp only [Nat.zero_lt_succ,decide_true,if_true]
   rw [b2]
   exact this
 ·intro i e' he' id hid
  cases i with
  | zero=>simp at he'; subst he'; simpa using h3 id hid
  | succ i =>
   have:=h.new i e' (by simpa using he') id hid
   have hn:(σ.step e.r).next=σ.next + 16:=rfl
   rw [hn] at this
   omega
 ·intro t
  rw [List.length_cons,fo_cons,sE,bE]
  exact h.get t
 ·intro t
  rw [List.length_cons,fo_cons,sH,bH]
  exact h.at_ t
 ·have hn:(σ.step e.r).next=σ.next + 16:=rfl
  rw [h.next,hn,List.length_cons]
  omega
 ·exact h.pins
theorem Tr.told {P:Program} {N:Nat} {ops l:List Oper} {σ σ':LS} {tes:List TE} (h:Tr P N ops l σ tes σ'):Told P N ops l σ tes σ':=by
 induction h with
 | nil σ=>exact ⟨rfl,by simp,by simp,by simp,by simp,fun _=>rfl,fun _=>rfl,rfl,rfl⟩
 | perf hd hg h ht ih=>exact ih.cons (e:=⟨true,_⟩) ⟨hd,h.1,fun _=>⟨h.2.2.2.2,.inl hg⟩,fun h=>by cases h⟩ h.2.1 h.2.2.1 h.2.2.2.1
 | @gperf o l σ σ' r tes j b t hd hg hj hb h ht ih =>
  refine ih.cons (e:=⟨true,r.gd t b⟩) ⟨hd,h.1,fun _=>⟨h.2.2.2.2.gd,.inr ⟨_,_,_,hg,hj,List.mem_cons_self⟩⟩,fun h=>by cases h⟩ ?_ h.2.2.1 h.2.2.2.1
  intro p hp
  rcases List.mem_cons.1 hp with rfl | hp
  ·exact hb
  ·exact h.2.1 p hp
 | @gskip o l σ σ' tes j b t g hd hg hj hgb hb ht ih =>
  refine ih.cons (e:=⟨false,skipRec o t g⟩) ⟨hd,rfl,(fun h=>by cases h),fun _=>⟨rfl,rfl,rfl,_,_,_,_,hg,hj,hgb,by simp [skipRec]⟩⟩ ?_ (by simp [skipRec]) (by simp [skipRec])
  intro p hp
  simp [skipRec] at hp
  subst hp
  exact hb
 | @setb l σ σ' tes t b hb ht ih =>
  have e1:(σ.setB t b).get=σ.get:=congrArg FS.env (setB_toF hb)
  have e2:(σ.setB t b).at=σ.at:=congrArg FS.heap (setB_toF hb)
  have e3:(σ.setB t b).next=σ.next:=rfl
  obtain ⟨h1,h2,h3,h4,h5,h6,h7,h8,h9⟩:=ih
  rw [e1] at h3 h6
  rw [e2] at h4 h7
  rw [e3] at h5 h8
  exact ⟨h1,h2,h3,h4,h5,h6,h7,h8,h9⟩
def maskOf (acc:List Nat) (o:Oper):Nat:=o.after.toList.foldl (fun s e=>if Region.binds .any e then s ||| 2 ^ e.on ||| acc.getD e.on 0 else s) 0
def masks:List Oper→List Nat→List Nat
 | [],acc=>acc
 | o :: l,acc=>masks l (acc ++ [maskOf acc o])
def edgesOk:List Oper→Nat→Bool
 | [],_=>true
 | o :: l,i=>o.after.toList.all (fun e=>!(Region.binds .any e) || decide (e.on < i)) && edgesOk l (i + 1)
def hit (l:List (Nat×Option HV)) (id:Nat):Bool:=l.any fun p=>p.1 == id
def conf (r s:Rec):Bool :=
 (match r.dst with
  | some d=>s.temps.any (fun p=>p.1 == d) || s.dst == some d
  | none=>false) ||
 ((match s.dst with
  | some d=>r.temps.any (fun p=>p.1 == d)
  | none=>false) ||
 (r.wr.any (fun p=>hit s.wr p.1 || hit s.hp p.1) || s.wr.any fun p=>hit r.hp p.1))
def chk:List (Nat×Rec)→List TE→List Nat→Nat→Bool
 | prev,e :: l,m :: ms,i=>prev.all (fun p=>!(conf p.2 e.r) || m.testBit p.1) && chk ((i,e.r) :: prev) l ms (i + 1)
 | _,_,_,_=>true
def drawOk (ops:List Oper) (tes:List TE):Bool:=edgesOk ops 0 && chk [] tes (masks ops []) 0
theorem foldl_bit {acc:List Nat} {i:Nat}:∀ (l:List Edge) (s:Nat),(l.foldl (fun s e=>if Region.binds .any e then s ||| 2 ^ e.on ||| acc.getD e.on 0 else s) s).testBit i=true →
  s.testBit i=true ∨ ∃ e ∈ l,Region.binds .any e=true∧(e.on=i ∨ (acc.getD e.on 0).testBit i=true)
 | [],s,h=>.inl h
 | e :: l,s,h=>by
  simp only [List.foldl_cons] at h
  rcases foldl_bit l _ h with h1 | ⟨e',h1,h2⟩
  ·split at h1
   ·rename_i hb
    simp only [Nat.testBit_or,Bool.or_eq_true] at h1
    rcases h1 with (h1 | h1) | h1
    ·exact .inl h1
    ·refine .inr ⟨e,List.mem_cons_self,hb,.inl ?_⟩
     rw [Nat.testBit_two_pow] at h1
     simpa using h1
    ·exact .inr ⟨e,List.mem_cons_self,hb,.inr h1⟩
   ·exact .inl h1
  ·exact .inr ⟨e',List.mem_cons_of_mem _ h1,h2⟩
theorem masks_get:∀ (l:List Oper) (acc:List Nat),(∀ j,j < acc.length→(masks l acc)[j]?=acc[j]?)∧(masks l acc).length=acc.length + l.length ∧
  ∀ (j:Nat) (o:Oper),l[j]?=some o→∃ acc',(∀ i,i < acc.length + j→acc'[i]?=(masks l acc)[i]?)∧acc'.length=acc.length + j∧(masks l acc)[acc.length + j]?=some (maskOf acc' o)
 | [],acc=>⟨fun _ _=>rfl,rfl,by simp⟩
 | o :: l,acc=>by
  obtain ⟨h1,h2,h3⟩:=masks_get l (acc ++ [maskOf acc o])
  have pre:∀ j,j < acc.length→(masks (o :: l) acc)[j]?=acc[j]?:=fun j hj=>by
   rw [masks,h1 j (by simp; omega),List.getElem?_append_left hj]
  refine ⟨pre,by rw [masks,h2]; simp; omega,fun j o' ho=>?_⟩
  cases j with
  | zero =>
   simp at ho; subst ho
   refine ⟨acc,fun i hi=>(pre i (by omega)).symm,by simp,?_⟩
   rw [masks,h1 (acc.length + 0) (by simp)]
   simp
  | succ j =>
   obtain ⟨acc',h4,h5,h6⟩:=h3 j o' (by simpa using ho)
   simp only [List.length_append,List.length_singleton] at h4 h5 h6
   refine ⟨acc',fun i hi=>?_,by omega,?_⟩
   ·rw [masks]; exact h4 i (by omega)
   ·rw [masks,show acc.length + (j + 1)=acc.length + 1 + j by omega]; exact h6
def Closed (ops:List Oper) (X:Nat→Bool):Prop:=∀ (j:Nat) (o:Oper),ops[j]?=some o→X j=true→∀ e ∈ o.after.toList,Region.binds .any e=true→X e.on=true
theorem mask_in {ops:List Oper} {X:Nat→Bool} (hX:Closed ops X) {i:Nat}:∀ (j:Nat) (o:Oper),ops[j]?=some o→(∀ e ∈ o.after.toList,Region.binds .any e=true→X e.on=true)→∀ m,(masks ops [])[j]?=some m→m.testBit i=true→X i=true:=by
 intro j
 induction j using Nat.strongRecOn with
 | _ j ih =>
  intro o ho he m hm hb
  obtain ⟨_,_,h3⟩:=masks_get ops []
  obtain ⟨acc',h4,h5,h6⟩:=h3 j o ho
  simp only [List.length_nil,Nat.zero_add] at h4 h5 h6
  rw [hm] at h6
  cases h6
  rcases foldl_bit _ _ hb with h7 | ⟨e,h7,h8,h9⟩
  ·simp at h7
  ·rcases h9 with h9 | h9
   ·rw [← h9]; exact he e h7 h8
   ·have hlt:e.on < j:=by
     rcases Nat.lt_or_ge e.on acc'.length with h | h
     ·omega
     ·rw [List.getD_eq_getElem?_getD,List.getElem?_eq_none h] at h9; simp at h9
    have hX2:=he e h7 h8
    have hol:e.on < ops.length:=Nat.lt_trans hlt (by
     rcases Nat.lt_or_ge j ops.length with h | h
     ·exact h
     ·rw [List.getElem?_eq_none h] at ho; cases ho)
    have ho2:=List.getElem?_eq_getElem hol
    rw [List.getD_eq_getElem?_getD,h4 e.on hlt] at h9
    cases hm2:(masks ops [])[e.on]? with
    | none=>rw [hm2] at h9; simp at h9
    | some m2 =>
     rw [hm2] at h9
     exact ih e.on hlt _ ho2 (fun e' h10 h11=>hX e.on _ ho2 hX2 e' h10 h11) m2 hm2 h9
theorem chk_ok:∀ (l:List TE) (ms:List Nat) (prev:List (Nat×Rec)) (i:Nat),chk prev l ms i=true→ms.length=l.length →
  (∀ (j:Nat) (e:TE) (m:Nat),l[j]?=some e→ms[j]?=some m→(∀ p ∈ prev,conf p.2 e.r=true→m.testBit p.1=true)∧∀ (j':Nat) (e':TE),j' < j→l[j']?=some e'→conf e'.r e.r=true→m.testBit (i + j')=true)
 | [],ms,prev,i,_,_=>by simp
 | e0 :: l,[],prev,i,_,hl=>by simp at hl
 | e0 :: l,m0 :: ms,prev,i,h,hl=>by
  simp only [chk,Bool.and_eq_true,List.all_eq_true] at h
  obtain ⟨h1,h2⟩:=h
  have ih:=chk_ok l ms _ _ h2 (by simpa using hl)
  intro j e m he hm
  cases j with
  | zero =>
   simp at he hm
   subst he hm
   refine ⟨fun p hp hc=>?_,fun j' e' h=>by omega⟩
   have:=h1 p hp
   rw [hc] at this
   simpa using this
  | succ j =>
   obtain ⟨h3,h4⟩:=ih j e m (by simpa using he) (by simpa using hm)
   refine ⟨fun p hp=>h3 p (List.mem_cons_of_mem _ hp),fun j' e' hj' he' hc=>?_⟩
   cases j' with
   | zero =>
    simp at he'; subst he'
    exact h3 (i,e0.r) List.mem_cons_self hc
   | succ j' =>
    have:=h4 j' e' (by omega) (by simpa using he') hc
    rwa [show i + 1 + j'=i + (j' + 1) by omega] at this
theorem edgesOk_ok:∀ (l:List Oper) (i:Nat),edgesOk l i=true→∀ (j:Nat) (o:Oper),l[j]?=some o→∀ e ∈ o.after.toList,Region.binds .any e=true→e.on < i + j
 | [],i,_=>by simp
 | o0 :: l,i,h=>by
  simp only [edgesOk,Bool.and_eq_true,List.all_eq_true] at h
  intro j o ho e he hb
  cases j with
  | zero =>
   simp at ho; subst ho
   have:=h.1 e he
   rw [hb] at this
   simpa using this
  | succ j =>
   have:=edgesOk_ok l _ h.2 j o (by simpa using ho) e he hb
   omega
def SX (σ:LS) (tes:List TE) (X:Nat→Bool):FS where
 env:=fo (wE tes) X σ.get tes.length
 heap:=fo (wH tes) X σ.at tes.length
 fresh:=fun id=>σ.next ≤ id∧∀ (j:Nat) (e:TE),tes[j]?=some e→X j=true→id ∉ e.r.new
 pin:=σ.pins
theorem lookup_hit {l:List (Nat×Option HV)} {id:Nat} {x:Option HV} (h:l.lookup id=some x):hit l id=true:=by
 induction l with
 | nil=>cases h
 | cons p l ih =>
  obtain ⟨j,y⟩:=p
  simp only [List.lookup] at h
  cases e:id == j with
  | true=>simp only [hit,List.any_cons,Bool.or_eq_true]; left; simpa using (by simpa using e:id=j).symm
  | false =>
   rw [e] at h
   simp only [hit,List.any_cons,Bool.or_eq_true]
   right
   exact ih h
theorem hit_mem {l:List (Nat×Option HV)} {p:Nat×Option HV} (h:p ∈ l):hit l p.1=true:=List.any_eq_true.2 ⟨p,h,by simp⟩
theorem lookup_mem {l:List (Nat×Option HV)} {id:Nat} {x:Option HV} (h:l.lookup id=some x):∃ p ∈ l,p.1=id:=by
 have:=lookup_hit h
 obtain ⟨p,hp,e⟩:=List.any_eq_true.1 this
 exact ⟨p,hp,by simpa using e⟩
theorem conf_dst_temp {r s:Rec} {d:Nat} {p:Tmp×AV} (h1:r.dst=some d) (h2:p ∈ s.temps) (h3:p.1=d):conf r s=true:=by
 unfold conf
 rw [h1]
 simp only [Bool.or_eq_true,List.any_eq_true]
 exact .inl (.inl ⟨p,h2,by simp [h3]⟩)
theorem conf_dst_dst {r s:Rec} {d:Nat} (h1:r.dst=some d) (h2:s.dst=some d):conf r s=true:=by
 unfold conf
 rw [h1,h2]
 simp
theorem conf_temp_dst {r s:Rec} {d:Nat} {p:Tmp×AV} (h1:s.dst=some d) (h2:p ∈ r.temps) (h3:p.1=d):conf r s=true:=by
 unfold conf
 rw [h1]
 simp only [Bool.or_eq_true,List.any_eq_true]
 exact .inr (.inl ⟨p,h2,by simp [h3]⟩)
theorem conf_wr_wr {r s:Rec} {id:Nat} {x y:Option HV} (h1:r.wr.lookup id=some x) (h2:s.wr.lookup id=some y):conf r s=true:=by
 unfold conf
 obtain ⟨p,hp,e⟩:=lookup_mem h1
 simp only [Bool.or_eq_true,List.any_eq_true]
 exact .inr (.inr (.inl ⟨p,hp,.inl (by rw [e]; exact lookup_hit h2)⟩))
theorem conf_wr_hp {r s:Rec} {p:Nat×Option HV} {x:Option HV} (h1:r.wr.lookup p.1=some x) (h2:p ∈ s.hp):conf r s=true:=by
 unfold conf
 obtain ⟨q,hq,e⟩:=lookup_mem h1
 simp only [Bool.or_eq_true,List.any_eq_true]
 exact .inr (.inr (.inl ⟨q,hq,.inr (by rw [e]; exact hit_mem h2)⟩))
theorem conf_hp_wr {r s:Rec} {p:Nat×Option HV} {x:Option HV} (h1:s.wr.lookup p.1=some x) (h2:p ∈ r.hp):conf r s=true:=by
 unfold conf
 obtain ⟨q,hq,e⟩:=lookup_mem h1
 simp only [Bool.or_eq_true,List.any_eq_true]
 exact .inr (.inr (.inr ⟨q,hq,by rw [e]; exact hit_mem h2⟩))
section
variable {P:Program} {N:Nat} {ops:List Oper} {σ σ':LS} {tes:List TE}
theorem conf_in (hd:drawOk ops tes=true) (hl:tes.length=ops.length) {X:Nat→Bool} (hX:Closed ops X) {i j:Nat} {e e':TE} {o:Oper} (hij:i < j) (hi:tes[i]?=some e) (hj:tes[j]?=some e') (ho:ops[j]?=some o) (hc:conf e.r e'.r=true)
  (he:∀ x ∈ o.after.toList,Region.binds .any x=true→X x.on=true):X i=true:=by
 simp only [drawOk,Bool.and_eq_true] at hd
 obtain ⟨h1,h2,_⟩:=masks_get ops []
 simp only [List.length_nil,Nat.zero_add] at h2
 have hjl:j < (masks ops []).length:=by
  rw [h2]
  rcases Nat.lt_or_ge j ops.length with h | h
  ·exact h
  ·rw [List.getElem?_eq_none h] at ho; cases ho
 have hm:=List.getElem?_eq_getElem hjl
 have:=(chk_ok tes (masks ops []) [] 0 hd.2 (by rw [h2,hl]) j e' _ hj hm).2 i e hij hi hc
 rw [Nat.zero_add] at this
 exact mask_in hX j o ho he _ hm this
theorem valid_X (ht:Told P N ops ops σ tes σ') (hd:drawOk ops tes=true) {X:Nat→Bool} (hX:Closed ops X) {i:Nat} {e:TE} {o:Oper} (hi:tes[i]?=some e) (ho:ops[i]?=some o) (hn:X i=false)
  (he:∀ x ∈ o.after.toList,Region.binds .any x=true→X x.on=true):e.r.valid (SX σ tes X):=by
 have later:∀ (j:Nat) (e':TE),tes[j]?=some e'→i < j→conf e.r e'.r=true→X j=false:=by
  intro j e' hj hij hc
  cases hXj:X j with
  | false=>rfl
  | true =>
   have hjl:j < ops.length:=by
    rw [← ht.len]
    rcases Nat.lt_or_ge j tes.length with h | h
    ·exact h
    ·rw [List.getElem?_eq_none h] at hj; cases hj
   have ho':=List.getElem?_eq_getElem hjl
   have:=conf_in hd ht.len hX hij hi hj ho' hc (hX j _ ho' hXj)
   rw [hn] at this; cases this
 have sooner:∀ (j:Nat) (e':TE),tes[j]?=some e'→j < i→conf e'.r e.r=true→X j=true:=fun j e' hj hij hc=>conf_in hd ht.len hX hij hj hi ho hc he
 refine ⟨fun p hp=>?_,fun p hp=>?_,fun id hid=>?_⟩
 ·rw [← ht.temps i e hi p hp]
  refine fo_eq fun j hj hw=>?_
  simp only [wE] at hw
  split at hw
  case h_2=>simp at hw
  case h_1 e' hj' =>
  split at hw
  case isFalse=>simp at hw
  case isTrue hdst =>
  rcases Nat.lt_trichotomy j i with h | h | h
  ·rw [sooner j e' hj' h (conf_dst_temp hdst hp rfl)]; simp [h]
  ·subst h; rw [hn]; simp
  ·rw [later j e' hj' h (conf_temp_dst hdst hp rfl)]
   have:¬ j < i:=by omega
   simp [this]
 ·rw [← ht.hp i e hi p hp]
  refine fo_eq fun j hj hw=>?_
  simp only [wH] at hw
  split at hw
  case h_2=>simp at hw
  case h_1 e' hj' =>
  obtain ⟨x,hx⟩:=Option.isSome_iff_exists.1 hw
  rcases Nat.lt_trichotomy j i with h | h | h
  ·rw [sooner j e' hj' h (conf_wr_hp hx hp)]; simp [h]
  ·subst h; rw [hn]; simp
  ·rw [later j e' hj' h (conf_hp_wr hx hp)]
   have:¬ j < i:=by omega
   simp [this]
 ·have h1:=ht.new i e hi id hid
  refine ⟨show σ.next ≤ id by omega,fun j e' hj hXj hm=>?_⟩
  have h2:=ht.new j e' hj id hm
  have:j=i:=by omega
  subst this
  rw [hn] at hXj; cases hXj
theorem apply_X (ht:Told P N ops ops σ tes σ') (hd:drawOk ops tes=true) {X X':Nat→Bool} (hX:Closed ops X) {i:Nat} {e:TE} (hi:tes[i]?=some e) (hn:X i=false) (hX':∀ j,X' j=(X j || j == i))
  {fr:Fr} {φ:Nat→Option Value} {I:Nat→Prop} {a:Act} {w:World} (h:R fr (e.r.apply (SX σ tes X)) φ I a w):R fr (SX σ tes X') φ I a w:=by
 have hil:i < tes.length:=by
  rcases Nat.lt_or_ge i tes.length with h | h
  ·exact h
  ·rw [List.getElem?_eq_none h] at hi; cases hi
 have hXi:X' i=true:=by rw [hX']; simp
 have later:∀ (j:Nat) (e':TE),tes[j]?=some e'→i < j→X' j=true→conf e.r e'.r=true→False:=by
  intro j e' hj hij hXj hc
  rw [hX'] at hXj
  have hXj:X j=true:=by
   have:(j == i)=false:=by simp; omega
   simpa [this] using hXj
  have hjl:j < ops.length:=by
   rw [← ht.len]
   rcases Nat.lt_or_ge j tes.length with h | h
   ·exact h
   ·rw [List.getElem?_eq_none h] at hj; cases hj
  have ho':=List.getElem?_eq_getElem hjl
  have:=conf_in hd ht.len hX hij hi hj ho' hc (hX j _ ho' hXj)
  rw [hn] at this; cases this
 refine h.sub (fun t av he=>?_) (fun id hv he=>?_) fun id he=>?_
 ·have he:fo (wE tes) X' σ.get tes.length t=some av:=he
  show (if e.r.dst=some t then e.r.val else fo (wE tes) X σ.get tes.length t)=some av
  by_cases hdt:e.r.dst=some t
  ·rw [if_pos hdt,← he]
   refine (fo_last hil hXi (by simp [wE,hi,hdt]) fun j hj hjl hXj=>?_).symm
   simp only [wE]
   split
   ·rename_i e' hj'
    split
    ·rename_i hdt'
     exact (later j e' hj' hj hXj (conf_dst_dst hdt hdt')).elim
    ·rfl
   ·rfl
  ·rw [if_neg hdt,← he]
   refine fo_eq fun j hj hw=>?_
   rw [hX']
   have:j ≠ i:=by
    rintro rfl
    simp [wE,hi,hdt] at hw
   simp [this]
 ·have he:fo (wH tes) X' σ.at tes.length id=some hv:=he
  show (match e.r.wr.lookup id with
   | some h=>h
   | none=>fo (wH tes) X σ.at tes.length id)=some hv
  cases hl:e.r.wr.lookup id with
  | some x =>
   show x=some hv
   rw [← he]
   refine (fo_last hil hXi (by simp [wH,hi,hl]) fun j hj hjl hXj=>?_).symm
   simp only [wH]
   split
   ·rename_i e' hj'
    cases hl':e'.r.wr.lookup id with
    | none=>rfl
    | some y=>exact (later j e' hj' hj hXj (conf_wr_wr hl hl')).elim
   ·rfl
  | none =>
   show fo (wH tes) X σ.at tes.length id=some hv
   rw [← he]
   refine fo_eq fun j hj hw=>?_
   rw [hX']
   have:j ≠ i:=by
    rintro rfl
    simp [wH,hi,hl] at hw
   simp [this]
 ·obtain ⟨h1,h2⟩:=he
  refine ⟨⟨h1,fun j e' hj hXj=>h2 j e' hj (by rw [hX',hXj]; rfl)⟩,h2 i e hi hXi⟩
theorem getD_lt {l:Array Bool} {i:Nat} (h:i < l.size) (d d':Bool):l.getD i d=l.getD i d':=by
 simp [Array.getD,h]
theorem Tr.any {P:Program} {fr:Fr} {ops:Array Oper} {Q:Exit→Act→World→Prop} {σ σ':LS} {tes:List TE} (tr:Tr P fr.N ops.toList ops.toList σ tes σ') (hd:drawOk ops.toList tes=true)
  (hQ:∀ φ' I' a' w',R fr σ'.toF φ' I' a' w'→Q .normal a' w'):∀ (fuel:Nat) (listed:Array Bool) (φ:Nat→Option Value) (I:Nat→Prop) (a:Act) (w:World),listed.size=ops.size→listed.toList.countP (fun b=>!b) ≤ fuel →
   Closed ops.toList (fun j=>listed.getD j false)→R fr (SX σ tes fun j=>listed.getD j false) φ I a w→wpAny P .any ops Q fuel listed a w:=by
 have ht:=tr.told
 have hlen:tes.length=ops.size:=by rw [ht.len]; simp
 have hedge:edgesOk ops.toList 0=true:=by simp only [drawOk,Bool.and_eq_true] at hd; exact hd.1
 have done:∀ (listed:Array Bool) (φ:Nat→Option Value) (I:Nat→Prop) (a:Act) (w:World),(∀ j,j < ops.size→listed.getD j false=true)→R fr (SX σ tes fun j=>listed.getD j false) φ I a w→Q .normal a w:=by
  intro listed φ I a w hall hR
  refine hQ φ I a w (hR.sub (fun t av he=>?_) (fun id hv he=>?_) (fun id he=>?_) ht.pins)
  ·have he:σ'.get t=some av:=he
   rw [← he,ht.get]
   exact fo_eq fun j hj _=>hall j (by omega)
  ·have he:σ'.at id=some hv:=he
   rw [← he,ht.at_]
   exact fo_eq fun j hj _=>hall j (by omega)
  ·have he:σ'.next ≤ id:=he
   rw [ht.next] at he
   refine ⟨show σ.next ≤ id by omega,fun j e hj _ hm=>?_⟩
   have h1:=ht.new j e hj id hm
   have hjl:j < tes.length:=by
    rcases Nat.lt_or_ge j tes.length with h | h
    ·exact h
    ·rw [List.getElem?_eq_none h] at hj; cases hj
   omega
 have allIn:∀ (listed:Array Bool),listed.size=ops.size→Region.ready .any ops listed=[]→∀ j,j < ops.size→listed.getD j false=true:=by
  intro listed hs hr j
  induction j using Nat.strongRecOn with
  | _ j ih =>
   intro hj
   cases hl:listed.getD j false with
   | true=>rfl
   | false =>
    have:j ∈ Region.ready .any ops listed:=by
     unfold Region.ready
     rw [List.mem_filter]
     refine ⟨by simpa using hj,?_⟩
     rw [getD_lt (by omega) true false,hl]
     have ho:=Array.getElem?_eq_getElem hj
     rw [ho]
     simp only [Bool.not_false,Bool.true_and,Option.map_some,Option.getD_some]
     rw [← Array.all_toList,List.all_eq_true]
     intro e he
     cases hb:Region.binds .any e with
     | false=>rfl
     | true =>
      have:=edgesOk_ok ops.toList 0 hedge j ops[j] (by simp) e he hb
      rw [Nat.zero_add] at this
      simp [ih e.on this (by omega)]
    rw [hr] at this
    cases this
 intro fuel
 induction fuel with
 | zero =>
  intro listed φ I a w hs hc hX hR
  have hall:∀ j,j < ops.size→listed.getD j false=true:=by
   intro j hj
   have h0:listed.toList.countP (fun b=>!b)=0:=by omega
   rw [List.countP_eq_zero] at h0
   have:=h0 listed[j] (by simp)
   simp only [Bool.not_eq_true',Bool.not_eq_false] at this
   simp [Array.getD,hs,hj,this]
  refine ⟨?_,done listed φ I a w hall hR⟩
  unfold Region.ready
  rw [List.filter_eq_nil_iff]
  intro i hi
  have hi':i < ops.size:=List.mem_range.1 hi
  rw [getD_lt (by omega) true false,hall i hi']
  simp
 | succ fuel ih =>
  intro listed φ I a w hs hc hX hR
  refine ⟨fun hr=>done listed φ I a w (allIn listed hs hr) hR,fun i hi=>?_⟩
  unfold Region.ready at hi
  rw [List.mem_filter] at hi
  obtain ⟨hi1,hi2⟩:=hi
  have hil:i < ops.size:=List.mem_range.1 hi1
  have ho:=Array.getElem?_eq_getElem hil
  rw [getD_lt (by omega) true false,ho] at hi2
  simp only [Option.map_some,Option.getD_some,Bool.and_eq_true,Bool.not_eq_true'] at hi2
  obtain ⟨hn,hedges⟩:=hi2
  rw [← Array.all_toList,List.all_eq_true] at hedges
  have he:∀ x ∈ ops[i].after.toList,Region.binds .any x=true→listed.getD x.on false=true:=by
   intro x hx hb
   have:=hedges x hx
   rw [hb] at this
   simpa using this
  have hoL:ops.toList[i]?=some ops[i]:=by simp
  have hit:i < tes.length:=by omega
  have htes:=List.getElem?_eq_getElem hit
  refine wpOp_te ho (ht.ok i _ _ hoL htes) hR (valid_X ht hd hX htes hoL hn he) fun φ' I' a' w' h3=>?_
  have hsz:(listed.setIfInBounds i true).size=ops.size:=by simp [hs]
  have hXX:∀ j,(listed.setIfInBounds i true).getD j false=(listed.getD j false || j == i):=by
   intro j
   simp only [Array.getD_eq_getD_getElem?,Array.getElem?_setIfInBounds]
   by_cases e:i=j
   ·subst e
    simp [hs,hil]
   ·have:(j == i)=false:=by simp; omega
    simp [e,this]
  refine ih _ φ' I' a' w' hsz ?_ ?_ (apply_X ht hd hX htes hn hXX h3)
  ·have hil2:i < listed.toList.length:=by simp [hs,hil]
   rw [Array.toList_setIfInBounds,List.countP_set hil2]
   have hli:listed.toList[i]=false:=by
    have:=hn
    simp only [Array.getD,hs,hil,dite_true] at this
    simpa using this
   have hpos:0 < listed.toList.countP (fun b=>!b):=by
    rw [List.countP_pos_iff]
    exact ⟨listed.toList[i],List.getElem_mem hil2,by rw [hli]; rfl⟩
   simp only [hli,Bool.not_false,Bool.not_true,if_true,Bool.false_eq_true,if_false]
   omega
  ·intro j o hoj hj x hx hb
   simp only [hXX] at hj ⊢
   rcases Bool.or_eq_true _ _ ▸ hj with h | h
   ·rw [show listed.getD x.on false=true from hX j o hoj h x hx hb]; rfl
   ·have:j=i:=by simpa using h
    subst this
    rw [hoL] at hoj
    cases hoj
    rw [he x hx hb]; rfl
end
end Go.Ev
