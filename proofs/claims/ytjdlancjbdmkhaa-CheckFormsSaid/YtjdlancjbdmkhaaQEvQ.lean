/- A checked evaluator, part Q: a contract in two parts, for a slice without elements and for one with. -/
import Derived.Test.YtjdlancjbdmkhaaQEvK
namespace Go.Ev
open Go.RowKit
set_option linter.unusedVariables false
theorem ConOK.split {P:Program} {f:FuncId} {e:TypeId} {k:Ty} {rs:List (Bool×OK)} {G:DRs rs} {Fn:Nat→D (.seq e k)→Option (DRs rs)}
  (hz:ConOK P f ⟨[.slit],rs,fun _ _=>some G⟩) (hn:ConOK P f ⟨[.val false (.seq e k)],rs,fun n x=>Fn n x.1⟩) :
  ConOK P f ⟨[.val false (.seq e k)],rs,fun n x=>bif List.isEmpty (x.1:List (D k)) then some G else Fn n x.1⟩:=by
 refine ⟨hz.1,fun n x y hy w J I vals B h1 h2 h3 hpre=>?_⟩
 obtain ⟨⟨xs:List (D k)⟩,_⟩:=x
 ·simp only [List.isEmpty_nil,cond_true,Option.some.injEq] at hy
  obtain ⟨v,vs',B1,B2,rfl,rfl,⟨⟨us,⟨a,c,e1,_⟩,hp⟩,rfl⟩,rfl,rfl⟩:=hpre
  rw [show us=[v] from hp] at e1
  simp only [List.cons.injEq,and_true] at e1
  subst hy
  exact hz.2 n ((a,c),()) G rfl w J I [v] [] h1 List.nodup_nil (by simp) ⟨v,[],[],[],rfl,rfl,⟨by simpa using e1,rfl⟩,rfl,rfl⟩
 ·simp only [List.isEmpty_cons,cond_false] at hy
  exact hn.2 n _ y hy w J I vals B h1 h2 h3 hpre
theorem ConOK.cap {P:Program} {f:FuncId} {e:TypeId} {k:Ty} {ps:List PK} {rs:List (Bool×OK)} {F':Nat→DPs (.ownc e k :: ps)→Option (DRO rs (outs ps))} {F:Nat→DPs (.own false (.vec e k) :: ps)→Option (DRO rs (outs ps))}
  (h:ConOK P f ⟨.ownc e k :: ps,rs,F'⟩) (hF:∀ n (xs:List (D k)) (r:DPs ps) y,F n (xs,r)=some y→∃ n',∀ s,F' n' ((bufOf xs s,(xs.length:Int)),r)=some y):ConOK P f ⟨.own false (.vec e k) :: ps,rs,F⟩:=by
 refine ⟨h.1,fun n x y hy w J I vals B h1 h2 h3 hpre=>?_⟩
 obtain ⟨xs,r⟩:=x
 obtain ⟨n',hn⟩:=hF n xs r y hy
 obtain ⟨v,vs',B1,B2,rfl,rfl,⟨us,⟨v',us',e1,e2,hown,hl⟩,hp⟩,hrest⟩:=hpre
 rw [show us=[v] from hp] at e1
 cases e1
 have key:∃ s,PreP J I w (.ownc e k) (bufOf xs s,(xs.length:Int)) v B1:=by
  rcases hown.2 with ⟨rfl,h0⟩ | ⟨g,cap,cur,rfl,_,hg,hn,hm,hcs,htk⟩
  ·have hx:xs=[]:=List.eq_nil_of_length_eq_zero h0
   subst hx
   exact ⟨0,e2,.inl ⟨rfl,rfl⟩,.inl ⟨rfl,rfl⟩⟩
  ·have hn:xs.length ≤ cap:=hn
   have htk:cur.toList.take (xs.length * size k)=us':=htk
   have hl:lst (RdC I w k) xs us':=hl
   have hbl:(bufOf xs (cap - xs.length)).length=cap:=by simp [bufOf]; omega
   refine ⟨cap - xs.length,e2,.inr ⟨g,cur,by rw [hbl]; rfl,hg,by rw [hbl]; exact hm,by rw [hbl]; exact hcs,fun i x hx=>?_⟩,.inr ⟨g,by rw [hbl]; rfl,by omega,by rw [hbl]; omega⟩⟩
   have hi:xs[i]?=some x:=by
    unfold bufOf at hx
    rcases Nat.lt_or_ge i (xs.map some).length with hlt | hge
    ·rw [List.getElem?_append_left hlt,List.getElem?_map] at hx
     obtain ⟨y,h5,h6⟩:=Option.map_eq_some_iff.1 hx
     cases h6; exact h5
    ·rw [List.getElem?_append_right hge,List.getElem?_replicate] at hx
     split at hx <;> simp at hx
   have hin:i < xs.length:=(List.getElem?_eq_some_iff.1 hi).1
   have h8:=of_lst hl i x hi
   have hle:(i + 1) * size k ≤ xs.length * size k:=Nat.mul_le_mul_right _ hin
   rw [Nat.add_mul,Nat.one_mul] at hle
   rw [← htk,List.drop_take,List.take_take,Nat.min_eq_left (by omega)] at h8
   exact h8
 obtain ⟨s,hs⟩:=key
 exact h.2 n' ((bufOf xs s,(xs.length:Int)),r) y (hn s) w J I (v :: vs') (B1 ++ B2) h1 h2 h3 ⟨v,vs',B1,B2,rfl,rfl,hs,hrest⟩
end Go.Ev
