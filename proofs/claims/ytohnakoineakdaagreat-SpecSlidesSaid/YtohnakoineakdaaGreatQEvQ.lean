/- A checked evaluator, part Q: a contract in two parts, for a slice without elements and for one with. -/
import Derived.Test.YtohnakoineakdaaGreatQEvK
namespace Go.Ev
open Go.RowKit
set_option linter.unusedVariables false
theorem ConOK.split {P:Program} {f:FuncId} {e:TypeId} {k:Ty} {rs:List (Bool×OK)} {G:DRs rs} {Fn:Nat→D (.seq e k)→Option (DRs rs)}
  (hz:ConOK P f ⟨[.slit],rs,fun _ _=>some G⟩) (hn:ConOK P f ⟨[.val false (.seq e k)],rs,fun n x=>Fn n x.1⟩) :
  ConOK P f ⟨[.val false (.seq e k)],rs,fun n x=>bif List.isEmpty (x.1:List (D k)) then some G else Fn n x.1⟩:=by
 refine ⟨hz.1,fun n x y hy w J I vals B h1 h2 h3 hpre=>?_⟩
 obtain ⟨⟨xs:List (D k)⟩,_⟩:=x
 ·simp only [List.isEmpty_nil,cond_true,Option.some.injEq] at hy
  obtain ⟨v,vs',B1,B2,rfl,rfl,⟨⟨us,⟨a,c,e1,_⟩,hp⟩,rfl⟩,rfl,rfl⟩:=hpre
  rw [show us=[v] from hp] at e1
  simp only [List.cons.injEq,and_true] at e1
  subst hy
  exact hz.2 n ((a,c),()) G rfl w J I [v] [] h1 List.nodup_nil (by simp) ⟨v,[],[],[],rfl,rfl,⟨by simpa using e1,rfl⟩,rfl,rfl⟩
 ·simp only [List.isEmpty_cons,cond_false] at hy
  exact hn.2 n _ y hy w J I vals B h1 h2 h3 hpre
theorem ConOK.cap {P:Program} {f:FuncId} {e:TypeId} {k:Ty} {ps:List PK} {rs:List (Bool×OK)} {F':Nat→DPs (.ownc e k :: ps)→Option (DRO rs (outs ps))} {F:Nat→DPs (.own false (.vec e k) :: ps)→Option (DRO rs (outs ps))}
  (h:ConOK P f ⟨.ownc e k :: ps,rs,F'⟩) (hF:∀ n (xs:List (D k)) (r:DPs ps) y,F n (xs,r)=some y→∃ n',∀ s,F' n' ((bufOf xs s,(xs.length:Int)),r)=some y):ConOK P f ⟨.own false (.vec e k) :: ps,rs,F⟩:=by
 refine ⟨h.1,fun n x y hy w J I vals B h1 h2 h3 hpre=>?_⟩
 obtain ⟨xs,r⟩:=x
 obtain ⟨n',hn⟩:=hF n xs r y hy
 obtain ⟨v,vs',B1,B2,rfl,rfl,⟨us,⟨v',us',e1,e2,hown,hl⟩,hp⟩,hrest⟩:=hpre
 rw [show us=[v] from hp] at e1
 cases e1
 have key:∃ s,PreP J I w (.ownc e k) (bufOf xs s,(xs.length:Int)) v B1:=by
  rcases hown.2 with ⟨rfl,h0⟩ | ⟨g,cap,cur,rfl,_,hg,hn,hm,hcs,htk⟩
  ·have hx:xs=[]:=List.eq_nil_of_length_eq_zero h0
   subst hx
   exact ⟨0,e2,.inl ⟨rfl,rfl⟩,.inl ⟨rfl,rfl⟩⟩
  ·have hn:xs.length ≤ cap:=hn
   have htk:cur.toList.take (xs.length * size k)=us':=htk
   have hl:lst (RdC I w k) xs us':=hl
   have hbl:(bufOf xs (cap - xs.length)).length=cap:=by simp [bufOf]; omega
   refine ⟨cap - xs.length,e2,.inr ⟨g,cur,by rw [hbl]; rfl,hg,by rw [hbl]; exact hm,by rw [hbl]; exact hcs,fun i x hx=>?_⟩,.inr ⟨g,by rw [hbl]; rfl,by omega,by rw [hbl]; omega⟩⟩
   have hi:xs[i]?=some x:=by
    unfold bufOf at hx
    rcases Nat.lt_or_ge i (xs.map some).length with hlt | hge
    ·rw [List.getElem?_append_left hlt,List.getElem?_map] at hx
     obtain ⟨y,h5,h6⟩:=Option.map_eq_some_iff.1 hx
     cases h6; exact h5
    ·rw [List.getElem?_append_right hge,List.getElem?_replicate] at hx
     split at hx <;> simp at hx
   have hin:i < xs.length:=(List.getElem?_eq_some_iff.1 hi).1
   have h8:=of_lst hl i x hi
   have hle:(i + 1) * size k ≤ xs.length * size k:=Nat.mul_le_mul_right _ hin
   rw [Nat.add_mul,Nat.one_mul] at hle
   rw [← htk,List.drop_take,List.take_take,Nat.min_eq_left (by omega)] at h8
   exact h8
 obtain ⟨s,hs⟩:=key
 exact h.2 n' ((bufOf xs s,(xs.length:Int)),r) y (hn s) w J I (v :: vs') (B1 ++ B2) h1 h2 h3 ⟨v,vs',B1,B2,rfl,rfl,hs,hrest⟩
theorem ConOK.val2 {P:Program} {f:FuncId} {e:TypeId} {k k2:Ty} {ps:List PK} {F:Nat→DPs ps→Option (DRO [(false,.vec e k),(false,.val k2)] (outs ps))}
  {F':Nat→DPs ps→Option (DRO [(false,.val (.seq e k)),(false,.val k2)] (outs ps))} (ho:outs ps=[]) (h:ConOK P f ⟨ps,[(false,.vec e k),(false,.val k2)],F⟩)
  (hF:∀ n x y,F' n x=some y→∃ y0,F n x=some y0∧(splitR [(false,.vec e k),(false,.val k2)] (outs ps) y0).1=(splitR [(false,.val (.seq e k)),(false,.val k2)] (outs ps) y).1) :
  ConOK P f ⟨ps,[(false,.val (.seq e k)),(false,.val k2)],F'⟩:=by
 refine ⟨h.1,fun n x y hy w J I vals B h1 h2 h3 hpre=>?_⟩
 obtain ⟨y0,hy0,hs⟩:=hF n x y hy
 refine (h.2 n x y0 hy0 w J I vals B h1 h2 h3 hpre).mono ?_
 rintro e' w' ⟨us,I',B1,B2,rfl,hp1,hp2,honly,hI,hI',hnd,hB⟩
 have hno:PostL I' w' (outs ps) (splitR [(false,.vec e k),(false,.val k2)] (outs ps) y0).2 (outVals ps vals) B2:=hp2
 have hv0:outVals ps vals=[]∧B2=[]:=by
  revert hno
  generalize (splitR [(false,OK.vec e k),(false,OK.val k2)] (outs ps) y0).2=z
  revert z
  rw [ho]
  exact fun z hz=>hz
 have hp1:PostL I' w' [(false,.vec e k),(false,.val k2)] (splitR [(false,.vec e k),(false,.val k2)] (outs ps) y0).1 us B1:=hp1
 rw [hs] at hp1
 generalize hz:(splitR [(false,OK.val (.seq e k)),(false,OK.val k2)] (outs ps) y).1=z at hp1
 obtain ⟨v,vs,us',C1,C2,rfl,rfl,⟨⟨v',us1,rfl,rfl,hrow,hl⟩,hpk⟩,v2,vs2,rfl,⟨hr2,rfl⟩,hpk2⟩:=hp1
 have hpk:[v']=[v]:=hpk
 cases hpk
 have hblk:∀ b,b ∈ (blk v).toList→b < w'.heap.size∧(b ∈ B ∨ w.heap.size ≤ b):=by
  intro b hb
  refine ⟨?_,(hB b (by simp [hb])).2⟩
  rcases hrow.2 with ⟨rfl,_⟩ | ⟨g,cap,cur,rfl,_,hg,_⟩
  ·simp [blk] at hb
  ·simp [blk] at hb
   subst hb
   exact (Array.getElem?_eq_some_iff.1 hg).1
 refine ⟨[v,v2],fun b=>I' b ∨ b ∈ (blk v).toList,[],[],rfl,?_,?_,honly,fun b hb=>.inl (hI b hb),?_,by simp,by simp⟩
 ·show PostL _ w' [(false,.val (.seq e k)),(false,.val k2)] (splitR [(false,OK.val (.seq e k)),(false,OK.val k2)] (outs ps) y).1 [v,v2] []
  rw [hz]
  refine ⟨v,[v],[v2],[],[],rfl,rfl,⟨⟨?_,rfl⟩,rfl⟩,v2,vs2,rfl,⟨hr2.mono (fun _ h=>.inl h) (fun _ _=>rfl),rfl⟩,hpk2⟩
  rcases hrow.2 with ⟨rfl,h0⟩ | ⟨g,cap,cur,rfl,_,hg,hn,_,hcs,htk⟩
  ·have:(z.1:List (D k))=[]:=List.eq_nil_of_length_eq_zero h0
   exact ⟨none,0,by rw [this]; rfl,by rw [this]; exact Nat.le_refl _,.inl this⟩
  ·refine ⟨some ⟨g,0,none⟩,cap,rfl,hn,.inr ⟨g,0,us1,rfl,.inr (by simp [blk]),hl.mono fun _ _ h=>h.mono (fun _ h=>.inl h) (fun _ _=>rfl),fun j u hu=>?_⟩⟩
   rw [cell_of_row w' g _ cur e (0,0) hg]
   have hj:us1[j]?=some u:=hu
   rw [← htk,List.getElem?_take] at hj
   split at hj
   ·simpa using hj
   ·cases hj
 ·show PostL _ w' (outs ps) _ (outVals ps vals) []
  generalize (splitR [(false,OK.val (.seq e k)),(false,OK.val k2)] (outs ps) y).2=z2
  revert z2
  rw [hv0.1,ho]
  exact fun z2=>⟨rfl,rfl⟩
 ·intro b hb
  rcases hb with hb | hb
  ·obtain ⟨g1,g2⟩:=hI' b hb
   exact ⟨g1,g2⟩
  ·obtain ⟨g1,g2⟩:=hblk b hb
   exact ⟨.inr g2,g1⟩
end Go.Ev
