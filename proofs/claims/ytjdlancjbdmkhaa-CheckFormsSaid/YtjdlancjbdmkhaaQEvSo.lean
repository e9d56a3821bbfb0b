/- A checked evaluator, part So: slices.SortFunc as a contract: where the sorted row is the only one, that row. -/
import Derived.Test.YtjdlancjbdmkhaaQEvQ
import Derived.Shelf.SlSortCmp.WholeK
namespace Go.Ev
open Go.RowKit Go.Sort Go.Proofs Go.Shelf
set_option linter.unusedVariables false
section
variable {α:Type}
def insL (lt:α→α→Bool) (x:α):List α→List α
 | []=>[x]
 | y :: ys=>bif lt x y then x :: y :: ys else y :: insL lt x ys
def isortL (lt:α→α→Bool):List α→List α
 | []=>[]
 | x :: xs=>insL lt x (isortL lt xs)
def ascL (lt:α→α→Bool):List α→Bool
 | []=>true
 | x :: l=>match l with
  | []=>true
  | y :: _=>lt x y && ascL lt l
def sortS (lt:α→α→Bool) (xs:List α):Option (List α):=bif ascL lt (isortL lt xs) then some (isortL lt xs) else none
theorem insL_perm (lt:α→α→Bool) (x:α):∀ l:List α,(insL lt x l).Perm (x :: l)
 | []=>List.Perm.refl _
 | y :: ys=>by
  simp only [insL]
  cases lt x y with
  | true=>exact List.Perm.refl _
  | false=>exact ((insL_perm lt x ys).cons y).trans (List.Perm.swap x y ys)
theorem isortL_perm (lt:α→α→Bool):∀ l:List α,(isortL lt l).Perm l
 | []=>List.Perm.refl _
 | x :: xs=>(insL_perm lt x _).trans ((isortL_perm lt xs).cons x)
theorem ascL_pairwise {lt:α→α→Bool} (ht:∀ x y z,lt x y=true→lt y z=true→lt x z=true):∀ {l:List α},ascL lt l=true→l.Pairwise (fun x y=>lt x y=true)
 | [],_=>List.Pairwise.nil
 | [x],_=>List.pairwise_singleton _ _
 | x :: y :: l,h=>by
  simp only [ascL,Bool.and_eq_true] at h
  have ih:=ascL_pairwise ht (l:=y :: l) h.2
  refine List.Pairwise.cons (fun z hz=>?_) ih
  rcases List.mem_cons.1 hz with rfl | hz
  ·exact h.1
  ·exact ht _ _ _ h.1 (List.rel_of_pairwise_cons ih hz)
theorem sort_unique {lt:α→α→Bool} (ht:∀ x y z,lt x y=true→lt y z=true→lt x z=true) (hi:∀ x,lt x x=false):∀ {l m:List α},m.Perm l→l.Pairwise (fun x y=>lt x y=true)→m.Pairwise (fun x y=>lt y x=false)→m=l
 | [],m,hp,_,_=>List.perm_nil.1 hp
 | x :: l,[],hp,_,_=>(List.perm_nil.1 hp.symm) ▸ rfl
 | x :: l,y :: m,hp,h1,h2=>by
  have hxy:x=y:=by
   have hx:x ∈ y :: m:=hp.symm.mem_iff.1 List.mem_cons_self
   have hy:y ∈ x :: l:=hp.mem_iff.1 List.mem_cons_self
   rcases List.mem_cons.1 hx with h | h
   ·exact h
   ·rcases List.mem_cons.1 hy with h' | h'
    ·exact h'.symm
    ·have a:=List.rel_of_pairwise_cons h2 h
     have b:=List.rel_of_pairwise_cons h1 h'
     rw [b] at a; cases a
  subst hxy
  rw [sort_unique ht hi (List.perm_cons x |>.1 hp) (List.Pairwise.of_cons h1) (List.Pairwise.of_cons h2)]
end
def El (I:Nat→Prop) (w:World) (k:Ty):Type:={p:D k×List Value // RdC I w k p.1 p.2}
instance (I:Nat→Prop) (w:World) (k:Ty):Inhabited (El I w k):=⟨⟨(dflt k,zeros k),zeros_rd k⟩⟩
def El.mk {I:Nat→Prop} {w:World} {k:Ty} (x:D k) (v:List Value) (h:RdC I w k x v):El I w k:=⟨(x,v),h⟩
def El.x {I:Nat→Prop} {w:World} {k:Ty} (p:El I w k):D k:=p.1.1
def El.cs {I:Nat→Prop} {w:World} {k:Ty} (p:El I w k):List Value:=p.1.2
theorem El.len {I:Nat→Prop} {w:World} {k:Ty} (p:El I w k):p.cs.length=size k:=p.2.length
theorem El.one {I:Nat→Prop} {w:World} {k:Ty} (p:El I w k):∀ v ∈ p.cs,v.oneCell'=true:=p.2.one
theorem els_of {I:Nat→Prop} {w:World} {k:Ty}:∀ {xs:List (D k)} {us:List Value},lst (RdC I w k) xs us→∃ l:List (El I w k),l.map El.x=xs∧lst (fun (p:El I w k) v=>v=p.cs) l us
 | [],us,h=>⟨[],rfl,h⟩
 | x :: xs,us,⟨v1,v2,e,h1,h2⟩=>by
  obtain ⟨l,h3,h4⟩:=els_of h2
  exact ⟨El.mk x v1 h1 :: l,by rw [List.map_cons,h3]; rfl,v1,v2,e,rfl,h4⟩
theorem els_lst {I:Nat→Prop} {w:World} {k:Ty}:∀ {l:List (El I w k)} {us:List Value},lst (fun (p:El I w k) v=>v=p.cs) l us→lst (RdC I w k) (l.map El.x) us
 | [],us,h=>h
 | p :: l,us,⟨v1,v2,e,h1,h2⟩=>by
  subst h1
  exact ⟨_,_,e,p.2,els_lst h2⟩
theorem lst_cs {I:Nat→Prop} {w:World} {k:Ty}:∀ (l:List (El I w k)),lst (fun (p:El I w k) v=>v=p.cs) l (l.flatMap El.cs)
 | []=>rfl
 | p :: l=>⟨p.cs,l.flatMap El.cs,by simp,rfl,lst_cs l⟩
theorem lst_cs_eq {I:Nat→Prop} {w:World} {k:Ty}:∀ {l:List (El I w k)} {us:List Value},lst (fun (p:El I w k) v=>v=p.cs) l us→us=l.flatMap El.cs
 | [],us,h=>h
 | p :: l,us,⟨v1,v2,e,h1,h2⟩=>by
  subst h1
  rw [e,lst_cs_eq h2]; simp
theorem flat_eq {I:Nat→Prop} {w:World} {k:Ty} (hk:0 < size k) (d:Array (El I w k)):(flatK El.cs (size k) d).toList=d.toList.flatMap El.cs:=by
 have hl:(d.toList.flatMap El.cs).length=d.size * size k:=by
  have:=lst.length (n:=size k) (fun (a:El I w k) v h=>by rw [h]; exact a.len) (lst_cs d.toList)
  simpa using this
 have:flatK El.cs (size k) d=(d.toList.flatMap El.cs).toArray:=by
  refine ext_get! (by simp [hl]) fun t ht=>?_
  have ht:t < d.size * size k:=by simpa using ht
  rw [get_flatK _ _ _ _ ht]
  have hi:t / size k < d.size:=Nat.div_lt_of_lt_mul (by rw [Nat.mul_comm]; exact ht)
  have hj:t % size k < size k:=Nat.mod_lt _ hk
  obtain ⟨v,h1,h2⟩:=lst.at (n:=size k) (fun (a:El I w k) v h=>by rw [h]; exact a.len) (lst_cs d.toList) (t / size k) (by simpa using hi)
  have h3:=h2 (t % size k) hj
  have e1:t / size k * size k + t % size k=t:=by rw [Nat.mul_comm]; exact Nat.div_add_mod t (size k)
  rw [e1] at h3
  have e2:d[t / size k]! = d.toList[t / size k]'(by simpa using hi):=by simp [hi]
  have h1:v=(d.toList[t / size k]'(by simpa using hi)).cs:=h1
  rw [e2,← h1]
  have hvl:v.length=size k:=by rw [h1]; exact El.len _
  have e3:v[t % size k]! = v[t % size k]'(by omega):=by simp [hvl,hj]
  have htl:t < (d.toList.flatMap El.cs).length:=by omega
  have e4:(d.toList.flatMap El.cs).toArray[t]! = (d.toList.flatMap El.cs)[t]'htl:=getElem!_pos _ t (by simpa using htl)
  rw [e3,e4]
  rw [List.getElem?_eq_getElem htl,List.getElem?_eq_getElem (by omega)] at h3
  exact (Option.some.inj h3).symm
 rw [this]
theorem El.mono {I:Nat→Prop} {w w':World} {k:Ty} (hw:∀ b,I b→w'.heap[b]?=w.heap[b]?) {l:List (El I w k)} {us:List Value} (h:lst (fun (p:El I w k) v=>v=p.cs) l us):lst (RdC I w' k) (l.map El.x) us :=
 (els_lst h).mono fun _ _ h=>h.mono (fun _ h=>h) hw
theorem heap_sortWorld {I:Nat→Prop} {w:World} {k:Ty} {g:Nat} (hg:g < w.heap.size) (n:Nat) (d:Array (El I w k)) (os:Array Obj) (b:Nat) (hb:b < w.heap.size) :
  (sortWorldK El.cs (size k) w g 0 n d os).heap[b]?=if b=g then (w.heap[b]?).map (onCells (putCells id 0 (flatK El.cs (size k) d))) else w.heap[b]?:=by
 unfold sortWorldK grow putRowK putRow mapBlock Go.Sort.ahead
 simp only
 rw [Array.getElem?_append_left (by simpa using hb),Array.getElem?_modify]
 by_cases e:g=b
 ·subst e; simp
 ·have e':¬ b=g:=fun h=>e h.symm
  simp [e,e']
theorem putCells_take (F cur:Array Value) (h:F.size ≤ cur.size):(putCells id 0 F cur).size=cur.size∧(putCells id 0 F cur).toList.take F.size=F.toList:=by
 constructor
 ·simp [putCells]
 ·apply List.ext_getElem?
  intro i
  rw [List.getElem?_take]
  by_cases hi:i < F.size
  ·rw [if_pos hi]
   have hc:i < cur.size:=by omega
   simp [putCells,hi,hc]
  ·rw [if_neg hi,List.getElem?_eq_none (by simpa using Nat.le_of_not_lt hi)]
set_option maxHeartbeats 1000000 in
theorem sort_calls {P:Program} {ρ:Ren} (L:SlLaysF0.n6 P ρ) {k:Ty} (hk:0 < size k) (aE:∀ w,(isAgg (ρ.t 24)).run P w=.ok true w) (zE:∀ w,(Go.sizeOf (ρ.t 24)).run P w=.ok (size k) w)
  {g:FuncId} (eg:∀ (args:Array Value) (w:World),(callFunc g args).run P w=.ok (.enter g args) w) (cf:D k→D k→Int)
  (hi:∀ x,decide (cf x x < 0)=false) (ht:∀ x y z,decide (cf x y < 0)=true→decide (cf y z < 0)=true→decide (cf x z < 0)=true) (hn:∀ x y z,decide (cf x y < 0)=false→decide (cf y z < 0)=false→decide (cf x z < 0)=false)
  (hcf:∀ (I:Nat→Prop) (w:World) (x y:D k) (vx vy:List Value),RdC I w k x vx→RdC I w k y vy→Calls P g #[.agg vx.toArray,.agg vy.toArray] w fun e w'=>e=.returned (.int .i64 (cf x y))∧∃ q os',w'=grow (w.drewN q) os')
  {e:TypeId} {xs ys:List (D k)} (hys:sortS (fun x y=>decide (cf x y < 0)) xs=some ys) {w:World} {I:Nat→Prop} {b cap:Nat} {us:List Value} (hI:∀ i,I i→i < w.heap.size) (hb:¬ I b) {cur:Array Value}
  (hcur:w.heap[b]?=some (.cells cur e (0,0))) (hlen:xs.length ≤ cap) (h62:xs.length < 4611686018427387904) (hcap:cap ≤ maxLen) (hsz:cur.size=cap * size k) (htk:cur.toList.take (xs.length * size k)=us) (hl:lst (RdC I w k) xs us) :
  Calls P (ρ.f 6) #[.slice (some ⟨b,0,none⟩) xs.length cap,.func (.func g) #[] #[]] w fun e' w'=>e'=.returned (.tuple #[])∧OnlyP (·=b) w w' ∧
   ∃ cur',w'.heap[b]?=some (.cells cur' e (0,0))∧cur'.size=cur.size∧∃ us',cur'.toList.take (xs.length * size k)=us'∧ys.length=xs.length∧us'.length=xs.length * size k∧lst (RdC I w' k) ys us':=by
 have hbl:b < w.heap.size:=(Array.getElem?_eq_some_iff.1 hcur).1
 obtain ⟨l,h1,h2⟩:=els_of hl
 have hll:l.length=xs.length:=by rw [← h1]; simp
 have hus:us=l.flatMap El.cs:=lst_cs_eq h2
 have hfl:(flatK El.cs (size k) l.toArray).toList=us:=by rw [flat_eq hk,hus]
 have husl:us.length=xs.length * size k:=by
  have:=congrArg List.length hfl
  simp [hll] at this
  exact this.symm
 have hcs:xs.length * size k ≤ cur.size:=by rw [hsz]; exact Nat.mul_le_mul_right _ hlen
 have hH:HoldsK El.cs (size k) w b 0 l.toArray:=by
  intro j hj
  have hj':j < us.length:=by rw [← hfl]; simpa using hj
  have hjc:j < cur.size:=by omega
  refine ⟨?_,by simp [World.frozen?,hcur]⟩
  rw [cell_of_row w b _ cur e (0,0) hcur,Nat.zero_add]
  have e1:(flatK El.cs (size k) l.toArray)[j]! = us[j]:=by
   have:(flatK El.cs (size k) l.toArray)[j]! = (flatK El.cs (size k) l.toArray).toList[j]'(by simpa using hj):=by
    rw [getElem!_pos _ j hj]; simp
   rw [this]
   simp only [hfl]
  rw [e1]
  have e2:us[j]?=cur.toList[j]?:=by rw [← htk,List.getElem?_take,if_pos (by omega)]
  rw [List.getElem?_eq_getElem hj'] at e2
  simpa using e2.symm
 have hIw:∀ (n:Nat) (d:Array (El I w k)) (os:Array Obj) (i:Nat),I i→(sortWorldK El.cs (size k) w b 0 n d os).heap[i]?=w.heap[i]?:=fun n d os i hi=>by
  rw [heap_sortWorld hbl n d os i (hI i hi),if_neg]
  rintro rfl
  exact hb hi
 have hcmp:CmpLays P g #[] El.cs (size k) (fun (p q:El I w k)=>cf p.x q.x) b 0 l.toArray.size w:=by
  intro m os dk _ x y
  exact hcf I _ x.x y.x x.cs y.cs (x.2.mono (fun _ h=>h) (hIw m dk os)) (y.2.mono (fun _ h=>h) (hIw m dk os))
 have hO:SWO (ltOf fun (p q:El I w k)=>cf p.x q.x):=⟨fun x=>hi x.x,fun x y z=>ht x.x y.x z.x,fun x y z=>hn x.x y.x z.x⟩
 have hmax:l.toArray.size < 4611686018427387904:=by
  have:l.toArray.size=xs.length:=by simpa using hll
  omega
 have hs:=AnyQ.slices_SortFunc L (size k) aE zE El.cs El.len El.one (fun (p q:El I w k)=>cf p.x q.x) hO g #[] b 0 cap l.toArray w eg hcmp hH hbl hmax
 rw [show l.toArray.size=xs.length by simpa using hll] at hs
 refine hs.mono ?_
 rintro e' w' ⟨rfl,d',n,os,hp,hso,rfl⟩
 obtain ⟨hp1,_,hp2⟩:=hp
 have hds:d'.size=xs.length:=by rw [hp1]; simpa using hll
 have hperm:d'.toList.Perm l:=by
  have e1:d'.extract 0 xs.length=d':=by rw [← hds]; simp
  have e2:l.toArray.extract 0 xs.length=l.toArray:=by rw [← hll]; simp
  rw [e1,e2] at hp2
  exact hp2
 have hys':d'.toList.map El.x=ys:=by
  unfold sortS at hys
  cases ha:ascL (fun x y=>decide (cf x y < 0)) (isortL (fun x y=>decide (cf x y < 0)) xs) with
  | false=>rw [ha] at hys; cases hys
  | true =>
  rw [ha] at hys
  cases hys
  refine sort_unique ht hi ?_ (ascL_pairwise ht ha) ?_
  ·exact (hperm.map El.x).trans (by rw [h1]; exact (isortL_perm _ _).symm)
  ·rw [List.pairwise_map,List.pairwise_iff_getElem]
   intro i j h3 h4 h5
   have:=hso i j (Nat.zero_le _) h5 (by rw [← hds]; simpa using h4)
   rw [getElem!_pos d' i (by simpa using h3),getElem!_pos d' j (by simpa using h4)] at this
   exact this
 have hfs:(flatK El.cs (size k) d').size=xs.length * size k:=by simp [hds]
 obtain ⟨p1,p2⟩:=putCells_take (flatK El.cs (size k) d') cur (by rw [hfs]; exact hcs)
 refine ⟨rfl,⟨rfl,rfl,rfl,by simp [sortWorldK,putRowK],fun i h3 h4=>?_⟩,putCells id 0 (flatK El.cs (size k) d') cur,?_,p1,(flatK El.cs (size k) d').toList,by rw [← hfs]; exact p2,?_,by rw [Array.length_toList,hfs],?_⟩
 ·rw [heap_sortWorld hbl n d' os i h3,if_neg h4]
 ·rw [heap_sortWorld hbl n d' os b hbl,if_pos rfl,hcur]; rfl
 ·rw [← hys']; simpa using hds
 ·rw [← hys',flat_eq hk]
  exact El.mono (hIw n d' os) (lst_cs d'.toList)
def sortCF {α:Type} (cf:α→α→Int) (xs:List α):Option (List α):=bif decide (xs.length < 4611686018427387904) then sortS (fun x y=>decide (cf x y < 0)) xs else none
theorem sort_con {P:Program} {ρ:Ren} (L:SlLaysF0.n6 P ρ) {k:Ty} (hk:0 < size k) (aE:∀ w,(isAgg (ρ.t 24)).run P w=.ok true w) (zE:∀ w,(Go.sizeOf (ρ.t 24)).run P w=.ok (size k) w) (e:TypeId)
  {g:FuncId} (eg:∀ (args:Array Value) (w:World),(callFunc g args).run P w=.ok (.enter g args) w) (cf:D k→D k→Int)
  (hi:∀ x,decide (cf x x < 0)=false) (ht:∀ x y z,decide (cf x y < 0)=true→decide (cf y z < 0)=true→decide (cf x z < 0)=true) (hn:∀ x y z,decide (cf x y < 0)=false→decide (cf y z < 0)=false→decide (cf x z < 0)=false)
  (hcf:∀ (I:Nat→Prop) (w:World) (x y:D k) (vx vy:List Value),RdC I w k x vx→RdC I w k y vy→Calls P g #[.agg vx.toArray,.agg vy.toArray] w fun e w'=>e=.returned (.int .i64 (cf x y))∧∃ q os',w'=grow (w.drewN q) os')
  {Fz:Nat→DPs [.slit,.clo g []]→Option (DRO [] (outs [.slit,.clo g []]))} (hz:ConOK P (ρ.f 6) ⟨[.slit,.clo g []],[],Fz⟩) (n0:Nat) (hz0:∀ x,Fz n0 x=some ()) :
  ConOK P (ρ.f 6) ⟨[.iov e k,.clo g []],[],fun n x=>sortCF cf x.1⟩:=by
 refine ⟨hz.1,fun n x y hy w J I vals B hlt hBn hBs hpre=>?_⟩
 obtain ⟨xs,c,_⟩:=x
 obtain ⟨v,vs1,B1,B2,rfl,rfl,hown,fv,vs2,B3,B4,rfl,rfl,⟨⟨cv,hfv,hcv⟩,hB3⟩,rfl,hB4⟩:=hpre
 have hcv:cv=[]:=hcv
 subst hcv hB3 hB4
 obtain ⟨v',us,e1,e2,hrow,hl⟩:=hown
 cases e1
 simp only [List.append_nil] at hBn hBs ⊢
 have hrow':w.ownsRow 0 e (size k) v xs.length us:=hrow
 have hl:lst (RdC I w k) xs us:=hl
 have hy:(bif decide ((xs:List (D k)).length < 4611686018427387904) then sortS (fun x y=>decide (cf x y < 0)) xs else none)=some y:=hy
 cases hd:decide ((xs:List (D k)).length < 4611686018427387904) with
 | false=>rw [hd] at hy; cases hy
 | true =>
 rw [hd] at hy
 have h62:(xs:List (D k)).length < 4611686018427387904:=by simpa using hd
 have hy:sortS (fun x y=>decide (cf x y < 0)) xs=some y:=hy
 obtain ⟨hul,hcase⟩:=hrow'
 by_cases hx:(xs:List (D k))=[]
 ·
  subst hx
  have hy0:y=[]:=by cases hy; rfl
  subst hy0
  obtain ⟨a,c0,rfl⟩:∃ a c0,v=.slice a 0 c0:=by
   rcases hcase with ⟨rfl,_⟩ | ⟨g',cap,cur,rfl,_⟩ <;> exact ⟨_,_,rfl⟩
  have hpz:PrePs J I w [.slit,.clo g []] ((a,c0),(c,())) [.slice a 0 c0,fv] []:=⟨_,_,[],[],rfl,rfl,⟨rfl,rfl⟩,_,_,[],[],rfl,rfl,⟨⟨[],hfv,rfl⟩,rfl⟩,rfl,rfl⟩
  refine (hz.2 n0 _ () (hz0 _) w J I _ [] hlt List.nodup_nil (by simp) hpz).mono ?_
  rintro e' w' ⟨us',I',C1,C2,rfl,⟨rfl,rfl⟩,h2,honly,hI1,hI2,_,_⟩
  refine ⟨[],I',[],B1,rfl,⟨rfl,rfl⟩,⟨_,[_],rfl,⟨_,us,rfl,e2,?_,?_⟩,rfl⟩,honly.mono (fun b hb=>by simp at hb),hI1,fun b hb=>?_,by simpa using hBn,fun b hb=>?_⟩
  ·refine ⟨hul,?_⟩
   rcases hcase with h | ⟨g',cap,cur,h1,h2,h3,h4⟩
   ·exact .inl h
   ·exact .inr ⟨g',cap,cur,h1,h2,honly.heap h3 (by simp),h4⟩
  ·have:us=[]:=hl
   subst this
   exact rfl
  ·obtain ⟨h3,h4⟩:=hI2 b hb
   refine ⟨?_,h4⟩
   rcases h3 with h3 | h3 | h3
   ·exact .inl h3
   ·simp at h3
   ·exact .inr (.inr h3)
  ·have hb:b ∈ B1:=by simpa using hb
   refine ⟨fun h=>?_,.inl hb⟩
   obtain ⟨g1,_,g3⟩:=hBs b hb
   rcases (hI2 b h).1 with h3 | h3 | h3
   ·exact g1 h3
   ·simp at h3
   ·omega
 ·
  rcases hcase with ⟨_,h0⟩ | ⟨b,cap,cur,rfl,_,hcur,hlen,hcap,hsz,htk⟩
  ·exact (hx (List.eq_nil_of_length_eq_zero h0)).elim
  have hB1:B1=[b]:=e2
  subst hB1
  obtain ⟨g1,_,g3⟩:=hBs b List.mem_cons_self
  subst hfv
  refine (sort_calls L hk aE zE eg cf hi ht hn hcf hy (fun i hi=>hlt i (.inl hi)) g1 hcur hlen h62 hcap hsz htk hl).mono ?_
  rintro e' w' ⟨rfl,honly,cur',h1,h2,us',h3,h4,h5,h6⟩
  refine ⟨[],I,[],[b],rfl,⟨rfl,rfl⟩,⟨_,[_],rfl,⟨_,us',rfl,rfl,⟨?_,.inr ⟨b,cap,cur',?_,Nat.zero_le _,h1,?_,hcap,by omega,?_⟩⟩,h6⟩,rfl⟩,honly.mono (fun i hi=>.inl (by simpa using hi)),fun _ h=>h,fun i hi=>⟨.inl hi,Nat.lt_of_lt_of_le (hlt i (.inl hi)) honly.size⟩,by simp,fun i hi=>?_⟩
  ·show us'.length=(y:List (D k)).length * size k
   rw [h5,h4]
  ·show _=Value.slice (some ⟨b,0,none⟩) (y:List (D k)).length cap
   rw [h4]
  ·show (y:List (D k)).length ≤ cap
   rw [h4]; exact hlen
  ·show cur'.toList.take ((y:List (D k)).length * size k)=us'
   rw [h4]; exact h3
  ·have hi:i=b:=by simpa using hi
   subst hi
   exact ⟨g1,.inl List.mem_cons_self⟩
end Go.Ev
