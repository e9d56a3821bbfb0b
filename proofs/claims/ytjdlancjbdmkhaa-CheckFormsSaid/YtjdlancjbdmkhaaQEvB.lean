/- A checked evaluator, part B: states, records of operations, what it is for an operation to do what its record says. -/
import Derived.Test.YtjdlancjbdmkhaaQEvA
namespace Go.Ev
open Go.RowKit
set_option linter.unusedVariables false
structure FS where
 env:Nat→Option AV
 heap:Nat→Option HV
 fresh:Nat→Prop
 pin:List Nat
structure Fr where
 w0:World
 F:Nat→Prop
 I0:Nat→Prop
 J:Nat→Prop
 N:Nat
 pins:List Value
def cellN (φ:Nat→Option Value) (w:World) (id c:Nat):Option Value:=match φ id with
 | some (.slice (some a) _ _)=>w.cell? ⟨a.block,c,none⟩
 | _=>none
def HeadOK (φ:Nat→Option Value) (I:Nat→Prop) (w:World) (id:Nat) (k0:Ty) (k1:Ty) (xs:List (D k0×List (D k1))):Prop :=
 ∀ (i:Nat) (hi:i < xs.length),∃ vs0,RdC I w k0 (xs[i]).1 vs0∧∀ o u,vs0[o]?=some u→cellN φ w id (i * (size k0 + 1) + o)=some u
structure NestOK (φ:Nat→Option Value) (I:Nat→Prop) (w:World) (E X:Nat→Prop) (id:Nat) (k0:Ty) (e1:TypeId) (k1:Ty) (xs:List (D k0×List (D k1))):Prop where
 elem:∀ (i:Nat) (hi:i < xs.length),¬ X i→∃ u us,cellN φ w id (i * (size k0 + 1) + size k0)=some u∧w.ownsRow 0 e1 (size k1) u (xs[i]).2.length us∧lst (RdC I w k1) (xs[i]).2 us∧∀ b,blk u=some b→E b
 dist:∀ i j u u' b,i < xs.length→j < xs.length→¬ X i→¬ X j→i ≠ j→cellN φ w id (i * (size k0 + 1) + size k0)=some u→cellN φ w id (j * (size k0 + 1) + size k0)=some u'→blk u=some b→blk u' ≠ some b
def holeX (st:Option (Nat×Int)) (j:Nat):Prop:=∃ n i,st=some (n,i)∧j=i.toNat
def PendOK (φ:Nat→Option Value) (I:Nat→Prop) (w:World) (E:Nat→Prop) (id sz len:Nat) (n:Nat) (i:Int) (e1:TypeId) (k1:Ty) (ys:List (D k1)):Prop :=
 0 ≤ i∧i.toNat < len∧∃ u us,φ n=some u∧u.oneCell'=true∧w.ownsRow 0 e1 (size k1) u ys.length us∧lst (RdC I w k1) ys us ∧
  ∀ b,blk u=some b→E b∧∀ j u',j < len→j ≠ i.toNat→cellN φ w id (j * (sz + 1) + sz)=some u'→blk u' ≠ some b
structure Deep (fr:Fr) (σ:FS) (φ:Nat→Option Value) (I:Nat→Prop) (w:World) (E:Nat→Nat→Prop):Prop where
 head:∀ id e k0 e1 k1 xs lk,σ.heap id=some (.nest e k0 e1 k1 xs lk)→HeadOK φ I w id k0 k1 xs
 nest:∀ id e k0 e1 k1 xs lk ver st,σ.heap id=some (.nest e k0 e1 k1 xs lk)→σ.heap lk=some (.lock id ver st)→NestOK φ I w (E id) (holeX st) id k0 e1 k1 xs
 peek:∀ n r i ver,σ.heap n=some (.peek r i ver)→∀ e k0 e1 k1 xs lk st,σ.heap r=some (.nest e k0 e1 k1 xs lk)→σ.heap lk=some (.lock r ver st)→0 ≤ i→i.toNat < xs.length→φ n=cellN φ w r (i.toNat * (size k0 + 1) + size k0)
 pend:∀ n r i e1' k1' ys,σ.heap n=some (.pend r e1' k1' ys)→∀ e k0 e1 k1 xs lk ver,σ.heap r=some (.nest e k0 e1 k1 xs lk)→σ.heap lk=some (.lock r ver (some (n,i)))→PendOK φ I w (E r) r (size k0) xs.length n i e1' k1' ys
 peekr:∀ n r i ver,σ.heap n=some (.peek r i ver)→∃ v,φ r=some v
 pendr:∀ n r e1 k1 ys,σ.heap n=some (.pend r e1 k1 ys)→∃ v,φ r=some v
 peekv:∀ n r i ver',σ.heap n=some (.peek r i ver')→∀ e k0 e1 k1 xs lk ver st,σ.heap r=some (.nest e k0 e1 k1 xs lk)→σ.heap lk=some (.lock r ver st)→ver' ≤ ver
 priv:∀ id b,E id b→¬ I b∧¬ fr.J b∧(fr.F b ∨ fr.w0.heap.size ≤ b)∧b < w.heap.size
 sep1:∀ id b,E id b→∀ id' hv' v',σ.heap id'=some hv'→hv'.owned=true→φ id'=some v'→blk v' ≠ some b
 sep2:∀ id id' b,id ≠ id'→E id b→¬ E id' b
def OwnB (σ:FS) (φ:Nat→Option Value) (b:Nat):Prop:=∃ id hv u,σ.heap id=some hv∧hv.owned=true∧φ id=some u∧blk u=some b
theorem cellN_eq {φ φ':Nat→Option Value} {w w':World} {id:Nat} {v:Value} (h:φ id=some v) (h':φ' id=some v) (hb:∀ b,blk v=some b→w'.heap[b]?=w.heap[b]?) (c:Nat):cellN φ' w' id c=cellN φ w id c:=by
 unfold cellN
 rw [h,h']
 cases v with
 | slice a n cap =>
  cases a with
  | none=>rfl
  | some a=>exact World.cell?_of_block (hb a.block rfl)
 | _=>rfl
theorem ownsRow_frame {w w':World} {base:Nat} {e:TypeId} {sz:Nat} {v:Value} {n:Nat} {xs:List Value} (h:w.ownsRow base e sz v n xs) (hb:∀ b,blk v=some b→w'.heap[b]?=w.heap[b]?):w'.ownsRow base e sz v n xs:=by
 obtain ⟨hl,h1⟩:=h
 refine ⟨hl,?_⟩
 rcases h1 with h1 | ⟨g,cap,cur,rfl,hb',hg,h3⟩
 ·exact .inl h1
 ·exact .inr ⟨g,cap,cur,rfl,hb',(hb g rfl).trans hg,h3⟩
theorem HeadOK.frame {φ φ':Nat→Option Value} {I I':Nat→Prop} {w w':World} {id:Nat} {k0 k1:Ty} {xs:List (D k0×List (D k1))}
  (h:HeadOK φ I w id k0 k1 xs) {v:Value} (hv:φ id=some v) (hφ:∀ id u,φ id=some u→φ' id=some u) (hI:∀ b,I b→I' b) (hw:∀ b,I b→w'.heap[b]?=w.heap[b]?)
  (ho:∀ b,blk v=some b→w'.heap[b]?=w.heap[b]?):HeadOK φ' I' w' id k0 k1 xs:=by
 intro i hi
 obtain ⟨vs0,h1,h2⟩:=h i hi
 exact ⟨vs0,h1.mono hI hw,fun o u hu=>by rw [cellN_eq hv (hφ _ _ hv) ho]; exact h2 o u hu⟩
theorem NestOK.frame {φ φ':Nat→Option Value} {I I':Nat→Prop} {w w':World} {E X:Nat→Prop} {id:Nat} {k0:Ty} {e1:TypeId} {k1:Ty} {xs:List (D k0×List (D k1))}
  (h:NestOK φ I w E X id k0 e1 k1 xs) {v:Value} (hv:φ id=some v) (hφ:∀ id u,φ id=some u→φ' id=some u) (hI:∀ b,I b→I' b) (hw:∀ b,I b→w'.heap[b]?=w.heap[b]?)
  (hE:∀ b,E b→w'.heap[b]?=w.heap[b]?) (ho:∀ b,blk v=some b→w'.heap[b]?=w.heap[b]?):NestOK φ' I' w' E X id k0 e1 k1 xs:=by
 have hc:=fun c=>cellN_eq (c:=c) hv (hφ _ _ hv) ho
 have hr:∀ {k:Ty} {x:D k} {vs:List Value},RdC I w k x vs→RdC I' w' k x vs:=fun h=>h.mono hI hw
 constructor
 ·intro i hi hX
  obtain ⟨u,us,h1,h2,h3,h4⟩:=h.elem i hi hX
  exact ⟨u,us,by rw [hc]; exact h1,ownsRow_frame h2 fun b hb=>hE b (h4 b hb),h3.mono fun _ _ h=>hr h,h4⟩
 ·intro i j u u' b hi hj hX hX' hne h1 h2
  rw [hc] at h1 h2
  exact h.dist i j u u' b hi hj hX hX' hne h1 h2
theorem PendOK.frame {φ φ':Nat→Option Value} {I I':Nat→Prop} {w w':World} {E:Nat→Prop} {id sz len n:Nat} {i:Int} {e1:TypeId} {k1:Ty} {ys:List (D k1)}
  (h:PendOK φ I w E id sz len n i e1 k1 ys) {v:Value} (hv:φ id=some v) (hφ:∀ id u,φ id=some u→φ' id=some u) (hI:∀ b,I b→I' b) (hw:∀ b,I b→w'.heap[b]?=w.heap[b]?)
  (hE:∀ b,E b→w'.heap[b]?=w.heap[b]?) (ho:∀ b,blk v=some b→w'.heap[b]?=w.heap[b]?):PendOK φ' I' w' E id sz len n i e1 k1 ys:=by
 obtain ⟨h1,h2,u,us,h3,h4,h5,h6,h7⟩:=h
 refine ⟨h1,h2,u,us,hφ _ _ h3,h4,ownsRow_frame h5 fun b hb=>hE b (h7 b hb).1,h6.mono fun _ _ h=>h.mono hI hw,fun b hb=>⟨(h7 b hb).1,fun j u' hj hne hc'=>?_⟩⟩
 rw [cellN_eq hv (hφ _ _ hv) ho] at hc'
 exact (h7 b hb).2 j u' hj hne hc'
theorem Deep.frame {fr:Fr} {σ σ':FS} {φ φ':Nat→Option Value} {I I':Nat→Prop} {w w':World} {E:Nat→Nat→Prop} (h:Deep fr σ φ I w E)
  (hold:∀ id hv,σ.heap id=some hv→∃ v,φ id=some v)
  (hφ:∀ id u,φ id=some u→φ' id=some u) (hI:∀ b,I b→I' b) (hw:∀ b,I b→w'.heap[b]?=w.heap[b]?) (hE:∀ id b,E id b→w'.heap[b]?=w.heap[b]?∧¬ I' b) (hsz:w.heap.size ≤ w'.heap.size)
  (hn:∀ id hv,σ'.heap id=some hv→hv.plain=false→σ.heap id=some hv∧(hv.owned=true→∀ v b,φ id=some v→blk v=some b→w'.heap[b]?=w.heap[b]?))
  (ho:∀ id hv v b,σ'.heap id=some hv→hv.owned=true→φ' id=some v→blk v=some b→∀ id',¬ E id' b):Deep fr σ' φ' I' w' E:=by
 constructor
 ·intro id e k0 e1 k1 xs lk hs
  obtain ⟨h0,h1⟩:=hn id _ hs rfl
  obtain ⟨v,hv⟩:=hold _ _ h0
  exact (h.head _ _ _ _ _ _ _ h0).frame hv hφ hI hw (h1 rfl v · hv)
 ·intro id e k0 e1 k1 xs lk ver st hs hl
  obtain ⟨h0,h1⟩:=hn id _ hs rfl
  obtain ⟨v,hv⟩:=hold _ _ h0
  exact (h.nest _ _ _ _ _ _ _ _ _ h0 (hn lk _ hl rfl).1).frame hv hφ hI hw (fun b hb=>(hE id b hb).1) (h1 rfl v · hv)
 ·intro n r i ver hn' e k0 e1 k1 xs lk st hr hl h0 hi
  obtain ⟨g0,-⟩:=hn n _ hn' rfl
  obtain ⟨g1,g2⟩:=hn r _ hr rfl
  obtain ⟨g3,-⟩:=hn lk _ hl rfl
  obtain ⟨v,hv⟩:=hold _ _ g1
  obtain ⟨u,hu⟩:=hold n _ g0
  rw [hφ _ _ hu,cellN_eq hv (hφ _ _ hv) (g2 rfl v · hv),← hu]
  exact h.peek n r i ver g0 e k0 e1 k1 xs lk st g1 g3 h0 hi
 ·intro n r i e1' k1' ys hn' e k0 e1 k1 xs lk ver hr hl
  obtain ⟨g0,-⟩:=hn n _ hn' rfl
  obtain ⟨g1,g2⟩:=hn r _ hr rfl
  obtain ⟨g3,-⟩:=hn lk _ hl rfl
  obtain ⟨v,hv⟩:=hold _ _ g1
  exact (h.pend n r i e1' k1' ys g0 e k0 e1 k1 xs lk ver g1 g3).frame hv hφ hI hw (fun b hb=>(hE r b hb).1) (g2 rfl v · hv)
 ·intro n r i ver hn'
  obtain ⟨v,hv⟩:=h.peekr n r i ver (hn n _ hn' rfl).1
  exact ⟨v,hφ _ _ hv⟩
 ·intro n r e1 k1 ys hn'
  obtain ⟨v,hv⟩:=h.pendr n r e1 k1 ys (hn n _ hn' rfl).1
  exact ⟨v,hφ _ _ hv⟩
 ·intro n r i ver' hn' e k0 e1 k1 xs lk ver st hr hl
  exact h.peekv n r i ver' (hn n _ hn' rfl).1 e k0 e1 k1 xs lk ver st (hn r _ hr rfl).1 (hn lk _ hl rfl).1
 ·intro id b hb
  obtain ⟨h1,h2,h3,h4⟩:=h.priv id b hb
  exact ⟨(hE id b hb).2,h2,h3,Nat.lt_of_lt_of_le h4 hsz⟩
 ·intro id b hb id' hv' v' h1 h2 h3 h4
  exact ho id' hv' v' b h1 h2 h3 h4 id hb
 ·exact h.sep2
structure R (fr:Fr) (σ:FS) (φ:Nat→Option Value) (I:Nat→Prop) (a:Act) (w:World):Prop where
 nt:a.tmps.size=fr.N
 dfr:a.defers=[]
 env:∀ t av,σ.env t=some av→∃ v,a.tmps[t]?=some v∧RA fr.J φ I w av v
 heap:∀ id hv,σ.heap id=some hv→RH fr.J φ I w id hv
 fresh:∀ id,σ.fresh id→φ id=none
 own:∀ id hv v b,σ.heap id=some hv→hv.owned=true→φ id=some v→blk v=some b→¬ I b∧¬ fr.J b∧(fr.F b ∨ fr.w0.heap.size ≤ b)
 sep:∀ id id' hv hv' v v' b,id ≠ id'→σ.heap id=some hv→σ.heap id'=some hv'→hv.owned=true→hv'.owned=true→φ id=some v→φ id'=some v'→blk v=some b→blk v' ≠ some b
 only:OnlyP fr.F fr.w0 w
 imm:∀ b,I b→fr.I0 b ∨ fr.F b ∨ fr.w0.heap.size ≤ b
 lt:∀ b,I b ∨ fr.J b→b < w.heap.size
 pin:all2 (fun id u=>φ id=some u) σ.pin fr.pins
 deep:∃ E,Deep fr σ φ I w E
structure Rec where
 dst:Option Tmp
 val:Option AV
 temps:List (Tmp×AV)
 hp:List (Nat×Option HV)
 wr:List (Nat×Option HV)
 new:List Nat
def Rec.valid (r:Rec) (σ:FS):Prop:=(∀ p ∈ r.temps,σ.env p.1=some p.2)∧(∀ p ∈ r.hp,σ.heap p.1=p.2)∧(∀ id ∈ r.new,σ.fresh id)
def Rec.apply (r:Rec) (σ:FS):FS where
 env:=fun t=>if r.dst=some t then r.val else σ.env t
 heap:=fun id=>match r.wr.lookup id with
  | some h=>h
  | none=>σ.heap id
 fresh:=fun id=>σ.fresh id∧id ∉ r.new
 pin:=σ.pin
def OpOK (P:Program) (o:Oper) (r:Rec):Prop :=
 ∀ (fr:Fr) (σ:FS) (φ:Nat→Option Value) (I:Nat→Prop) (a:Act) (w:World) (K:Act→World→Prop) (Q:Exit→Act→World→Prop),
  R fr σ φ I a w→r.valid σ→(∀ d,o.dst=some d→d < fr.N) →
  (∀ φ' I' v w',R fr (r.apply σ) φ' I' (a.put o.dst v) w'→K (a.put o.dst v) w')→o.wp P a w K Q
section
variable {fr:Fr} {σ:FS} {φ φ':Nat→Option Value} {I I':Nat→Prop} {a:Act} {w w':World}
theorem put_get (a:Act) (d:Option Tmp) (v:Value) (t:Nat) (h:∀ x,d=some x→x < a.tmps.size):(a.put d v).tmps[t]?=if d=some t then some v else a.tmps[t]?:=by
 cases d with
 | none=>simp [Act.put]
 | some x =>
  simp only [Act.put,Array.getElem?_setIfInBounds,Option.some.injEq]
  by_cases e:x=t
  ·subst e
   simp [h x rfl]
  ·simp [e]
theorem put_size (a:Act) (d:Option Tmp) (v:Value):(a.put d v).tmps.size=a.tmps.size:=by cases d <;> simp [Act.put]
theorem put_dfr (a:Act) (d:Option Tmp) (v:Value):(a.put d v).defers=a.defers:=by cases d <;> rfl
theorem R.old (h:R fr σ φ I a w):∀ id hv,σ.heap id=some hv→∃ u,φ id=some u:=by
 intro id hv he
 have:=h.heap id hv he
 cases hv with
 | cells cs=>obtain ⟨b,vs,t,e,_⟩:=this; exact ⟨_,e⟩
 | row e k xs=>obtain ⟨v,vs,e,_⟩:=this; exact ⟨_,e⟩
 | frozen e k xs=>obtain ⟨v,e,_⟩:=this; exact ⟨_,e⟩
 | buf e k bs=>obtain ⟨v,e,_⟩:=this; exact ⟨_,e⟩
 | nest e k0 e1 k1 xs lk=>obtain ⟨v,vs,e,_⟩:=this; exact ⟨_,e⟩
 | lock r ver st=>exact this
 | peek r i ver=>exact this
 | pend r e1 k1 ys=>exact this
 | map xs=>obtain ⟨b,es,cl,e,_⟩:=this; exact ⟨_,e⟩
theorem R.heap_lt (h:R fr σ φ I a w) {id:Nat} {hv:HV} {u:Value} {b:Nat} (h0:σ.heap id=some hv) (ho:hv.owned=true) (hu:φ id=some u) (hb:blk u=some b):b < w.heap.size:=by
 have h3:=h.heap id hv h0
 cases hv with
 | cells cs =>
  obtain ⟨b',vs,t,e,h4,_⟩:=h3
  rw [e] at hu; cases hu; simp [blk] at hb; subst hb
  exact (Array.getElem?_eq_some_iff.1 h4).1
 | row e k xs =>
  obtain ⟨v',vs,e,h4,_⟩:=h3
  rw [e] at hu; cases hu
  rcases h4.2 with ⟨rfl,_⟩ | ⟨g,cap,cur,rfl,_,hg,_⟩
  ·simp [blk] at hb
  ·simp [blk] at hb; subst hb
   exact (Array.getElem?_eq_some_iff.1 hg).1
 | frozen e k xs=>simp [HV.owned] at ho
 | buf e k bs =>
  obtain ⟨v',e,h4⟩:=h3
  rw [e] at hu; cases hu
  rcases h4 with ⟨rfl,_⟩ | ⟨g,cur,rfl,hg,_⟩
  ·simp [blk] at hb
  ·simp [blk] at hb; subst hb
   exact (Array.getElem?_eq_some_iff.1 hg).1
 | nest e k0 e1 k1 xs lk =>
  obtain ⟨v',vs,e,h4⟩:=h3
  rw [e] at hu; cases hu
  rcases h4.2 with ⟨rfl,_⟩ | ⟨g,cap,cur,rfl,_,hg,_⟩
  ·simp [blk] at hb
  ·simp [blk] at hb; subst hb
   exact (Array.getElem?_eq_some_iff.1 hg).1
 | lock r ver st=>simp [HV.owned] at ho
 | peek r i ver=>simp [HV.owned] at ho
 | pend r e1 k1 ys=>simp [HV.owned] at ho
 | map xs =>
  obtain ⟨b',es,cl,e,h4,_⟩:=h3
  rw [e] at hu; cases hu; simp [blk] at hb; subst hb
  exact (Array.getElem?_eq_some_iff.1 h4).1
theorem R.updD (h:R fr σ φ I a w) (r:Rec) {v:Value} {G:Nat→Prop} (hd:∀ d,r.dst=some d→d < fr.N)
  (hφ:∀ id u,φ id=some u→φ' id=some u) (hI:∀ b,I b→I' b) (hfresh:∀ id,σ.fresh id→id ∉ r.new→φ' id=none)
  (honly:OnlyP G w w') (hG:∀ b,G b→¬ I b∧¬ fr.J b∧(fr.F b ∨ fr.w0.heap.size ≤ b))
  (hGk:∀ id hv u b,r.wr.lookup id=none→σ.heap id=some hv→hv.owned=true→φ id=some u→blk u=some b→¬ G b)
  (himm:∀ b,I' b→I b ∨ ((fr.F b ∨ fr.w0.heap.size ≤ b)∧b < w'.heap.size∧¬ fr.J b∧∀ id hv u,r.wr.lookup id=none→σ.heap id=some hv→hv.owned=true→φ id=some u→blk u ≠ some b))
  (hwr:∀ id hv,r.wr.lookup id=some (some hv)→RH fr.J φ' I' w' id hv)
  (hown:∀ id hv u b,r.wr.lookup id=some (some hv)→hv.owned=true→φ' id=some u→blk u=some b→¬ I' b∧¬ fr.J b∧(fr.F b ∨ fr.w0.heap.size ≤ b))
  (hsep1:∀ id id' hv hv' u u' b,r.wr.lookup id=some (some hv)→r.wr.lookup id'=none→σ.heap id'=some hv'→hv.owned=true→hv'.owned=true→φ' id=some u→φ id'=some u'→blk u=some b→blk u' ≠ some b)
  (hsep2:∀ id id' hv hv' u u' b,id ≠ id'→r.wr.lookup id=some (some hv)→r.wr.lookup id'=some (some hv')→hv.owned=true→hv'.owned=true→φ' id=some u→φ' id'=some u'→blk u=some b→blk u' ≠ some b)
  (hval:∀ av,r.val=some av→RA fr.J φ' I' w' av v) (hdeep:∃ E,Deep fr (r.apply σ) φ' I' w' E):R fr (r.apply σ) φ' I' (a.put r.dst v) w':=by
 have hwIJ:∀ b,I b ∨ fr.J b→w'.heap[b]?=w.heap[b]?:=fun b hb=>honly.block b (h.lt b hb) fun hg=>by
  have h1:=hG b hg
  rcases hb with hb | hb
  ·exact h1.1 hb
  ·exact h1.2.1 hb
 have hlook:∀ id hv,(r.apply σ).heap id=some hv→r.wr.lookup id=some (some hv) ∨ (r.wr.lookup id=none∧σ.heap id=some hv):=by
  intro id hv he
  simp only [Rec.apply] at he
  cases hl:r.wr.lookup id with
  | none=>rw [hl] at he; exact .inr ⟨rfl,he⟩
  | some x=>rw [hl] at he; left; simpa using he
 have old:=h.old
 constructor
 ·rw [put_size]; exact h.nt
 ·rw [put_dfr]; exact h.dfr
 ·intro t av he
  rw [put_get a r.dst v t (fun x hx=>by rw [h.nt]; exact hd x hx)]
  simp only [Rec.apply] at he
  by_cases ht:r.dst=some t
  ·rw [if_pos ht] at he ⊢
   exact ⟨v,rfl,hval av he⟩
  ·rw [if_neg ht] at he ⊢
   obtain ⟨u,h1,h2⟩:=h.env t av he
   exact ⟨u,h1,RA.mono hφ hI hwIJ h2⟩
 ·intro id hv he
  rcases hlook id hv he with hl | ⟨hl,h0⟩
  ·exact hwr id hv hl
  ·refine RH.mono hφ hI hwIJ (h.heap id hv h0) fun ho b u hu hb=>?_
   have hlt:b < w.heap.size:=h.heap_lt h0 ho hu hb
   exact honly.block b hlt (hGk id hv u b hl h0 ho hu hb)
 ·intro id he
  exact hfresh id he.1 he.2
 ·intro id hv u b he ho hu hb
  rcases hlook id hv he with hl | ⟨hl,h0⟩
  ·exact hown id hv u b hl ho hu hb
  ·obtain ⟨u',hu'⟩:=old id hv h0
   have:=hφ id u' hu'
   rw [hu] at this; cases this
   obtain ⟨h1,h2,h3⟩:=h.own id hv u b h0 ho hu' hb
   refine ⟨fun hi=>?_,h2,h3⟩
   rcases himm b hi with h4 | ⟨_,_,_,h4⟩
   ·exact h1 h4
   ·exact h4 id hv u hl h0 ho hu' hb
 ·intro id id' hv hv' u u' b hne he he' ho ho' hu hu' hb
  rcases hlook id hv he with hl | ⟨hl,h0⟩ <;> rcases hlook id' hv' he' with hl' | ⟨hl',h0'⟩
  ·exact hsep2 id id' hv hv' u u' b hne hl hl' ho ho' hu hu' hb
  ·obtain ⟨x,hx⟩:=old id' hv' h0'
   have:=hφ id' x hx
   rw [hu'] at this; cases this
   exact hsep1 id id' hv hv' u u' b hl hl' h0' ho ho' hu hx hb
  ·obtain ⟨x,hx⟩:=old id hv h0
   have:=hφ id x hx
   rw [hu] at this; cases this
   intro hb'
   exact hsep1 id' id hv' hv u' u b hl' hl h0 ho' ho hu' hx hb' hb
  ·obtain ⟨x,hx⟩:=old id hv h0
   have:=hφ id x hx
   rw [hu] at this; cases this
   obtain ⟨x',hx'⟩:=old id' hv' h0'
   have:=hφ id' x' hx'
   rw [hu'] at this; cases this
   exact h.sep id id' hv hv' u u' b hne h0 h0' ho ho' hx hx' hb
 ·exact h.only.trans honly fun g hg=>(hG g hg).2.2
 ·intro b hb
  rcases himm b hb with h1 | ⟨h1,_⟩
  ·exact h.imm b h1
  ·exact .inr h1
 ·intro b hb
  rcases hb with hb | hb
  ·rcases himm b hb with h1 | ⟨_,h1,_⟩
   ·exact Nat.lt_of_lt_of_le (h.lt b (.inl h1)) honly.size
   ·exact h1
  ·exact Nat.lt_of_lt_of_le (h.lt b (.inr hb)) honly.size
 ·exact h.pin.mono fun _ _ h=>hφ _ _ h
 ·exact hdeep
theorem R.upd (h:R fr σ φ I a w) (r:Rec) {v:Value} {G:Nat→Prop} (hd:∀ d,r.dst=some d→d < fr.N)
  (hφ:∀ id u,φ id=some u→φ' id=some u) (hI:∀ b,I b→I' b) (hfresh:∀ id,σ.fresh id→id ∉ r.new→φ' id=none)
  (honly:OnlyP G w w') (hG:∀ b,G b→¬ I b∧¬ fr.J b∧(fr.F b ∨ fr.w0.heap.size ≤ b))
  (hGk:∀ id hv u b,r.wr.lookup id=none→σ.heap id=some hv→hv.owned=true→φ id=some u→blk u=some b→¬ G b)
  (himm:∀ b,I' b→I b ∨ ((fr.F b ∨ fr.w0.heap.size ≤ b)∧b < w'.heap.size∧¬ fr.J b∧∀ id hv u,r.wr.lookup id=none→σ.heap id=some hv→hv.owned=true→φ id=some u→blk u ≠ some b))
  (hwr:∀ id hv,r.wr.lookup id=some (some hv)→RH fr.J φ' I' w' id hv)
  (hown:∀ id hv u b,r.wr.lookup id=some (some hv)→hv.owned=true→φ' id=some u→blk u=some b→¬ I' b∧¬ fr.J b∧(fr.F b ∨ fr.w0.heap.size ≤ b))
  (hsep1:∀ id id' hv hv' u u' b,r.wr.lookup id=some (some hv)→r.wr.lookup id'=none→σ.heap id'=some hv'→hv.owned=true→hv'.owned=true→φ' id=some u→φ id'=some u'→blk u=some b→blk u' ≠ some b)
  (hsep2:∀ id id' hv hv' u u' b,id ≠ id'→r.wr.lookup id=some (some hv)→r.wr.lookup id'=some (some hv')→hv.owned=true→hv'.owned=true→φ' id=some u→φ' id'=some u'→blk u=some b→blk u' ≠ some b)
  (hval:∀ av,r.val=some av→RA fr.J φ' I' w' av v)
  (q1:∀ b,G b→w.heap.size ≤ b ∨ OwnB σ φ b) (q2:∀ b,I' b→I b ∨ w.heap.size ≤ b ∨ OwnB σ φ b)
  (q3:∀ id hv u b,r.wr.lookup id=some (some hv)→hv.owned=true→φ' id=some u→blk u=some b→w.heap.size ≤ b ∨ OwnB σ φ b)
  (q4:∀ id hv,r.wr.lookup id=some (some hv)→hv.plain=true):R fr (r.apply σ) φ' I' (a.put r.dst v) w':=by
 refine h.updD r hd hφ hI hfresh honly hG hGk himm hwr hown hsep1 hsep2 hval ?_
 obtain ⟨E,hE⟩:=h.deep
 have nob:∀ id b,E id b→¬ (w.heap.size ≤ b ∨ OwnB σ φ b):=by
  rintro id b hb (h1 | ⟨id',hv,u,h1,h2,h3,h4⟩)
  ·have:=(hE.priv id b hb).2.2.2; omega
  ·exact hE.sep1 id b hb id' hv u h1 h2 h3 h4
 have hlook:∀ id hv,(r.apply σ).heap id=some hv→r.wr.lookup id=some (some hv) ∨ (r.wr.lookup id=none∧σ.heap id=some hv):=by
  intro id hv he
  simp only [Rec.apply] at he
  cases hl:r.wr.lookup id with
  | none=>rw [hl] at he; exact .inr ⟨rfl,he⟩
  | some x=>rw [hl] at he; left; simpa using he
 refine ⟨E,hE.frame h.old hφ hI (fun b hb=>honly.block b (h.lt b (.inl hb)) fun hg=>(hG b hg).1 hb) (fun id b hb=>⟨honly.block b (hE.priv id b hb).2.2.2 fun hg=>nob id b hb (q1 b hg),fun hi=>?_⟩) honly.size ?_ ?_⟩
 ·rcases q2 b hi with h1 | h1
  ·exact (hE.priv id b hb).1 h1
  ·exact nob id b hb h1
 ·intro id hv hs hpl
  rcases hlook id hv hs with hl | ⟨hl,h0⟩
  ·rw [q4 id hv hl] at hpl; cases hpl
  ·exact ⟨h0,fun ho v b hv' hb=>honly.block b (h.heap_lt h0 ho hv' hb) (hGk id hv v b hl h0 ho hv' hb)⟩
 ·intro id hv v b hs ho hv' hb id' hb'
  rcases hlook id hv hs with hl | ⟨hl,h0⟩
  ·exact nob id' b hb' (q3 id hv v b hl ho hv' hb)
  ·obtain ⟨u,hu⟩:=h.old id hv h0
   have:=hφ id u hu
   rw [hv'] at this; cases this
   exact hE.sep1 id' b hb' id hv v h0 ho hu hb
theorem R.pure (h:R fr σ φ I a w) (r:Rec) {v:Value} (hd:∀ d,r.dst=some d→d < fr.N) (hw:r.wr=[]) (hn:r.new=[]) (hval:∀ av,r.val=some av→RA fr.J φ I w av v):R fr (r.apply σ) φ I (a.put r.dst v) w :=
 h.upd r (G:=fun _=>False) hd (fun _ _ h=>h) (fun _ h=>h) (fun id hf _=>h.fresh id hf) (OnlyP.refl _ _) (fun _ h=>h.elim) (fun _ _ _ _ _ _ _ _ _ h=>h)
  (fun b hb=>.inl hb) (fun id hv h=>by rw [hw] at h; cases h) (fun id hv u b h=>by rw [hw] at h; cases h) (fun id id' hv hv' u u' b h=>by rw [hw] at h; cases h)
  (fun id id' hv hv' u u' b _ h=>by rw [hw] at h; cases h) hval (fun _ h=>h.elim) (fun b hb=>.inl hb) (fun id hv u b h=>by rw [hw] at h; cases h) (fun id hv h=>by rw [hw] at h; cases h)
theorem R.drew (h:R fr σ φ I a w):R fr σ φ I a w.drew where
 nt:=h.nt
 dfr:=h.dfr
 env:=fun t av he=>let ⟨v,h1,h2⟩:=h.env t av he; ⟨v,h1,RA.mono (w:=w) (w':=w.drew) (fun _ _ h=>h) (fun _ h=>h) (fun _ _=>rfl) h2⟩
 heap:=fun id hv he=>RH.mono (w:=w) (w':=w.drew) (fun _ _ h=>h) (fun _ h=>h) (fun _ _=>rfl) (h.heap id hv he) (fun _ _ _ _ _=>rfl)
 fresh:=h.fresh
 own:=h.own
 sep:=h.sep
 only:=⟨h.only.os,h.only.tape,h.only.output,h.only.size,h.only.block⟩
 imm:=h.imm
 lt:=h.lt
 pin:=h.pin
 deep:=by
  obtain ⟨E,hE⟩:=h.deep
  exact ⟨E,hE.frame (w':=w.drew) h.old (fun _ _ h=>h) (fun _ h=>h) (fun _ _=>rfl) (fun id b hb=>⟨rfl,(hE.priv id b hb).1⟩) (Nat.le_refl _) (fun id hv h0 _=>⟨h0,fun _ _ _ _ _=>rfl⟩) fun id hv v b h1 h2 h3 h4 id' h5=>hE.sep1 id' b h5 id hv v h1 h2 h3 h4⟩
def ext (φ:Nat→Option Value) (id:Nat) (u:Value):Nat→Option Value:=fun i=>if i=id then some u else φ i
theorem ext_mono {φ:Nat→Option Value} {id:Nat} {u:Value} (hn:φ id=none):∀ i x,φ i=some x→ext φ id u i=some x:=by
 intro i x hx
 unfold ext
 by_cases e:i=id
 ·subst e; rw [hn] at hx; cases hx
 ·rw [if_neg e]; exact hx
theorem ext_same {φ:Nat→Option Value} {id:Nat} {u:Value}:ext φ id u id=some u:=by simp [ext]
theorem R.new (h:R fr σ φ I a w) (r:Rec) {v u:Value} {id:Nat} {hv:HV} (hd:∀ d,r.dst=some d→d < fr.N) (hw:r.wr=[(id,some hv)]) (hn:r.new=[id]) (hf:σ.fresh id)
  (honly:OnlyP (fun _=>False) w w') (hu:∀ b,blk u=some b→w.heap.size ≤ b)
  (hwr:RH fr.J (ext φ id u) I w' id hv) (hval:∀ av,r.val=some av→RA fr.J (ext φ id u) I w' av v) (hpl:hv.plain=true:=by rfl):R fr (r.apply σ) (ext φ id u) I (a.put r.dst v) w':=by
 have hno:=h.fresh id hf
 have hlk:∀ i x,r.wr.lookup i=some x→i=id∧x=some hv:=by
  intro i x hx
  rw [hw] at hx
  simp only [List.lookup] at hx
  by_cases e:i=id
  ·subst e; simp at hx; exact ⟨rfl,hx.symm⟩
  ·have:(i == id)=false:=by simp [e]
   rw [this] at hx; cases hx
 refine h.upd r (G:=fun _=>False) hd (ext_mono hno) (fun _ h=>h) (fun i hi hni=>?_) honly (fun _ h=>h.elim) (fun _ _ _ _ _ _ _ _ _ h=>h) (fun b hb=>.inl hb) ?_ ?_ ?_ ?_ hval (fun _ h=>h.elim) (fun b hb=>.inl hb) ?_ ?_
 ·have:i ≠ id:=fun e=>hni (by rw [hn,e]; simp)
  simp only [ext,if_neg this]
  exact h.fresh i hi
 ·intro i hv' hl
  obtain ⟨rfl,e⟩:=hlk i _ hl
  cases e
  exact hwr
 ·intro i hv' x b hl ho hx hb
  obtain ⟨rfl,e⟩:=hlk i _ hl
  rw [ext_same] at hx; cases hx
  have h1:=hu b hb
  refine ⟨fun hi=>?_,fun hj=>?_,.inr ?_⟩
  ·have:=h.lt b (.inl hi); omega
  ·have:=h.lt b (.inr hj); omega
  ·exact Nat.le_trans h.only.size h1
 ·intro i i' hv1 hv2 x x' b hl hl' h0 ho ho' hx hx' hb hb'
  obtain ⟨rfl,e⟩:=hlk i _ hl
  rw [ext_same] at hx; cases hx
  have h1:=hu b hb
  have:=h.heap_lt h0 ho' hx' hb'
  omega
 ·intro i i' hv1 hv2 x x' b hne hl hl' ho ho' hx hx' hb hb'
  obtain ⟨rfl,_⟩:=hlk i _ hl
  obtain ⟨rfl,_⟩:=hlk i' _ hl'
  exact hne rfl
 ·intro i hv' x b hl ho hx hb
  obtain ⟨rfl,e⟩:=hlk i _ hl
  rw [ext_same] at hx; cases hx
  exact .inl (hu b hb)
 ·intro i hv' hl
  obtain ⟨rfl,e⟩:=hlk i _ hl
  cases e
  exact hpl
theorem R.put (h:R fr σ φ I a w) (r:Rec) {v u:Value} {id b:Nat} {hv0 hv:HV} (hd:∀ d,r.dst=some d→d < fr.N) (hw:r.wr=[(id,some hv)]) (hn:r.new=[]) (h0:σ.heap id=some hv0) (ho:hv0.owned=true) (hu:φ id=some u) (hb:blk u=some b)
  (honly:OnlyP (·=b) w w') (hwr:RH fr.J φ I w' id hv) (hval:∀ av,r.val=some av→RA fr.J φ I w' av v) (hpl:hv.plain=true:=by rfl):R fr (r.apply σ) φ I (a.put r.dst v) w':=by
 have hlk:∀ i x,r.wr.lookup i=some x→i=id∧x=some hv:=by
  intro i x hx
  rw [hw] at hx
  simp only [List.lookup] at hx
  by_cases e:i=id
  ·subst e; simp at hx; exact ⟨rfl,hx.symm⟩
  ·have:(i == id)=false:=by simp [e]
   rw [this] at hx; cases hx
 have hlk0:∀ i,r.wr.lookup i=none→i ≠ id:=by
  rintro i hl rfl
  rw [hw] at hl
  simp [List.lookup] at hl
 refine h.upd r (G:=(·=b)) hd (fun _ _ h=>h) (fun _ h=>h) (fun i hi _=>h.fresh i hi) honly ?_ ?_ (fun b hb=>.inl hb) ?_ ?_ ?_ ?_ hval (fun b' hb'=>.inr ⟨id,hv0,u,h0,ho,hu,hb' ▸ hb⟩) (fun b hb=>.inl hb) ?_ ?_
 ·rintro b' rfl
  exact h.own id hv0 u b' h0 ho hu hb
 ·intro i hv' x b' hl h1 ho' hx hb' e
  subst e
  exact h.sep i id hv' hv0 x u b' (hlk0 i hl) h1 h0 ho' ho hx hu hb' hb
 ·intro i hv' hl
  obtain ⟨rfl,e⟩:=hlk i _ hl
  cases e
  exact hwr
 ·intro i hv' x b' hl ho' hx hb'
  obtain ⟨rfl,e⟩:=hlk i _ hl
  rw [hu] at hx; cases hx
  exact h.own i hv0 u b' h0 ho hu hb'
 ·intro i i' hv1 hv2 x x' b' hl hl' h1 ho1 ho2 hx hx' hb1 hb2
  obtain ⟨rfl,e⟩:=hlk i _ hl
  rw [hu] at hx; cases hx
  exact h.sep i i' hv0 hv2 u x' b' (fun e=>hlk0 i' hl' e.symm) h0 h1 ho ho2 hu hx' hb1 hb2
 ·intro i i' hv1 hv2 x x' b' hne hl hl' _ _ _ _ _ _
  obtain ⟨rfl,_⟩:=hlk i _ hl
  obtain ⟨rfl,_⟩:=hlk i' _ hl'
  exact hne rfl
 ·intro i hv' x b' hl ho' hx hb'
  obtain ⟨rfl,e⟩:=hlk i _ hl
  rw [hu] at hx; cases hx
  exact .inr ⟨i,hv0,u,h0,ho,hu,hb'⟩
 ·intro i hv' hl
  obtain ⟨rfl,e⟩:=hlk i _ hl
  cases e
  exact hpl
end
end Go.Ev
