/- A checked evaluator, part F: contracts of functions, calls. -/
import Derived.Test.YtjdlancjbdmkhaaQEvE
namespace Go.Ev
open Go.RowKit
set_option linter.unusedVariables false
def bufOf {α:Type} (xs:List α) (s:Nat):List (Option α):=xs.map some ++ List.replicate s none
def fullOf:Value→Value
 | .slice ad _ c=>.slice ad c c
 | v=>v
inductive OK where
 | val (k:Ty)
 | vec (e:TypeId) (k:Ty)
 | pair (a b:OK)
 | obj (o:OK)
 | any
@[reducible] def OD:OK→Type
 | .val k=>D k
 | .vec _ k=>List (D k)
 | .pair a b=>OD a×OD b
 | .obj o=>OD o
 | .any=>Unit
def osize:OK→Nat
 | .val k=>size k
 | .vec _ _=>1
 | .pair a b=>osize a + osize b
 | .obj _=>1
 | .any=>1
inductive PK where
 | val (g:Bool) (k:Ty)
 | iref (k:Ty)
 | clo (f:FuncId) (caps:List Ty)
 | own (g:Bool) (o:OK)
 | inout (o:OK)
 | slit
 | ownc (e:TypeId) (k:Ty)
 | iov (e:TypeId) (k:Ty)
@[reducible] def DTs:List Ty→Type
 | []=>Unit
 | k :: ks=>D k×DTs ks
@[reducible] def DP:PK→Type
 | .val _ k=>D k
 | .iref k=>D k
 | .clo _ ks=>DTs ks
 | .own _ o=>OD o
 | .inout o=>OD o
 | .slit=>Option Addr×Nat
 | .ownc _ k=>List (Option (D k))×Int
 | .iov _ k=>List (D k)
@[reducible] def DPs:List PK→Type
 | []=>Unit
 | p :: ps=>DP p×DPs ps
@[reducible] def DRs:List (Bool×OK)→Type
 | []=>Unit
 | r :: rs=>match rs with
  | []=>OD r.2
  | s :: rs=>OD r.2×DRs (s :: rs)
@[reducible] def outs:List PK→List (Bool×OK)
 | []=>[]
 | p :: ps=>match p with
  | .inout o=>(false,.obj o) :: outs ps
  | .iov e k=>(false,.vec e k) :: outs ps
  | _=>outs ps
def outVals:List PK→List Value→List Value
 | [],_=>[]
 | _ :: _,[]=>[]
 | p :: ps,v :: vs=>match p with
  | .inout _=>v :: outVals ps vs
  | .iov _ _=>v :: outVals ps vs
  | _=>outVals ps vs
@[reducible] def DRO (rs os:List (Bool×OK)):Type:=match os with
 | []=>DRs rs
 | o :: os=>match rs with
  | []=>DRs (o :: os)
  | r :: rs=>DRs (r :: rs)×DRs (o :: os)
def splitR:(rs os:List (Bool×OK))→DRO rs os→DRs rs×DRs os
 | _,[],y=>(y,())
 | [],_ :: _,y=>((),y)
 | _ :: _,_ :: _,y=>y
def joinR:(rs os:List (Bool×OK))→DRs rs→DRs os→DRO rs os
 | _,[],y,_=>y
 | [],_ :: _,_,z=>z
 | _ :: _,_ :: _,y,z=>(y,z)
theorem split_join:∀ (rs os:List (Bool×OK)) (y:DRs rs) (z:DRs os),splitR rs os (joinR rs os y z)=(y,z)
 | _,[],_,_=>rfl
 | [],_ :: _,_,_=>rfl
 | _ :: _,_ :: _,_,_=>rfl
structure Con where
 ps:List PK
 rs:List (Bool×OK)
 F:Nat→DPs ps→Option (DRO rs (outs ps))
def pack:Bool→List Value→Value→Prop
 | true,vs,v=>v=.agg vs.toArray
 | false,vs,v=>vs=[v]
def nowhere:Nat→Option Value:=fun _=>none
def Own (I:Nat→Prop) (w:World):(o:OK)→OD o→List Value→List Nat→Prop
 | .val k,x,vs,B=>RdC I w k x vs∧B=[]
 | .vec e k,xs,vs,B=>∃ v us,vs=[v]∧B=(blk v).toList∧w.ownsRow 0 e (size k) v (List.length xs) us∧lst (RdC I w k) xs us
 | .pair a b,x,vs,B=>∃ v1 v2 B1 B2,vs=v1 ++ v2∧B=B1 ++ B2∧Own I w a x.1 v1 B1∧Own I w b x.2 v2 B2
 | .obj o,x,vs,B=>∃ b us B' t,vs=[.pointer (some ⟨b,0,none⟩)]∧B=b :: B'∧w.heap[b]?=some (.cells us.toArray t (0,0))∧Own I w o x us B'∧∀ u ∈ us,u.oneCell'=true
 | .any,_,vs,B=>∃ v,vs=[v]∧v.oneCell'=true∧B=(blk v).toList
theorem Own.grow {I I':Nat→Prop} {w:World} (hI:∀ b,I b→I' b):∀ {o:OK} {x:OD o} {vs:List Value} {B:List Nat},Own I w o x vs B→Own I' w o x vs B
 | .val k,x,vs,B,⟨h,e⟩=>⟨h.mono hI (fun _ _=>rfl),e⟩
 | .vec e k,xs,vs,B,⟨v,us,h1,h2,h3,h4⟩=>⟨v,us,h1,h2,h3,h4.mono fun _ _ h=>h.mono hI (fun _ _=>rfl)⟩
 | .pair a b,x,vs,B,⟨v1,v2,B1,B2,h1,h2,h3,h4⟩=>⟨v1,v2,B1,B2,h1,h2,h3.grow hI,h4.grow hI⟩
 | .obj o,x,vs,B,⟨b,us,B',t,h1,h2,h3,h4,h5⟩=>⟨b,us,B',t,h1,h2,h3,h4.grow hI,h5⟩
 | .any,_,_,_,h=>h
def PreC (J I:Nat→Prop) (w:World):(ks:List Ty)→DTs ks→List Value→Prop
 | [],_,vs=>vs=[]
 | k :: ks,x,vs=>∃ v vs',vs=v :: vs'∧RC J nowhere I w (.ip k x.1 0) v∧PreC J I w ks x.2 vs'
def PreP (J I:Nat→Prop) (w:World):(p:PK)→DP p→Value→List Nat→Prop
 | .val g k,x,v,B=>(∃ vs,RdC I w k x vs∧pack g vs v)∧B=[]
 | .iref k,x,v,B=>RC J nowhere I w (.ip k x 0) v∧B=[]
 | .clo f ks,x,v,B=>(∃ vs,v=.func (.func f) #[] vs.toArray∧PreC J I w ks x vs)∧B=[]
 | .own g o,x,v,B=>∃ vs,Own I w o x vs B∧pack g vs v
 | .inout o,x,v,B=>Own I w (.obj o) x [v] B
 | .slit,x,v,B=>v=.slice x.1 0 x.2∧B=[]
 | .ownc e k,x,v,B=>B=(blk v).toList∧BufOK I w e k x.1 (fullOf v)∧((v=.slice none 0 0∧x.2=0) ∨ ∃ g,v=.slice (some ⟨g,0,none⟩) x.2.toNat x.1.length∧0 ≤ x.2∧x.2 ≤ (x.1.length:Int))
 | .iov e k,x,v,B=>Own I w (.vec e k) x [v] B
def PrePs (J I:Nat→Prop) (w:World):(ps:List PK)→DPs ps→List Value→List Nat→Prop
 | [],_,vs,B=>vs=[]∧B=[]
 | p :: ps,x,vs,B=>∃ v vs' B1 B2,vs=v :: vs'∧B=B1 ++ B2∧PreP J I w p x.1 v B1∧PrePs J I w ps x.2 vs' B2
def PostL (I:Nat→Prop) (w:World):(rs:List (Bool×OK))→DRs rs→List Value→List Nat→Prop
 | [],_,us,B=>us=[]∧B=[]
 | [r],y,us,B=>∃ v vs,us=[v]∧Own I w r.2 y vs B∧pack r.1 vs v
 | r :: s :: rs,y,us,B=>∃ v vs us' B1 B2,us=v :: us'∧B=B1 ++ B2∧(Own I w r.2 y.1 vs B1∧pack r.1 vs v)∧PostL I w (s :: rs) y.2 us' B2
theorem PostL.grow {I I':Nat→Prop} {w:World} (hI:∀ b,I b→I' b):∀ {rs:List (Bool×OK)} {y:DRs rs} {us:List Value} {B:List Nat},PostL I w rs y us B→PostL I' w rs y us B
 | [],_,_,_,h=>h
 | [r],y,us,B,⟨v,vs,h1,h2,h3⟩=>⟨v,vs,h1,h2.grow hI,h3⟩
 | r :: s :: rs,y,us,B,⟨v,vs,us',B1,B2,h1,h2,⟨h3,h4⟩,h5⟩=>⟨v,vs,us',B1,B2,h1,h2,⟨h3.grow hI,h4⟩,h5.grow hI⟩
def single:List Value→Value
 | [u]=>u
 | us=>.tuple us.toArray
def Post (c:Con) (y:DRO c.rs (outs c.ps)) (I:Nat→Prop) (vals:List Value) (B:List Nat) (w:World) (e:Ending) (w':World):Prop :=
 ∃ us I' B1 B2,e=.returned (single us)∧PostL I' w' c.rs (splitR c.rs (outs c.ps) y).1 us B1∧PostL I' w' (outs c.ps) (splitR c.rs (outs c.ps) y).2 (outVals c.ps vals) B2 ∧
  OnlyP (· ∈ B) w w'∧(∀ b,I b→I' b)∧(∀ b,I' b→(I b ∨ b ∈ B ∨ w.heap.size ≤ b)∧b < w'.heap.size)∧(B1 ++ B2).Nodup∧∀ b ∈ B1 ++ B2,¬ I' b∧(b ∈ B ∨ w.heap.size ≤ b)
def ConOK (P:Program) (f:FuncId) (c:Con):Prop :=
 (∀ (args:Array Value) (w:World),(callFunc f args).run P w=.ok (.enter f args) w) ∧
 ∀ n x y,c.F n x=some y→∀ (w:World) (J I:Nat→Prop) (vals:List Value) (B:List Nat),(∀ b,I b ∨ J b→b < w.heap.size)→B.Nodup→(∀ b ∈ B,¬ I b∧¬ J b∧b < w.heap.size)→PrePs J I w c.ps x vals B →
  Calls P f vals.toArray w fun e w'=>Post c y I vals B w e w'
def GOK (P:Program) (G:List (FuncId×Con)):Prop:=∀ f c,G.lookup f=some c→ConOK P f c
theorem BufOK.cap' {I:Nat→Prop} {w:World} {e:TypeId} {k:Ty} {bs:List (Option (D k))} {v:Value} (h:BufOK I w e k bs v) {g N cap:Nat} (hv:v=.slice (some ⟨g,0,none⟩) N cap):N=bs.length∧cap=bs.length∧True:=by
 rcases h with ⟨rfl,_⟩ | ⟨g',cur,e1,h1⟩
 ·cases hv
 ·rw [e1] at hv; cases hv; exact ⟨rfl,rfl,trivial⟩
def qInt (k:IntKind):CV→Option Int
 | .lit (.int k' n)=>if k'=k then some n else none
 | _=>none
def qBool:CV→Option Bool
 | .lit (.bool b)=>some b
 | _=>none
def qStr:CV→Option ByteArray
 | .lit (.string s)=>some s
 | _=>none
def isNil:CV→Bool
 | .lit (.slice none 0 0)=>true
 | _=>false
def qSeq (L:Bool) (σ:LS) (e:TypeId) (k:Ty) (c:CV):Option (List (D k)×List (Nat×Option HV)) :=
 match sliceOf σ c with
 | some ⟨e',k',xs,hp,none⟩=>if h:e'=e∧k'=k then some (h.2 ▸ xs,hp) else none
 | some ⟨e',k',xs,hp,some _⟩=>if h:L=true∧e'=e∧k'=k then some (h.2.2 ▸ xs,hp) else none
 | none=>if isNil c then some ([],[]) else none
def qFn:CV→Option (Option Nat)
 | .dyn g=>some g
 | .clo f caps=>match caps with
  | []=>some (some f)
  | _ :: _=>none
 | _=>none
def qMap (L:Bool) (σ:LS) (c:CV):Option (List (Int×Bool)×List (Nat×Option HV)):=match c with
 | .immm xs=>some (xs,[])
 | .own id=>match L with
  | true=>match σ.at id with
   | some (.map xs)=>some (xs,[(id,some (.map xs))])
   | _=>none
  | false=>none
 | _=>none
theorem qFn_ok {J I:Nat→Prop} {φ:Nat→Option Value} {w:World} {c:CV} {g:Option Nat} (h:qFn c=some g) {v:Value} (hv:RV J φ I w c v):v=fnV g:=by
 unfold qFn at h
 split at h
 ·cases h; exact hv
 ·split at h
  ·cases h
   obtain ⟨vs,e,h2⟩:=hv
   have:vs=[]:=by
    cases vs with
    | nil=>rfl
    | cons a l=>exact h2.elim
   subst this
   exact e
  ·cases h
 ·cases h
theorem qMap_hp {L:Bool} {σ:LS} {c:CV} {xs:List (Int×Bool)} {hp:List (Nat×Option HV)} (h:qMap L σ c=some (xs,hp)):∀ p ∈ hp,σ.at p.1=p.2:=by
 unfold qMap at h
 split at h
 ·cases h; simp
 ·split at h
  ·split at h
   ·rename_i hs
    cases h; simpa using hs
   ·cases h
  ·cases h
 ·cases h
theorem qInt_ok {k:IntKind} {c:CV} {n:Int} (h:qInt k c=some n):c=.lit (.int k n):=by
 unfold qInt at h
 split at h
 ·have h0:=ite_some h rfl
  clear h
  obtain ⟨rfl,h⟩:=h0
  cases h; rfl
 ·cases h
theorem qBool_ok {c:CV} {b:Bool} (h:qBool c=some b):c=.lit (.bool b):=by
 unfold qBool at h
 split at h
 ·cases h; rfl
 ·cases h
theorem qStr_ok {c:CV} {b:ByteArray} (h:qStr c=some b):c=.lit (.string b):=by
 unfold qStr at h
 split at h
 ·cases h; rfl
 ·cases h
theorem isNil_ok {c:CV} (h:isNil c=true):c=.lit (.slice none 0 0):=by
 unfold isNil at h
 split at h
 ·rfl
 ·cases h
theorem qSeq_hp {L:Bool} {σ:LS} {e:TypeId} {k:Ty} {c:CV} {xs:List (D k)} {hp:List (Nat×Option HV)} (h:qSeq L σ e k c=some (xs,hp)):∀ p ∈ hp,σ.at p.1=p.2:=by
 unfold qSeq at h
 split at h
 ·rename_i hs
  split at h
  ·cases h
   exact sliceOf_hp hs
  ·cases h
 ·rename_i hs
  split at h
  ·cases h
   exact sliceOf_hp hs
  ·cases h
 ·obtain ⟨_,h⟩:=ite_some h rfl
  cases h; simp
structure Lent (L:Bool) (fr:Fr) (σ:FS) (φ:Nat→Option Value) (I I':Nat→Prop) (ids:List Nat):Prop where
 base:∀ b,I b→I' b
 own:L=true→∀ b,MineIn fr σ φ ids b→I' b
theorem Lent.mono {L:Bool} {fr:Fr} {σ:FS} {φ:Nat→Option Value} {I I':Nat→Prop} {l m:List Nat} (h:Lent L fr σ φ I I' m) (hs:∀ i ∈ l,i ∈ m):Lent L fr σ φ I I' l :=
 ⟨h.base,fun hL b hb=>h.own hL b (hb.mono hs)⟩
theorem qSeq_ok {L:Bool} {σ:LS} {e:TypeId} {k:Ty} {c:CV} {xs:List (D k)} {hp:List (Nat×Option HV)} (h:qSeq L σ e k c=some (xs,hp)) {fr:Fr} {σ':FS} {φ:Nat→Option Value} {I I':Nat→Prop} {a:Act} {w:World} (hR:R fr σ' φ I a w)
  (hv:∀ p ∈ hp,σ'.heap p.1=p.2) (hI:Lent L fr σ' φ I I' (hp.map (·.1))) {v:Value} (h1:RV fr.J φ I w c v):RdC I' w (.seq e k) xs [v]:=by
 unfold qSeq at h
 split at h
 ·rename_i e' k' xs' hp' hs
  split at h
  ·rename_i hek
   obtain ⟨rfl,rfl⟩:=hek
   cases h
   obtain ⟨ad,cap,us,h3,h4,h5,h6⟩:=sliceOf_ok hs hR hv h1
   refine ⟨ad,cap,by rw [h3],h4,?_⟩
   rcases h6 with h6 | ⟨b,o,h7,h8,h9,_⟩
   ·exact .inl h6
   ·exact .inr ⟨b,o,us,h7,hI.base b (h9 rfl),h5.mono fun _ _ h=>h.mono hI.base (fun _ _=>rfl),h8⟩
  ·cases h
 ·rename_i e' k' xs' hp' id hs
  split at h
  ·rename_i hek
   obtain ⟨hL,rfl,rfl⟩:=hek
   cases h
   obtain ⟨ad,cap,us,h3,h4,h5,h6⟩:=sliceOf_ok hs hR hv h1
   refine ⟨ad,cap,by rw [h3],h4,?_⟩
   rcases h6 with h6 | ⟨b,o,h7,h8,_,h9⟩
   ·exact .inl h6
   ·refine .inr ⟨b,o,us,h7,hI.own hL b (.inr ?_),h5.mono fun _ _ h=>h.mono hI.base (fun _ _=>rfl),h8⟩
    have hm:=sliceOf_own hs
    exact ⟨id,_,v,List.mem_map.2 ⟨_,hm,rfl⟩,hv _ hm,rfl,(h9 id rfl).2,by rw [h3,h7]; rfl⟩
  ·cases h
 ·obtain ⟨hn,h⟩:=ite_some h rfl
  cases h
  rw [isNil_ok hn] at h1
  exact ⟨none,0,by rw [show v=_ from h1]; rfl,Nat.le_refl _,.inl rfl⟩
theorem qMap_ok {L:Bool} {σ:LS} {c:CV} {xs:List (Int×Bool)} {hp:List (Nat×Option HV)} (h:qMap L σ c=some (xs,hp)) {fr:Fr} {σ':FS} {φ:Nat→Option Value} {I I':Nat→Prop} {a:Act} {w:World} (hR:R fr σ' φ I a w)
  (hv:∀ p ∈ hp,σ'.heap p.1=p.2) (hI:Lent L fr σ' φ I I' (hp.map (·.1))) {v:Value} (h1:RV fr.J φ I w c v):RdC I' w .mset xs [v]:=by
 unfold qMap at h
 split at h
 ·cases h
  exact RdC.mono hI.base (fun _ _=>rfl) (show RdC I w .mset xs [v] from h1)
 ·rename_i id
  split at h
  case h_2=>cases h
  case h_1 =>
  split at h
  case h_2=>cases h
  case h_1 xs' hs =>
  cases h
  have hat:=hv _ List.mem_cons_self
  obtain ⟨b,es,cl,e1,e2,e3⟩:=hR.heap id _ hat
  have h1:φ id=some v:=h1.1
  rw [e1] at h1; cases h1
  exact ⟨_,rfl,.inr ⟨b,es,cl,rfl,hI.own rfl b (.inr ⟨id,_,_,by simp,hat,rfl,e1,rfl⟩),e2,e3⟩⟩
 ·cases h
def quote (L:Bool) (σ:LS):(k:Ty)→List CV→Option (D k×List CV×List (Nat×Option HV))
 | .int k,cs=>match cs with
  | c :: r=>(qInt k c).map fun n=>(n,r,[])
  | []=>none
 | .bool,cs=>match cs with
  | c :: r=>(qBool c).map fun n=>(n,r,[])
  | []=>none
 | .str,cs=>match cs with
  | c :: r=>(qStr c).map fun n=>(n,r,[])
  | []=>none
 | .unit,r=>some ((),r,[])
 | .pair a b,cs=>match quote L σ a cs with
  | some (x,r,hp)=>match quote L σ b r with
   | some (y,r',hp')=>some ((x,y),r',hp ++ hp')
   | none=>none
  | none=>none
 | .seq e k,cs=>match cs with
  | c :: r=>(qSeq L σ e k c).map fun p=>(p.1,r,p.2)
  | []=>none
 | .fn,cs=>match cs with
  | c :: r=>(qFn c).map fun n=>(n,r,[])
  | []=>none
 | .mset,cs=>match cs with
  | c :: r=>(qMap L σ c).map fun p=>(p.1,r,p.2)
  | []=>none
theorem quote_hp {L:Bool} {σ:LS}:∀ {k:Ty} {cs r:List CV} {x:D k} {hp:List (Nat×Option HV)},quote L σ k cs=some (x,r,hp)→∀ p ∈ hp,σ.at p.1=p.2
 | .int k,[],r,x,hp,h=>by cases h
 | .int k,c :: cs,r,x,hp,h=>by
  obtain ⟨n,_,e⟩:=Option.map_eq_some_iff.1 h
  cases e; simp
 | .bool,[],r,x,hp,h=>by cases h
 | .bool,c :: cs,r,x,hp,h=>by
  obtain ⟨n,_,e⟩:=Option.map_eq_some_iff.1 h
  cases e; simp
 | .str,[],r,x,hp,h=>by cases h
 | .str,c :: cs,r,x,hp,h=>by
  obtain ⟨n,_,e⟩:=Option.map_eq_some_iff.1 h
  cases e; simp
 | .unit,cs,r,x,hp,h=>by cases h; simp
 | .pair a b,cs,r,x,hp,h=>by
  unfold quote at h
  cases h1:quote L σ a cs with
  | none=>rw [h1] at h; cases h
  | some p =>
   obtain ⟨x1,r1,hp1⟩:=p
   simp only [h1] at h
   cases h2:quote L σ b r1 with
   | none=>rw [h2] at h; cases h
   | some p =>
    obtain ⟨x2,r2,hp2⟩:=p
    simp only [h2] at h
    cases h
    intro p hp
    rcases List.mem_append.1 hp with hp | hp
    ·exact quote_hp h1 p hp
    ·exact quote_hp h2 p hp
 | .seq e k,[],r,x,hp,h=>by cases h
 | .seq e k,c :: cs,r,x,hp,h=>by
  obtain ⟨⟨xs,hp'⟩,h1,e⟩:=Option.map_eq_some_iff.1 h
  cases e
  exact qSeq_hp h1
 | .fn,[],r,x,hp,h=>by cases h
 | .fn,c :: cs,r,x,hp,h=>by
  obtain ⟨n,_,e⟩:=Option.map_eq_some_iff.1 h
  cases e; simp
 | .mset,[],r,x,hp,h=>by cases h
 | .mset,c :: cs,r,x,hp,h=>by
  obtain ⟨⟨xs,hp'⟩,h1,e⟩:=Option.map_eq_some_iff.1 h
  cases e
  exact qMap_hp h1
theorem quote_ok {L:Bool} {σ:LS} {fr:Fr} {σ':FS} {φ:Nat→Option Value} {I I':Nat→Prop} {a:Act} {w:World} (hR:R fr σ' φ I a w) :
  ∀ {k:Ty} {cs r:List CV} {x:D k} {hp:List (Nat×Option HV)},quote L σ k cs=some (x,r,hp)→(∀ p ∈ hp,σ'.heap p.1=p.2)→Lent L fr σ' φ I I' (hp.map (·.1))→∀ {vs:List Value},all2 (RV fr.J φ I w) cs vs →
   ∃ v1 v2,vs=v1 ++ v2∧RdC I' w k x v1∧all2 (RV fr.J φ I w) r v2
 | .int k,[],r,x,hp,h,hv,hI,vs,ha=>by cases h
 | .int k,c :: cs,r,x,hp,h,hv,hI,[],ha=>ha.elim
 | .int k,c :: cs,r,x,hp,h,hv,hI,v :: vs,⟨h1,h2⟩=>by
  obtain ⟨n,hn,e⟩:=Option.map_eq_some_iff.1 h
  cases e
  rw [qInt_ok hn] at h1
  exact ⟨[v],vs,rfl,by rw [show v=_ from h1]; exact rfl,h2⟩
 | .bool,[],r,x,hp,h,hv,hI,vs,ha=>by cases h
 | .bool,c :: cs,r,x,hp,h,hv,hI,[],ha=>ha.elim
 | .bool,c :: cs,r,x,hp,h,hv,hI,v :: vs,⟨h1,h2⟩=>by
  obtain ⟨n,hn,e⟩:=Option.map_eq_some_iff.1 h
  cases e
  rw [qBool_ok hn] at h1
  exact ⟨[v],vs,rfl,by rw [show v=_ from h1]; exact rfl,h2⟩
 | .str,[],r,x,hp,h,hv,hI,vs,ha=>by cases h
 | .str,c :: cs,r,x,hp,h,hv,hI,[],ha=>ha.elim
 | .str,c :: cs,r,x,hp,h,hv,hI,v :: vs,⟨h1,h2⟩=>by
  obtain ⟨n,hn,e⟩:=Option.map_eq_some_iff.1 h
  cases e
  rw [qStr_ok hn] at h1
  exact ⟨[v],vs,rfl,by rw [show v=_ from h1]; exact rfl,h2⟩
 | .unit,cs,r,x,hp,h,hv,hI,vs,ha=>by
  cases h
  exact ⟨[],vs,rfl,rfl,ha⟩
 | .pair a b,cs,r,x,hp,h,hv,hI,vs,ha=>by
  unfold quote at h
  cases h1:quote L σ a cs with
  | none=>rw [h1] at h; cases h
  | some p =>
   obtain ⟨x1,r1,hp1⟩:=p
   simp only [h1] at h
   cases h2:quote L σ b r1 with
   | none=>rw [h2] at h; cases h
   | some p =>
    obtain ⟨x2,r2,hp2⟩:=p
    simp only [h2] at h
    cases h
    obtain ⟨v1,v2,rfl,h3,h4⟩:=quote_ok hR h1 (fun p hp=>hv p (List.mem_append_left _ hp)) (hI.mono fun i h=>by rw [List.map_append]; exact List.mem_append_left _ h) ha
    obtain ⟨v3,v4,rfl,h5,h6⟩:=quote_ok hR h2 (fun p hp=>hv p (List.mem_append_right _ hp)) (hI.mono fun i h=>by rw [List.map_append]; exact List.mem_append_right _ h) h4
    exact ⟨v1 ++ v3,v4,by simp,⟨v1,v3,rfl,h3,h5⟩,h6⟩
 | .seq e k,[],r,x,hp,h,hv,hI,vs,ha=>by cases h
 | .seq e k,c :: cs,r,x,hp,h,hv,hI,[],ha=>ha.elim
 | .seq e k,c :: cs,r,x,hp,h,hv,hI,v :: vs,⟨h1,h2⟩=>by
  obtain ⟨⟨xs,hp'⟩,h3,e1⟩:=Option.map_eq_some_iff.1 h
  cases e1
  exact ⟨[v],vs,rfl,qSeq_ok h3 hR hv hI h1,h2⟩
 | .fn,[],r,x,hp,h,hv,hI,vs,ha=>by cases h
 | .fn,c :: cs,r,x,hp,h,hv,hI,[],ha=>ha.elim
 | .fn,c :: cs,r,x,hp,h,hv,hI,v :: vs,⟨h1,h2⟩=>by
  obtain ⟨n,hn,e⟩:=Option.map_eq_some_iff.1 h
  cases e
  exact ⟨[v],vs,rfl,congrArg (fun v=>[v]) (qFn_ok hn h1),h2⟩
 | .mset,[],r,x,hp,h,hv,hI,vs,ha=>by cases h
 | .mset,c :: cs,r,x,hp,h,hv,hI,[],ha=>ha.elim
 | .mset,c :: cs,r,x,hp,h,hv,hI,v :: vs,⟨h1,h2⟩=>by
  obtain ⟨⟨xs,hp'⟩,h3,e1⟩:=Option.map_eq_some_iff.1 h
  cases e1
  exact ⟨[v],vs,rfl,qMap_ok h3 hR hv hI h1,h2⟩
def quoteAll (L:Bool) (σ:LS) (k:Ty) (cs:List CV):Option (D k×List (Nat×Option HV)) :=
 match quote L σ k cs with
 | some (x,[],hp)=>some (x,hp)
 | _=>none
theorem quoteAll_hp {L:Bool} {σ:LS} {k:Ty} {cs:List CV} {x:D k} {hp:List (Nat×Option HV)} (h:quoteAll L σ k cs=some (x,hp)):∀ p ∈ hp,σ.at p.1=p.2:=by
 unfold quoteAll at h
 split at h
 ·rename_i hq
  cases h
  exact quote_hp hq
 ·cases h
theorem quoteAll_ok {L:Bool} {σ:LS} {k:Ty} {cs:List CV} {x:D k} {hp:List (Nat×Option HV)} (h:quoteAll L σ k cs=some (x,hp)) {fr:Fr} {σ':FS} {φ:Nat→Option Value} {I I':Nat→Prop} {a:Act} {w:World} (hR:R fr σ' φ I a w)
  (hv:∀ p ∈ hp,σ'.heap p.1=p.2) (hI:Lent L fr σ' φ I I' (hp.map (·.1))) {vs:List Value} (ha:all2 (RV fr.J φ I w) cs vs):RdC I' w k x vs:=by
 unfold quoteAll at h
 split at h
 ·rename_i hq
  cases h
  obtain ⟨v1,v2,rfl,h1,h2⟩:=quote_ok hR hq hv hI ha
  match v2,h2 with
  | [],_=>simpa using h1
 ·cases h
def quoteR (L:Bool) (σ:LS) (k:Ty) (c:CV):Option (D k×List (Nat×Option HV)) :=
 match readAt σ c (size k) with
 | some (cs,hp)=>match quoteAll L σ k cs with
  | some (x,hp')=>some (x,hp ++ hp')
  | none=>none
 | none=>none
theorem quoteR_hp {L:Bool} {σ:LS} {k:Ty} {c:CV} {x:D k} {hp:List (Nat×Option HV)} (h:quoteR L σ k c=some (x,hp)):∀ p ∈ hp,σ.at p.1=p.2:=by
 unfold quoteR at h
 split at h
 case h_2=>cases h
 case h_1 cs hp1 hr =>
 split at h
 case h_2=>cases h
 case h_1 x' hp2 hq =>
 cases h
 intro p hp
 rcases List.mem_append.1 hp with hp | hp
 ·exact readAt_hp hr p hp
 ·exact quoteAll_hp hq p hp
theorem quoteR_ok {L:Bool} {σ:LS} {k:Ty} {c:CV} {x:D k} {hp:List (Nat×Option HV)} (h:quoteR L σ k c=some (x,hp)) {fr:Fr} {σ':FS} {φ:Nat→Option Value} {I I':Nat→Prop} {a:Act} {w:World} (hR:R fr σ' φ I a w)
  (hv:∀ p ∈ hp,σ'.heap p.1=p.2) (hI:Lent L fr σ' φ I I' (hp.map (·.1))) {u:Value} (hu:RV fr.J φ I w c u):RC (MineIn fr σ' φ (hp.map (·.1))) nowhere I' w (.ip k x 0) u:=by
 unfold quoteR at h
 split at h
 case h_2=>cases h
 case h_1 cs hp1 hr =>
 split at h
 case h_2=>cases h
 case h_1 x' hp2 hq =>
 cases h
 obtain ⟨b,o,vs,rfl,h1,h2,h3⟩:=readAt_ok hr hR (fun p hp=>hv p (List.mem_append_left _ hp)) hu
 exact ⟨b,o,vs,rfl,h3.imp (hI.base b) (MineIn.mono fun id h=>by rw [List.map_append]; exact List.mem_append_left _ h),quoteAll_ok hq hR (fun p hp=>hv p (List.mem_append_right _ hp)) (hI.mono fun i h=>by rw [List.map_append]; exact List.mem_append_right _ h) h1,h2⟩
def quoteC (L:Bool) (σ:LS):(ks:List Ty)→List Cp→Option (DTs ks×List (Nat×Option HV))
 | [],[]=>some ((),[])
 | k :: ks,c :: cs=>match quoteR L σ k c.cv,quoteC L σ ks cs with
  | some (x,hp),some (y,hp')=>some ((x,y),hp ++ hp')
  | _,_=>none
 | _,_=>none
theorem quoteC_hp {L:Bool} {σ:LS}:∀ {ks:List Ty} {cs:List Cp} {x:DTs ks} {hp:List (Nat×Option HV)},quoteC L σ ks cs=some (x,hp)→∀ p ∈ hp,σ.at p.1=p.2
 | [],[],_,_,h=>by cases h; simp
 | [],_ :: _,_,_,h=>by cases h
 | _ :: _,[],_,_,h=>by cases h
 | k :: ks,c :: cs,x,hp,h=>by
  unfold quoteC at h
  split at h
  ·rename_i h1 h2
   cases h
   intro p hp
   rcases List.mem_append.1 hp with hp | hp
   ·exact quoteR_hp h1 p hp
   ·exact quoteC_hp h2 p hp
  ·cases h
theorem RC.lend {J J' I:Nat→Prop} {φ:Nat→Option Value} {w:World} (hJ:∀ b,J b→J' b) {k:Ty} {x:D k} {off:Nat} {u:Value}:RC J φ I w (.ip k x off) u→RC J' φ I w (.ip k x off) u
 | ⟨b,o,vs,e,hb,h⟩=>⟨b,o,vs,e,hb.imp id (hJ b),h⟩
theorem PreC.lend {J J' I:Nat→Prop} {w:World} (hJ:∀ b,J b→J' b):∀ {ks:List Ty} {x:DTs ks} {vs:List Value},PreC J I w ks x vs→PreC J' I w ks x vs
 | [],_,_,h=>h
 | k :: ks,x,vs,⟨v,vs',h1,h2,h3⟩=>⟨v,vs',h1,RC.lend hJ h2,h3.lend hJ⟩
theorem quoteC_ok {L:Bool} {σ:LS} {fr:Fr} {σ':FS} {φ:Nat→Option Value} {I I':Nat→Prop} {a:Act} {w:World} (hR:R fr σ' φ I a w) :
  ∀ {ks:List Ty} {cs:List Cp} {x:DTs ks} {hp:List (Nat×Option HV)},quoteC L σ ks cs=some (x,hp)→(∀ p ∈ hp,σ'.heap p.1=p.2)→Lent L fr σ' φ I I' (hp.map (·.1))→∀ {vs:List Value},all2 (RC fr.J φ I w) cs vs→PreC (MineIn fr σ' φ (hp.map (·.1))) I' w ks x vs
 | [],[],_,_,h,_,_,[],_=>rfl
 | [],[],_,_,h,_,_,_ :: _,ha=>ha.elim
 | [],_ :: _,_,_,h,_,_,_,_=>by cases h
 | _ :: _,[],_,_,h,_,_,_,_=>by cases h
 | k :: ks,c :: cs,x,hp,h,hv,hI,[],ha=>ha.elim
 | k :: ks,c :: cs,x,hp,h,hv,hI,v :: vs,⟨h3,h4⟩=>by
  unfold quoteC at h
  split at h
  ·rename_i h1 h2
   cases h
   exact ⟨v,vs,rfl,RC.lend (fun b=>MineIn.mono fun id h=>by rw [List.map_append]; exact List.mem_append_left _ h) (quoteR_ok h1 hR (fun p hp=>hv p (List.mem_append_left _ hp)) (hI.mono fun i h=>by rw [List.map_append]; exact List.mem_append_left _ h) h3.cv),(quoteC_ok hR h2 (fun p hp=>hv p (List.mem_append_right _ hp)) (hI.mono fun i h=>by rw [List.map_append]; exact List.mem_append_right _ h) h4).lend (fun b=>MineIn.mono fun id h=>by rw [List.map_append]; exact List.mem_append_right _ h)⟩
  ·cases h
theorem RSV.pack {J I:Nat→Prop} {φ:Nat→Option Value} {w:World}:∀ {g:Bool} {cs:List CV} {v:Value},RSV J φ I w g cs v→∃ vs,all2 (RV J φ I w) cs vs∧pack g vs v
 | true,cs,v,⟨vs,e,h⟩=>⟨vs,h,e⟩
 | false,[c],v,h=>⟨[v],⟨h,trivial⟩,rfl⟩
theorem RSV.mk {J I:Nat→Prop} {φ:Nat→Option Value} {w:World}:∀ {g:Bool} {cs:List CV} {vs:List Value} {v:Value},all2 (RV J φ I w) cs vs→Go.Ev.pack g vs v→RSV J φ I w g cs v
 | true,cs,vs,v,h,e=>⟨vs,e,h⟩
 | false,[c],[u],v,h,e=>by cases e; exact h.1
 | false,[],vs,v,h,e=>by rw [show vs=[v] from e] at h; exact h.elim
 | false,c :: d :: cs,vs,v,h,e=>by rw [show vs=[v] from e] at h; exact h.2.elim
 | false,[c],[],v,h,e=>h.elim
 | false,[c],_ :: _ :: _,v,h,e=>h.2.elim
def nodupB:List Nat→Bool
 | []=>true
 | x :: l=>!(l.contains x) && nodupB l
theorem nodupB_ok:∀ {l:List Nat},nodupB l=true→l.Nodup
 | [],_=>List.nodup_nil
 | x :: l,h=>by
  simp only [nodupB,Bool.and_eq_true,Bool.not_eq_true'] at h
  exact List.nodup_cons.2 ⟨by simpa using h.1,nodupB_ok h.2⟩
def quoV (σ:LS) (e:TypeId) (k:Ty) (c:CV):Option (List (D k)×List Nat×List (Nat×Option HV)) :=
 match c with
 | .own id=>match σ.at id with
  | some (.row e' k' xs)=>if h:e'=e∧k'=k then some (h.2 ▸ xs,[id],[(id,some (.row e' k' xs))]) else none
  | _=>none
 | c=>if isNil c then some ([],[],[]) else none
def objOf (σ:LS):CV→Option (Nat×List CV)
 | .ptr id off=>if off=0 then (match σ.at id with
  | some (.cells cs)=>some (id,cs)
  | _=>none) else none
 | _=>none
def quo (σ:LS):(o:OK)→List CV→Option (OD o×List CV×List Nat×List (Nat×Option HV))
 | .val k,cs=>match quote false σ k cs with
  | some (x,r,hp)=>some (x,r,[],hp)
  | none=>none
 | .vec e k,cs=>match cs with
  | c :: r=>match quoV σ e k c with
   | some (x,ids,hp)=>some (x,r,ids,hp)
   | none=>none
  | []=>none
 | .pair a b,cs=>match quo σ a cs with
  | some (x,r,ids,hp)=>match quo σ b r with
   | some (y,r',ids',hp')=>some ((x,y),r',ids ++ ids',hp ++ hp')
   | none=>none
  | none=>none
 | .obj o,cs=>match cs with
  | c :: r=>match objOf σ c with
   | some (id,cs')=>match quo σ o cs' with
    | some (x,[],ids,hp)=>some (x,r,id :: ids,(id,some (.cells cs')) :: hp)
    | _=>none
   | none=>none
  | []=>none
 | .any,cs=>match cs with
  | c :: r=>match objOf σ c with
   | some (id,cs')=>some ((),r,[id],[(id,some (.cells cs'))])
   | none=>match c with
    | .lit (.pointer none)=>some ((),r,[],[])
    | _=>none
  | []=>none
def blks (φ:Nat→Option Value) (ids:List Nat):List Nat:=ids.filterMap fun id=>(φ id).bind blk
theorem blks_append (φ:Nat→Option Value) (l m:List Nat):blks φ (l ++ m)=blks φ l ++ blks φ m:=List.filterMap_append
theorem mem_blks {φ:Nat→Option Value} {ids:List Nat} {b:Nat} (h:b ∈ blks φ ids):∃ id ∈ ids,∃ v,φ id=some v∧blk v=some b:=by
 obtain ⟨id,h1,h2⟩:=List.mem_filterMap.1 h
 obtain ⟨v,h3,h4⟩:=Option.bind_eq_some_iff.1 h2
 exact ⟨id,h1,v,h3,h4⟩
def Has (σ:FS) (ids:List Nat):Prop:=∀ id ∈ ids,∃ hv,σ.heap id=some hv∧hv.owned=true
theorem quoV_cases {σ:LS} {e:TypeId} {k:Ty} {c:CV} {xs:List (D k)} {ids:List Nat} {hp:List (Nat×Option HV)} (h:quoV σ e k c=some (xs,ids,hp)) :
  (∃ id,c=.own id∧σ.at id=some (.row e k xs)∧hp=[(id,some (.row e k xs))]∧ids=[id]) ∨ (c=.lit (.slice none 0 0)∧xs=[]∧hp=[]∧ids=[]):=by
 cases c with
 | own id =>
  left
  simp only [quoV] at h
  cases hh:σ.at id with
  | none=>rw [hh] at h; cases h
  | some hv =>
   rw [hh] at h
   cases hv with
   | row e' k' xs' =>
    simp only at h
    split at h
    ·rename_i hek
     obtain ⟨rfl,rfl⟩:=hek
     cases h
     exact ⟨id,rfl,hh,rfl,rfl⟩
    ·cases h
   | cells cs=>cases h
   | buf e k bs=>cases h
   | nest e k0 e1 k1 xs lk=>cases h
   | lock r ver st=>cases h
   | peek r i ver=>cases h
   | pend r e1 k1 ys=>cases h
   | map xs=>cases h
   | frozen e' k' xs'=>cases h
 | dyn g=>simp [quoV,isNil] at h
 | immm xs=>simp [quoV,isNil] at h
 | lit v =>
  right
  simp only [quoV] at h
  obtain ⟨hn,h⟩:=ite_some h rfl
  cases h
  exact ⟨isNil_ok hn,rfl,rfl,rfl⟩
 | ptr id off=>simp [quoV,isNil] at h
 | iptr k x off=>simp [quoV,isNil] at h
 | eptr id sz i off=>simp [quoV,isNil] at h
 | imm e k xs=>simp [quoV,isNil] at h
 | clo f caps=>simp [quoV,isNil] at h
 | view id sz lo n=>simp [quoV,isNil] at h
theorem objOf_ok {σ:LS} {c:CV} {id:Nat} {cs:List CV} (h:objOf σ c=some (id,cs)):c=.ptr id 0∧σ.at id=some (.cells cs):=by
 unfold objOf at h
 split at h
 case h_2=>cases h
 case h_1 id' off =>
 have h0:=ite_some h rfl
 clear h
 obtain ⟨rfl,h⟩:=h0
 split at h
 ·rename_i h1
  cases h
  exact ⟨rfl,h1⟩
 ·cases h
theorem quo_hp {σ:LS}:∀ {o:OK} {cs r:List CV} {x:OD o} {ids:List Nat} {hp:List (Nat×Option HV)},quo σ o cs=some (x,r,ids,hp)→∀ p ∈ hp,σ.at p.1=p.2
 | .val k,cs,r,x,ids,hp,h=>by
  unfold quo at h
  split at h
  ·rename_i hq
   cases h
   exact quote_hp hq
  ·cases h
 | .vec e k,[],r,x,ids,hp,h=>by cases h
 | .vec e k,c :: cs,r,x,ids,hp,h=>by
  unfold quo at h
  simp only at h
  split at h
  ·rename_i hq
   cases h
   rcases quoV_cases hq with ⟨id,rfl,h1,rfl,rfl⟩ | ⟨rfl,rfl,rfl,rfl⟩
   ·simpa using h1
   ·simp
  ·cases h
 | .pair a b,cs,r,x,ids,hp,h=>by
  unfold quo at h
  split at h
  case h_2=>cases h
  case h_1 x1 r1 ids1 hp1 h1 =>
  split at h
  case h_2=>cases h
  case h_1 x2 r2 ids2 hp2 h2 =>
  cases h
  intro p hp
  rcases List.mem_append.1 hp with hp | hp
  ·exact quo_hp h1 p hp
  ·exact quo_hp h2 p hp
 | .any,[],r,x,ids,hp,h=>by cases h
 | .any,c :: cs,r,x,ids,hp,h=>by
  unfold quo at h
  simp only at h
  split at h
  ·rename_i h1
   cases h
   simpa using (objOf_ok h1).2
  ·split at h
   ·cases h; simp
   ·cases h
 | .obj o,[],r,x,ids,hp,h=>by cases h
 | .obj o,c :: cs,r,x,ids,hp,h=>by
  unfold quo at h
  simp only at h
  split at h
  case h_2=>cases h
  case h_1 id cs' h1 =>
  split at h
  case h_2=>cases h
  case h_1 x1 ids1 hp1 h2 =>
  cases h
  intro p hp
  rcases List.mem_cons.1 hp with rfl | hp
  ·exact (objOf_ok h1).2
  ·exact quo_hp h2 p hp
theorem quo_ok {σ:LS} {fr:Fr} {σ':FS} {φ:Nat→Option Value} {I:Nat→Prop} {a:Act} {w:World} (hR:R fr σ' φ I a w) :
  ∀ {o:OK} {cs r:List CV} {x:OD o} {ids:List Nat} {hp:List (Nat×Option HV)},quo σ o cs=some (x,r,ids,hp)→(∀ p ∈ hp,σ'.heap p.1=p.2)→∀ {vs:List Value},all2 (RV fr.J φ I w) cs vs →
   ∃ v1 v2,vs=v1 ++ v2∧Own I w o x v1 (blks φ ids)∧all2 (RV fr.J φ I w) r v2∧Has σ' ids
 | .val k,cs,r,x,ids,hp,h,hv,vs,ha=>by
  unfold quo at h
  split at h
  ·rename_i hq
   cases h
   obtain ⟨v1,v2,h1,h2,h3⟩:=quote_ok hR hq hv ⟨fun _ h=>h,fun h=>by cases h⟩ ha
   exact ⟨v1,v2,h1,⟨h2,rfl⟩,h3,by simp [Has]⟩
  ·cases h
 | .vec e k,[],r,x,ids,hp,h,hv,vs,ha=>by cases h
 | .vec e k,c :: cs,r,x,ids,hp,h,hv,[],ha=>ha.elim
 | .vec e k,c :: cs,r,x,ids,hp,h,hv,v :: vs,⟨h1,h2⟩=>by
  unfold quo at h
  simp only at h
  split at h
  ·rename_i hq
   cases h
   refine ⟨[v],vs,rfl,?_,h2,?_⟩
   ·rcases quoV_cases hq with ⟨id,rfl,h3,rfl,rfl⟩ | ⟨rfl,rfl,rfl,rfl⟩
    ·obtain ⟨v',us,h4,h5,h6⟩:=hR.heap id _ (hv _ List.mem_cons_self)
     have h1:φ id=some v:=h1.1
     rw [h1] at h4; cases h4
     refine ⟨v,us,rfl,?_,h5,h6⟩
     simp only [blks,List.filterMap_cons,List.filterMap_nil,h1,Option.bind_some]
     cases blk v <;> rfl
    ·rw [show v=_ from h1]
     exact ⟨_,[],rfl,rfl,World.ownsRow_nil _ _ _ _,rfl⟩
   ·rcases quoV_cases hq with ⟨id,rfl,h3,rfl,rfl⟩ | ⟨rfl,rfl,rfl,rfl⟩
    ·intro i hi
     simp only [List.mem_singleton] at hi
     subst hi
     exact ⟨_,hv _ List.mem_cons_self,rfl⟩
    ·simp [Has]
  ·cases h
 | .pair a b,cs,r,x,ids,hp,h,hv,vs,ha=>by
  unfold quo at h
  split at h
  case h_2=>cases h
  case h_1 x1 r1 ids1 hp1 h1 =>
  split at h
  case h_2=>cases h
  case h_1 x2 r2 ids2 hp2 h2 =>
  cases h
  obtain ⟨v1,v2,rfl,h3,h4,h5⟩:=quo_ok hR h1 (fun p hp=>hv p (List.mem_append_left _ hp)) ha
  obtain ⟨v3,v4,rfl,h6,h7,h8⟩:=quo_ok hR h2 (fun p hp=>hv p (List.mem_append_right _ hp)) h4
  refine ⟨v1 ++ v3,v4,by simp,⟨v1,v3,_,_,rfl,blks_append _ _ _,h3,h6⟩,h7,fun id hid=>?_⟩
  rcases List.mem_append.1 hid with hid | hid
  ·exact h5 id hid
  ·exact h8 id hid
 | .any,[],r,x,ids,hp,h,hv,vs,ha=>by cases h
 | .any,c :: cs,r,x,ids,hp,h,hv,[],ha=>ha.elim
 | .any,c :: cs,r,x,ids,hp,h,hv,v :: vs,⟨h1,h2⟩=>by
  unfold quo at h
  simp only at h
  split at h
  ·rename_i id cs' h3
   cases h
   obtain ⟨rfl,_⟩:=objOf_ok h3
   have hh:=hv _ List.mem_cons_self
   obtain ⟨b,us,t,h5,h6,h7,h8⟩:=hR.heap id _ hh
   have h1:pv φ id 0=some v:=h1
   simp only [pv,h5,Option.some.injEq] at h1
   subst h1
   refine ⟨[_],vs,rfl,⟨_,rfl,rfl,?_⟩,h2,fun i hi=>?_⟩
   ·simp [blks,h5,blk]
   ·rw [List.mem_singleton.1 hi]
    exact ⟨_,hh,rfl⟩
  ·split at h
   ·cases h
    rw [show v=_ from h1]
    exact ⟨[_],vs,rfl,⟨_,rfl,rfl,rfl⟩,h2,fun i hi=>by simp at hi⟩
   ·cases h
 | .obj o,[],r,x,ids,hp,h,hv,vs,ha=>by cases h
 | .obj o,c :: cs,r,x,ids,hp,h,hv,[],ha=>ha.elim
 | .obj o,c :: cs,r,x,ids,hp,h,hv,v :: vs,⟨h1,h2⟩=>by
  unfold quo at h
  simp only at h
  split at h
  case h_2=>cases h
  case h_1 id cs' h3 =>
  split at h
  case h_2=>cases h
  case h_1 x1 ids1 hp1 h4 =>
  cases h
  obtain ⟨rfl,_⟩:=objOf_ok h3
  have hh:=hv _ List.mem_cons_self
  obtain ⟨b,us,t,h5,h6,h7,h8⟩:=hR.heap id _ hh
  obtain ⟨v1,v2,h9,h10,h11,h12⟩:=quo_ok hR h4 (fun p hp=>hv p (List.mem_cons_of_mem _ hp)) h7
  have h1:pv φ id 0=some v:=h1
  simp only [pv,h5,Option.some.injEq] at h1
  match v2,h11 with
  | [],_ =>
   rw [List.append_nil] at h9
   subst h9
   refine ⟨[v],vs,rfl,⟨b,us,blks φ ids1,t,by rw [← h1],?_,h6,h10,h8⟩,h2,fun i hi=>?_⟩
   ·simp only [blks,List.filterMap_cons,h5,Option.bind_some,blk]
   ·rcases List.mem_cons.1 hi with rfl | hi
    ·exact ⟨_,hh,rfl⟩
    ·exact h12 i hi
def quoAll (σ:LS) (o:OK) (cs:List CV):Option (OD o×List Nat×List (Nat×Option HV)) :=
 match quo σ o cs with
 | some (x,[],ids,hp)=>some (x,ids,hp)
 | _=>none
theorem quoAll_hp {σ:LS} {o:OK} {cs:List CV} {x:OD o} {ids:List Nat} {hp:List (Nat×Option HV)} (h:quoAll σ o cs=some (x,ids,hp)):∀ p ∈ hp,σ.at p.1=p.2:=by
 unfold quoAll at h
 split at h
 ·rename_i hq
  cases h
  exact quo_hp hq
 ·cases h
theorem quoAll_ok {σ:LS} {o:OK} {cs:List CV} {x:OD o} {ids:List Nat} {hp:List (Nat×Option HV)} (h:quoAll σ o cs=some (x,ids,hp)) {fr:Fr} {σ':FS} {φ:Nat→Option Value} {I:Nat→Prop} {a:Act} {w:World} (hR:R fr σ' φ I a w)
  (hv:∀ p ∈ hp,σ'.heap p.1=p.2) {vs:List Value} (ha:all2 (RV fr.J φ I w) cs vs):Own I w o x vs (blks φ ids)∧Has σ' ids:=by
 unfold quoAll at h
 split at h
 ·rename_i hq
  cases h
  obtain ⟨v1,v2,rfl,h1,h2,h3⟩:=quo_ok hR hq hv ha
  match v2,h2 with
  | [],_=>exact ⟨by simpa using h1,h3⟩
 ·cases h
theorem R.nodup {fr:Fr} {σ:FS} {φ:Nat→Option Value} {I:Nat→Prop} {a:Act} {w:World} (hR:R fr σ φ I a w):∀ {ids:List Nat},ids.Nodup→Has σ ids→(blks φ ids).Nodup
 | [],_,_=>List.nodup_nil
 | id :: ids,hn,hh=>by
  obtain ⟨h1,h2⟩:=List.nodup_cons.1 hn
  have ih:=R.nodup hR h2 fun i hi=>hh i (List.mem_cons_of_mem _ hi)
  cases hb:(φ id).bind blk with
  | none=>simp only [blks,List.filterMap_cons,hb]; exact ih
  | some b =>
   simp only [blks,List.filterMap_cons,hb]
   refine List.nodup_cons.2 ⟨fun hm=>?_,ih⟩
   obtain ⟨v,h3,h4⟩:=Option.bind_eq_some_iff.1 hb
   obtain ⟨id',h5,v',h6,h7⟩:=mem_blks (φ:=φ) (ids:=ids) hm
   obtain ⟨hv,h8,h9⟩:=hh id List.mem_cons_self
   obtain ⟨hv',h10,h11⟩:=hh id' (List.mem_cons_of_mem _ h5)
   exact hR.sep id id' hv hv' v v' b (fun e=>h1 (e ▸ h5)) h8 h10 h9 h11 h3 h6 h4 h7
def quoteP (L:Bool) (σ:LS):(p:PK)→AV→Option (DP p×List Nat×List Nat×List (Nat×Option HV))
 | .val g k,.sv g' cs=>if g'=g then (match quoteAll L σ k cs with
  | some (x,hp)=>some (x,[],cond L (hp.map (·.1)) [],hp)
  | none=>none) else none
 | .iref k,.sv false [c]=>match quoteR L σ k c with
  | some (x,hp)=>some (x,[],hp.map (·.1),hp)
  | none=>none
 | .clo f ks,.sv false [.clo f' cs]=>if f'=f then (match quoteC L σ ks cs with
  | some (x,hp)=>some (x,[],hp.map (·.1),hp)
  | none=>none) else none
 | .own g o,.sv g' cs=>if g'=g then (match quoAll σ o cs with
  | some (x,ids,hp)=>some (x,ids,[],hp)
  | none=>none) else none
 | .inout o,.sv false cs=>match quoAll σ (.obj o) cs with
  | some (x,ids,hp)=>some (x,ids,[],hp)
  | none=>none
 | .ownc e k,.sv false [.view id sz lo n]=>match σ.at id with
  | some (.buf e' k' bs)=>if h:e'=e∧k'=k∧sz=size k then (if lo=0 then some ((h.2.1 ▸ bs,n),[id],[],[(id,some (.buf e' k' bs))]) else none) else none
  | _=>none
 | .iov e k,.sv false [.own id]=>match σ.at id with
  | some (.row e' k' xs)=>if h:e'=e∧k'=k then some (h.2 ▸ xs,[id],[],[(id,some (.row e' k' xs))]) else none
  | _=>none
 | .slit,.sv false [.lit (.slice a 0 c)]=>some ((a,c),[],[],[])
 | _,_=>none
theorem quoteP_hp {L:Bool} {σ:LS} {p:PK} {av:AV} {x:DP p} {ids rd:List Nat} {hp:List (Nat×Option HV)} (h:quoteP L σ p av=some (x,ids,rd,hp)):∀ p ∈ hp,σ.at p.1=p.2:=by
 unfold quoteP at h
 split at h
 ·have h0:=(ite_some h rfl).2
  clear h
  split at h0
  ·rename_i hq; cases h0; exact quoteAll_hp hq
  ·cases h0
 ·split at h
  ·rename_i hq; cases h; exact quoteR_hp hq
  ·cases h
 ·have h0:=(ite_some h rfl).2
  clear h
  split at h0
  ·rename_i hq; cases h0; exact quoteC_hp hq
  ·cases h0
 ·have h0:=(ite_some h rfl).2
  clear h
  split at h0
  ·rename_i hq; cases h0; exact quoAll_hp hq
  ·cases h0
 ·split at h
  ·rename_i hq; cases h; exact quoAll_hp hq
  ·cases h
 ·split at h
  ·rename_i hh
   split at h
   ·have h0:=(ite_some h rfl).2
    cases h0; simpa using hh
   ·cases h
  ·cases h
 ·split at h
  ·rename_i hh
   split at h
   ·cases h; simpa using hh
   ·cases h
  ·cases h
 ·cases h; simp
 ·cases h
theorem quoteP_ok {L:Bool} {σ:LS} {p:PK} {av:AV} {x:DP p} {ids rd:List Nat} {hp:List (Nat×Option HV)} (h:quoteP L σ p av=some (x,ids,rd,hp)) {fr:Fr} {σ':FS} {φ:Nat→Option Value} {I I':Nat→Prop} {a:Act} {w:World} (hR:R fr σ' φ I a w)
  (hv:∀ p ∈ hp,σ'.heap p.1=p.2) (hI:Lent L fr σ' φ I I' rd) {u:Value} (hu:RA fr.J φ I w av u):PreP (MineIn fr σ' φ rd) I' w p x u (blks φ ids)∧Has σ' ids:=by
 unfold quoteP at h
 split at h
 ·rename_i g k g' cs
  have h0:=ite_some h rfl
  clear h
  obtain ⟨rfl,h⟩:=h0
  split at h
  ·rename_i hq
   cases h
   obtain ⟨vs,h1,h2⟩:=RSV.pack hu
   exact ⟨⟨⟨vs,quoteAll_ok hq hR hv ⟨hI.base,fun hL=>by subst hL; exact hI.own rfl⟩ h1,h2⟩,rfl⟩,by simp [Has]⟩
  ·cases h
 ·split at h
  ·rename_i hq
   cases h
   exact ⟨⟨quoteR_ok hq hR hv hI hu,rfl⟩,by simp [Has]⟩
  ·cases h
 ·rename_i f ks f' cs
  have h0:=ite_some h rfl
  clear h
  obtain ⟨rfl,h⟩:=h0
  split at h
  ·rename_i hq
   cases h
   obtain ⟨vs,e,h2⟩:=hu
   exact ⟨⟨⟨vs,e,quoteC_ok hR hq hv hI h2⟩,rfl⟩,by simp [Has]⟩
  ·cases h
 ·rename_i g o g' cs
  have h0:=ite_some h rfl
  clear h
  obtain ⟨rfl,h⟩:=h0
  split at h
  ·rename_i hq
   cases h
   obtain ⟨vs,h1,h2⟩:=RSV.pack hu
   obtain ⟨h3,h4⟩:=quoAll_ok hq hR hv h1
   exact ⟨⟨vs,h3.grow hI.base,h2⟩,h4⟩
  ·cases h
 ·rename_i o cs
  split at h
  ·rename_i hq
   cases h
   obtain ⟨vs,h1,h2⟩:=RSV.pack hu
   rw [show vs=_ from h2] at h1
   obtain ⟨h3,h4⟩:=quoAll_ok hq hR hv h1
   exact ⟨h3.grow hI.base,h4⟩
  ·cases h
 ·rename_i e k id sz lo n
  split at h
  case h_2=>cases h
  case h_1 e' k' bs hh =>
  split at h
  case isFalse=>cases h
  case isTrue hek =>
  obtain ⟨rfl,rfl,rfl⟩:=hek
  have h0:=ite_some h rfl
  clear h
  obtain ⟨rfl,h⟩:=h0
  cases h
  have hat:=hv _ List.mem_cons_self
  obtain ⟨v0,e0,hB⟩:=hR.heap id _ hat
  have grow:∀ v,BufOK I w e' k' bs v→BufOK I' w e' k' bs v:=fun v hb=>by
   rcases hb with hb | ⟨g,cur,h1,h2,h3,h4,h5⟩
   ·exact .inl hb
   ·exact .inr ⟨g,cur,h1,h2,h3,h4,fun i x hx=>(h5 i x hx).mono hI.base (fun _ _=>rfl)⟩
  have hbl:∀ v,blk v=blk v0→(blk v).toList=blks φ [id]:=fun v hv=>by
   simp only [blks,List.filterMap_cons,List.filterMap_nil,e0,Option.bind_some,hv]
   cases blk v0 <;> rfl
  refine ⟨?_,fun i hi=>by rw [List.mem_singleton.1 hi]; exact ⟨_,hat,rfl⟩⟩
  rcases (show ViewOK φ id (size k') 0 n u from hu) with ⟨g,N,cap,o,e1,e2,_,h5,h6,h7⟩ | ⟨e1,e2,_,rfl⟩
  ·rw [e0] at e1; cases e1
   obtain ⟨rfl,rfl,_⟩:=hB.cap' rfl
   have ho:o=0:=(h7 (.inr rfl)).trans (Nat.zero_mul _)
   subst ho
   have e3:u=.slice (some ⟨g,0,none⟩) n.toNat bs.length:=e2
   subst e3
   exact ⟨(hbl _ rfl).symm,grow _ hB,.inr ⟨g,rfl,h5,by show n ≤ (bs.length:Int); omega⟩⟩
  ·rw [e0] at e1; cases e1
   subst e2
   exact ⟨(hbl _ rfl).symm,grow _ hB,.inl ⟨rfl,rfl⟩⟩
 ·rename_i e k id
  split at h
  case h_2=>cases h
  case h_1 e' k' xs hh =>
  split at h
  case isFalse=>cases h
  case isTrue hek =>
  obtain ⟨rfl,rfl⟩:=hek
  cases h
  have hat:=hv _ List.mem_cons_self
  obtain ⟨v0,us,e0,h1,h2⟩:=hR.heap id _ hat
  have hu:φ id=some u:=hu.1
  rw [e0] at hu; cases hu
  refine ⟨⟨_,us,rfl,?_,h1,h2.mono fun _ _ h=>h.mono hI.base (fun _ _=>rfl)⟩,fun i hi=>by rw [List.mem_singleton.1 hi]; exact ⟨_,hat,rfl⟩⟩
  simp only [blks,List.filterMap_cons,List.filterMap_nil,e0,Option.bind_some]
  cases blk _ <;> rfl
 ·cases h
  exact ⟨⟨hu,rfl⟩,by simp [Has]⟩
 ·cases h
theorem PreP.lend {J J' I:Nat→Prop} {w:World} (hJ:∀ b,J b→J' b):∀ {p:PK} {x:DP p} {v:Value} {B:List Nat},PreP J I w p x v B→PreP J' I w p x v B
 | .val _ _,_,_,_,h=>h
 | .iref _,_,_,_,⟨h,e⟩=>⟨RC.lend hJ h,e⟩
 | .clo _ _,_,_,_,⟨⟨vs,h1,h2⟩,e⟩=>⟨⟨vs,h1,h2.lend hJ⟩,e⟩
 | .own _ _,_,_,_,h=>h
 | .inout _,_,_,_,h=>h
 | .slit,_,_,_,h=>h
 | .ownc _ _,_,_,_,h=>h
 | .iov _ _,_,_,_,h=>h
theorem PrePs.lend {J J' I:Nat→Prop} {w:World} (hJ:∀ b,J b→J' b):∀ {ps:List PK} {x:DPs ps} {vs:List Value} {B:List Nat},PrePs J I w ps x vs B→PrePs J' I w ps x vs B
 | [],_,_,_,h=>h
 | p :: ps,x,vs,B,⟨v,vs',B1,B2,h1,h2,h3,h4⟩=>⟨v,vs',B1,B2,h1,h2,h3.lend hJ,h4.lend hJ⟩
def quotePs (L:Bool) (σ:LS):(ps:List PK)→List AV→Option (DPs ps×List Nat×List Nat×List (Nat×Option HV))
 | [],[]=>some ((),[],[],[])
 | p :: ps,c :: cs=>match quoteP L σ p c,quotePs L σ ps cs with
  | some (x,ids,rd,hp),some (y,ids',rd',hp')=>some ((x,y),ids ++ ids',rd ++ rd',hp ++ hp')
  | _,_=>none
 | _,_=>none
theorem quotePs_hp {L:Bool} {σ:LS}:∀ {ps:List PK} {cs:List AV} {x:DPs ps} {ids rd:List Nat} {hp:List (Nat×Option HV)},quotePs L σ ps cs=some (x,ids,rd,hp)→∀ p ∈ hp,σ.at p.1=p.2
 | [],[],_,_,_,_,h=>by cases h; simp
 | [],_ :: _,_,_,_,_,h=>by cases h
 | _ :: _,[],_,_,_,_,h=>by cases h
 | k :: ks,c :: cs,x,ids,rd,hp,h=>by
  unfold quotePs at h
  split at h
  ·rename_i h1 h2
   cases h
   intro p hp
   rcases List.mem_append.1 hp with hp | hp
   ·exact quoteP_hp h1 p hp
   ·exact quotePs_hp h2 p hp
  ·cases h
theorem quotePs_ok {L:Bool} {σ:LS} {fr:Fr} {σ':FS} {φ:Nat→Option Value} {I I':Nat→Prop} {a:Act} {w:World} (hR:R fr σ' φ I a w) :
  ∀ {ks:List PK} {cs:List AV} {x:DPs ks} {ids rd:List Nat} {hp:List (Nat×Option HV)},quotePs L σ ks cs=some (x,ids,rd,hp)→(∀ p ∈ hp,σ'.heap p.1=p.2)→Lent L fr σ' φ I I' rd→∀ {vs:List Value},all2 (RA fr.J φ I w) cs vs →
   PrePs (MineIn fr σ' φ rd) I' w ks x vs (blks φ ids)∧Has σ' ids
 | [],[],_,_,_,_,h,_,_,[],_=>by cases h; exact ⟨⟨rfl,rfl⟩,by simp [Has]⟩
 | [],[],_,_,_,_,h,_,_,_ :: _,ha=>ha.elim
 | [],_ :: _,_,_,_,_,h,_,_,_,_=>by cases h
 | _ :: _,[],_,_,_,_,h,_,_,_,_=>by cases h
 | k :: ks,c :: cs,x,_,_,hp,h,hv,hI,[],ha=>ha.elim
 | k :: ks,c :: cs,x,_,_,hp,h,hv,hI,v :: vs,⟨h3,h4⟩=>by
  unfold quotePs at h
  split at h
  ·rename_i h1 h2
   cases h
   obtain ⟨h5,h6⟩:=quoteP_ok h1 hR (fun p hp=>hv p (List.mem_append_left _ hp)) (hI.mono fun i h=>List.mem_append_left _ h) h3
   obtain ⟨h7,h8⟩:=quotePs_ok hR h2 (fun p hp=>hv p (List.mem_append_right _ hp)) (hI.mono fun i h=>List.mem_append_right _ h) h4
   refine ⟨⟨v,vs,_,_,rfl,blks_append _ _ _,h5.lend fun b=>MineIn.mono fun id h=>List.mem_append_left _ h,h7.lend fun b=>MineIn.mono fun id h=>List.mem_append_right _ h⟩,fun id hid=>?_⟩
   rcases List.mem_append.1 hid with hid | hid
   ·exact h6 id hid
   ·exact h8 id hid
  ·cases h
def ocount:OK→Nat
 | .val _=>0
 | .vec _ _=>1
 | .pair a b=>ocount a + ocount b
 | .obj o=>ocount o + 1
 | .any=>1
def unq:(o:OK)→OD o→Nat→List CV×List (Nat×Option HV)
 | .val k,x,_=>(cellsOf k x,[])
 | .vec e k,xs,n=>([.own n],[(n,some (.row e k xs))])
 | .pair a b,x,n=>match unq a x.1 n,unq b x.2 (n + ocount a) with
  | (c,h),(c',h')=>(c ++ c',h ++ h')
 | .obj o,x,n=>match unq o x (n + 1) with
  | (c,h)=>([.ptr n 0],(n,some (.cells c)) :: h)
 | .any,_,n=>([.own n],[])
theorem lookup_app {α:Type} (l m:List (Nat×α)) (i:Nat):(l ++ m).lookup i=match l.lookup i with
  | some x=>some x
  | none=>m.lookup i:=by
 induction l with
 | nil=>rfl
 | cons p l ih =>
  obtain ⟨j,y⟩:=p
  simp only [List.cons_append,List.lookup]
  cases h:i == j <;> simp [ih]
structure Unq (I:Nat→Prop) (w:World) (Dm:Nat→Prop) (h:List (Nat×Option HV)) (ψ:Nat→Option Value) (B:List Nat):Prop where
 dom:∀ id v,ψ id=some v→Dm id
 mem:∀ id v b,ψ id=some v→blk v=some b→b ∈ B
 inj:B.Nodup→∀ id id' v v' b,id ≠ id'→ψ id=some v→ψ id'=some v'→blk v=some b→blk v' ≠ some b
 hs:∀ (φ':Nat→Option Value) (J:Nat→Prop),(∀ id v,ψ id=some v→φ' id=some v)→∀ id x,h.lookup id=some x→∃ hv v,x=some hv∧(hv.owned=true∧hv.plain=true)∧RH J φ' I w id hv∧ψ id=some v
def bothψ (ψ ψ':Nat→Option Value):Nat→Option Value:=fun id=>(ψ id).or (ψ' id)
theorem bothψ_l {ψ ψ':Nat→Option Value} {id:Nat} {v:Value} (h:ψ id=some v):bothψ ψ ψ' id=some v:=by simp [bothψ,h]
theorem bothψ_cases {ψ ψ':Nat→Option Value} {id:Nat} {v:Value} (h:bothψ ψ ψ' id=some v):ψ id=some v ∨ (ψ id=none∧ψ' id=some v):=by
 unfold bothψ at h
 cases h1:ψ id with
 | none=>rw [h1] at h; exact .inr ⟨rfl,h⟩
 | some u=>rw [h1] at h; exact .inl h
theorem Unq.app {I:Nat→Prop} {w:World} {D1 D2:Nat→Prop} {h1 h2:List (Nat×Option HV)} {ψ1 ψ2:Nat→Option Value} {B1 B2:List Nat} (u1:Unq I w D1 h1 ψ1 B1) (u2:Unq I w D2 h2 ψ2 B2) (hd:∀ id,D1 id→D2 id→False) :
  Unq I w (fun id=>D1 id ∨ D2 id) (h1 ++ h2) (bothψ ψ1 ψ2) (B1 ++ B2)∧∀ id v,ψ2 id=some v→bothψ ψ1 ψ2 id=some v:=by
 have hr:∀ id v,ψ2 id=some v→bothψ ψ1 ψ2 id=some v:=by
  intro id v h
  cases h3:ψ1 id with
  | none=>simp [bothψ,h3,h]
  | some u=>exact (hd id (u1.dom id u h3) (u2.dom id v h)).elim
 refine ⟨⟨fun id v h=>?_,fun id v b h hb=>?_,fun hn id id' v v' b hne h h' hb hb'=>?_,fun φ' J hφ id x hx=>?_⟩,hr⟩
 ·rcases bothψ_cases h with h | ⟨_,h⟩
  ·exact .inl (u1.dom id v h)
  ·exact .inr (u2.dom id v h)
 ·rcases bothψ_cases h with h | ⟨_,h⟩
  ·exact List.mem_append_left _ (u1.mem id v b h hb)
  ·exact List.mem_append_right _ (u2.mem id v b h hb)
 ·obtain ⟨n1,n2,n3⟩:=List.nodup_append.1 hn
  rcases bothψ_cases h with h | ⟨_,h⟩ <;> rcases bothψ_cases h' with h' | ⟨_,h'⟩
  ·exact u1.inj n1 id id' v v' b hne h h' hb hb'
  ·exact n3 b (u1.mem id v b h hb) b (u2.mem id' v' b h' hb') rfl
  ·exact n3 b (u1.mem id' v' b h' hb') b (u2.mem id v b h hb) rfl
  ·exact u2.inj n2 id id' v v' b hne h h' hb hb'
 ·rw [lookup_app] at hx
  cases hl:h1.lookup id with
  | some y =>
   rw [hl] at hx
   cases hx
   obtain ⟨hv,v,e1,e2,e3,e4⟩:=u1.hs φ' J (fun id v h=>hφ id v (bothψ_l h)) id _ hl
   exact ⟨hv,v,e1,e2,e3,bothψ_l e4⟩
  | none =>
   rw [hl] at hx
   obtain ⟨hv,v,e1,e2,e3,e4⟩:=u2.hs φ' J (fun id v h=>hφ id v (hr id v h)) id x hx
   exact ⟨hv,v,e1,e2,e3,hr id v e4⟩
theorem Unq.none (I:Nat→Prop) (w:World) (Dm:Nat→Prop):Unq I w Dm [] nowhere [] :=
 ⟨fun _ _ h=>(by cases h),fun _ _ _ h=>(by cases h),fun _ _ _ _ _ _ _ h=>(by cases h),fun _ _ _ _ _ h=>(by cases h)⟩
theorem Unq.dm {I:Nat→Prop} {w:World} {Dm Dm':Nat→Prop} {h:List (Nat×Option HV)} {ψ:Nat→Option Value} {B:List Nat} (u:Unq I w Dm h ψ B) (hd:∀ id,Dm id→Dm' id):Unq I w Dm' h ψ B :=
 ⟨fun id v h=>hd id (u.dom id v h),u.mem,u.inj,u.hs⟩
theorem unq_ok {I:Nat→Prop} {w:World}:∀ {o:OK} {x:OD o} {vs:List Value} {B:List Nat} (n:Nat),Own I w o x vs B →
  ∃ ψ,Unq I w (fun id=>n ≤ id∧id < n + ocount o) (unq o x n).2 ψ B∧∀ (φ':Nat→Option Value) (J:Nat→Prop),(∀ id v,ψ id=some v→φ' id=some v)→all2 (RV J φ' I w) (unq o x n).1 vs
 | .val k,x,vs,B,n,⟨h,e⟩=>by
  subst e
  exact ⟨nowhere,Unq.none _ _ _,fun φ' J _=>h.cells⟩
 | .vec e k,xs,vs,B,n,⟨v,us,h1,h2,h3,h4⟩=>by
  subst h1 h2
  have hone:v.oneCell'=true:=by
   rcases h3.2 with ⟨rfl,_⟩ | ⟨g,cap,cur,rfl,_⟩ <;> rfl
  refine ⟨fun id=>if id=n then some v else none,⟨fun id u h=>?_,fun id u b h hb=>?_,fun _ id id' u u' b hne h h'=>?_,fun φ' J hφ id x hx=>?_⟩,fun φ' J hφ=>⟨⟨hφ n v (by simp),hone⟩,trivial⟩⟩
  ·have h:(if id=n then some v else none)=some u:=h
   split at h
   ·rename_i e; subst e; simp [ocount]
   ·cases h
  ·have h:(if id=n then some v else none)=some u:=h
   split at h
   ·cases h; simp [hb]
   ·cases h
  ·have h:(if id=n then some v else none)=some u:=h
   have h':(if id'=n then some v else none)=some u':=h'
   split at h <;> split at h' <;> first | (cases h; done) | (cases h'; done) | skip
   rename_i e1 e2
   exact (hne (e1.trans e2.symm)).elim
  ·simp only [unq,List.lookup] at hx
   cases he:id == n with
   | false=>rw [he] at hx; cases hx
   | true =>
    rw [he] at hx
    have he:id=n:=by simpa using he
    subst he
    cases hx
    exact ⟨_,v,rfl,⟨rfl,rfl⟩,⟨v,us,hφ id v (by simp),h3,h4⟩,by simp⟩
 | .any,x,vs,B,n,⟨v,h1,hone,h2⟩=>by
  subst h1 h2
  refine ⟨fun id=>if id=n then some v else none,⟨fun id u h=>?_,fun id u b h hb=>?_,fun _ id id' u u' b hne h h'=>?_,fun φ' J hφ id x hx=>by simp [unq] at hx⟩,fun φ' J hφ=>⟨⟨hφ n v (by simp),hone⟩,trivial⟩⟩
  ·have h:(if id=n then some v else none)=some u:=h
   split at h
   ·rename_i e; subst e; simp [ocount]
   ·cases h
  ·have h:(if id=n then some v else none)=some u:=h
   split at h
   ·cases h; simp [hb]
   ·cases h
  ·have h:(if id=n then some v else none)=some u:=h
   have h':(if id'=n then some v else none)=some u':=h'
   split at h <;> split at h' <;> first | (cases h; done) | (cases h'; done) | skip
   rename_i e1 e2
   exact (hne (e1.trans e2.symm)).elim
 | .pair a b,x,vs,B,n,⟨v1,v2,B1,B2,h1,h2,h3,h4⟩=>by
  subst h1 h2
  obtain ⟨ψ1,u1,k1⟩:=unq_ok n h3
  obtain ⟨ψ2,u2,k2⟩:=unq_ok (n + ocount a) h4
  obtain ⟨u3,k3⟩:=u1.app u2 (fun id h h'=>by omega)
  refine ⟨bothψ ψ1 ψ2,u3.dm fun id h=>?_,fun φ' J hφ=>?_⟩
  ·simp only [ocount]
   rcases h with h | h <;> omega
  ·exact all2.append (k1 φ' J fun id v h=>hφ id v (bothψ_l h)) (k2 φ' J fun id v h=>hφ id v (k3 id v h))
 | .obj o,x,vs,B,n,⟨b,us,B',t,h1,h2,h3,h4,h5⟩=>by
  subst h1 h2
  obtain ⟨ψ1,u1,k1⟩:=unq_ok (n + 1) h4
  have hn:ψ1 n=none:=by
   cases h:ψ1 n with
   | none=>rfl
   | some v=>have:=u1.dom n v h; omega
  refine ⟨ext ψ1 n (.pointer (some ⟨b,0,none⟩)),⟨fun id v h=>?_,fun id v b' h hb=>?_,fun hnd id id' v v' b' hne h h' hb hb'=>?_,fun φ' J hφ id y hy=>?_⟩,fun φ' J hφ=>⟨?_,trivial⟩⟩
  ·simp only [ext] at h
   split at h
   ·rename_i e; subst e; simp [ocount]
   ·have:=u1.dom id v h; simp only [ocount]; omega
  ·simp only [ext] at h
   split at h
   ·cases h
    simp [blk] at hb
    simp [hb]
   ·exact List.mem_cons_of_mem _ (u1.mem id v b' h hb)
  ·obtain ⟨n1,n2⟩:=List.nodup_cons.1 hnd
   simp only [ext] at h h'
   split at h <;> split at h'
   ·rename_i e1 e2; exact hne (e1.trans e2.symm)
   ·cases h; simp [blk] at hb; subst hb; exact n1 (u1.mem id' v' _ h' hb')
   ·cases h'; simp [blk] at hb'; subst hb'; exact n1 (u1.mem id v _ h hb)
   ·exact u1.inj n2 id id' v v' b' hne h h' hb hb'
  ·have hφ1:∀ id v,ψ1 id=some v→φ' id=some v:=fun id v h=>hφ id v (ext_mono hn id v h)
   simp only [unq,List.lookup] at hy
   cases he:id == n with
   | false =>
    rw [he] at hy
    obtain ⟨hv,v,e1,e2,e3,e4⟩:=u1.hs φ' J hφ1 id y hy
    exact ⟨hv,v,e1,e2,e3,ext_mono hn id v e4⟩
   | true =>
    rw [he] at hy
    have he:id=n:=by simpa using he
    subst he
    cases hy
    exact ⟨_,_,rfl,⟨rfl,rfl⟩,⟨b,us,t,hφ id _ ext_same,h3,k1 φ' J hφ1,h5⟩,ext_same⟩
  ·show pv φ' n 0=_
   simp [pv,hφ n _ ext_same]
def cntL:List (Bool×OK)→Nat
 | []=>0
 | r :: rs=>ocount r.2 + cntL rs
def resL:(rs:List (Bool×OK))→DRs rs→Nat→List (Bool×List CV)×List (Nat×Option HV)
 | [],_,_=>([],[])
 | [r],y,n=>match unq r.2 y n with
  | (c,h)=>([(r.1,c)],h)
 | r :: s :: rs,y,n=>match unq r.2 y.1 n,resL (s :: rs) y.2 (n + ocount r.2) with
  | (c,h),(l,h')=>((r.1,c) :: l,h ++ h')
theorem resL_ok {I:Nat→Prop} {w:World}:∀ {rs:List (Bool×OK)} {y:DRs rs} {us:List Value} {B:List Nat} (n:Nat),PostL I w rs y us B →
  ∃ ψ,Unq I w (fun id=>n ≤ id∧id < n + cntL rs) (resL rs y n).2 ψ B∧∀ (φ':Nat→Option Value) (J:Nat→Prop),(∀ id v,ψ id=some v→φ' id=some v)→all2 (fun p u=>RSV J φ' I w p.1 p.2 u) (resL rs y n).1 us
 | [],y,us,B,n,⟨h1,h2⟩=>by
  subst h1 h2
  exact ⟨nowhere,Unq.none _ _ _,fun _ _ _=>trivial⟩
 | [r],y,us,B,n,⟨v,vs,h1,h2,h3⟩=>by
  subst h1
  obtain ⟨ψ,u,k⟩:=unq_ok n h2
  exact ⟨ψ,u.dm fun id h=>by simp only [cntL]; omega,fun φ' J hφ=>⟨RSV.mk (k φ' J hφ) h3,trivial⟩⟩
 | r :: s :: rs,y,us,B,n,⟨v,vs,us',B1,B2,h1,h2,⟨h3,h4⟩,h5⟩=>by
  subst h1 h2
  obtain ⟨ψ1,u1,k1⟩:=unq_ok n h3
  obtain ⟨ψ2,u2,k2⟩:=resL_ok (n + ocount r.2) h5
  obtain ⟨u3,k3⟩:=u1.app u2 (fun id h h'=>by omega)
  refine ⟨bothψ ψ1 ψ2,u3.dm fun id h=>?_,fun φ' J hφ=>⟨RSV.mk (k1 φ' J fun id v h=>hφ id v (bothψ_l h)) h4,k2 φ' J fun id v h=>hφ id v (k3 id v h)⟩⟩
  rw [cntL]
  rcases h with h | h <;> omega
def outOne:(o:OK)→OD o→Nat→Nat→List (Nat×Option HV)
 | .obj o,z,id,n=>match unq o z n with
  | (c,h)=>(id,some (.cells c)) :: h
 | .vec e k,z,id,_=>[(id,some (.row e k z))]
 | _,_,_,_=>[]
def outL:(os:List (Bool×OK))→DRs os→List Nat→Nat→List (Nat×Option HV)
 | [r],y,id :: _,n=>outOne r.2 y id n
 | r :: s :: rs,y,id :: ids,n=>outOne r.2 y.1 id n ++ outL (s :: rs) y.2 ids (n + ocount r.2)
 | _,_,_,_=>[]
theorem outOne_ok {I:Nat→Prop} {w:World} {o:OK} {z:OD o} {u:Value} {B:List Nat} {id n:Nat} (hid:id < n) (h:Own I w o z [u] B) :
  ∃ ψ,Unq I w (fun i=>i=id ∨ (n ≤ i∧i < n + ocount o)) (outOne o z id n) ψ B∧∀ v,ψ id=some v→v=u:=by
 cases o with
 | obj o =>
  obtain ⟨b,us,B',t,h1,h2,h3,h4,h5⟩:=h
  simp only [List.cons.injEq,and_true] at h1
  subst h1 h2
  obtain ⟨ψ1,u1,k1⟩:=unq_ok n h4
  have hn:ψ1 id=none:=by
   cases h:ψ1 id with
   | none=>rfl
   | some v=>have:=u1.dom id v h; omega
  refine ⟨ext ψ1 id (.pointer (some ⟨b,0,none⟩)),⟨fun i v h=>?_,fun i v b' h hb=>?_,fun hnd i i' v v' b' hne h h' hb hb'=>?_,fun φ' J hφ i y hy=>?_⟩,fun v hv=>?_⟩
  ·simp only [ext] at h
   split at h
   ·rename_i e; exact .inl e
   ·have:=u1.dom i v h; simp only [ocount]; right; omega
  ·simp only [ext] at h
   split at h
   ·cases h
    simp [blk] at hb
    simp [hb]
   ·exact List.mem_cons_of_mem _ (u1.mem i v b' h hb)
  ·obtain ⟨n1,n2⟩:=List.nodup_cons.1 hnd
   simp only [ext] at h h'
   split at h <;> split at h'
   ·rename_i e1 e2; exact hne (e1.trans e2.symm)
   ·cases h; simp [blk] at hb; subst hb; exact n1 (u1.mem i' v' _ h' hb')
   ·cases h'; simp [blk] at hb'; subst hb'; exact n1 (u1.mem i v _ h hb)
   ·exact u1.inj n2 i i' v v' b' hne h h' hb hb'
  ·have hφ1:∀ id v,ψ1 id=some v→φ' id=some v:=fun i v h=>hφ i v (ext_mono hn i v h)
   simp only [outOne,List.lookup] at hy
   cases he:i == id with
   | false =>
    rw [he] at hy
    obtain ⟨hv,v,e1,e2,e3,e4⟩:=u1.hs φ' J hφ1 i y hy
    exact ⟨hv,v,e1,e2,e3,ext_mono hn i v e4⟩
   | true =>
    rw [he] at hy
    have he:i=id:=by simpa using he
    subst he
    cases hy
    exact ⟨_,_,rfl,⟨rfl,rfl⟩,⟨b,us,t,hφ i _ ext_same,h3,k1 φ' J hφ1,h5⟩,ext_same⟩
  ·rw [ext_same] at hv; exact (Option.some.inj hv).symm
 | vec e k =>
  obtain ⟨v,us,h1,h2,h3,h4⟩:=h
  simp only [List.cons.injEq,and_true] at h1
  subst h1 h2
  refine ⟨fun i=>if i=id then some u else none,⟨fun i v h=>?_,fun i v b h hb=>?_,fun _ i i' v v' b hne h h'=>?_,fun φ' J hφ i y hy=>?_⟩,fun v hv=>?_⟩
  ·have h:(if i=id then some u else none)=some v:=h
   split at h
   ·rename_i e; exact .inl e
   ·cases h
  ·have h:(if i=id then some u else none)=some v:=h
   split at h
   ·cases h; simp [hb]
   ·cases h
  ·have h:(if i=id then some u else none)=some v:=h
   have h':(if i'=id then some u else none)=some v':=h'
   split at h <;> split at h' <;> first | (cases h; done) | (cases h'; done) | skip
   rename_i e1 e2
   exact (hne (e1.trans e2.symm)).elim
  ·simp only [outOne,List.lookup] at hy
   cases he:i == id with
   | false=>rw [he] at hy; cases hy
   | true =>
    rw [he] at hy
    have he:i=id:=by simpa using he
    subst he
    cases hy
    exact ⟨_,u,rfl,⟨rfl,rfl⟩,⟨u,us,hφ i u (by simp),h3,h4⟩,by simp⟩
  ·simpa using hv.symm
 | _ =>
  refine ⟨nowhere,⟨fun _ _ h=>(by cases h),fun _ _ _ h=>(by cases h),fun _ _ _ _ _ _ _ h=>(by cases h),fun _ _ _ _ _ h=>(by cases h)⟩,fun _ h=>(by cases h)⟩
theorem outL_ok {I:Nat→Prop} {w:World} {φ:Nat→Option Value}:∀ {os:List (Bool×OK)} {y:DRs os} {us:List Value} {B ids:List Nat} (n:Nat),(∀ r ∈ os,r.1=false)→PostL I w os y us B→all2 (fun id u=>φ id=some u) ids us→(∀ id ∈ ids,id < n)→ids.Nodup →
  ∃ ψ,Unq I w (fun i=>i ∈ ids ∨ (n ≤ i∧i < n + cntL os)) (outL os y ids n) ψ B∧∀ i ∈ ids,∀ v,ψ i=some v→φ i=some v
 | [],y,us,B,ids,n,_,⟨h1,h2⟩,h3,_,_=>by
  subst h1 h2
  refine ⟨nowhere,?_,fun _ _ _ h=>(by cases h)⟩
  cases ids <;> exact Unq.none _ _ _
 | [r],y,us,B,ids,n,hg,⟨v,vs,h1,h2,h3⟩,h4,hlt,hnd=>by
  subst h1
  rw [hg r List.mem_cons_self] at h3
  rw [show vs=[v] from h3] at h2
  match ids,h4 with
  | [id],⟨h5,_⟩ =>
   obtain ⟨ψ,u,k⟩:=outOne_ok (hlt id List.mem_cons_self) h2
   refine ⟨ψ,u.dm fun i h=>?_,fun i hi v' hv'=>?_⟩
   ·simp only [cntL,List.mem_singleton]; omega
   ·simp only [List.mem_singleton] at hi
    subst hi
    rw [k v' hv']; exact h5
  | _ :: _ :: _,⟨_,h6⟩=>exact h6.elim
 | r :: s :: rs,y,us,B,ids,n,hg,⟨v,vs,us',B1,B2,h1,h2,⟨h3,h4⟩,h5⟩,h6,hlt,hnd=>by
  subst h1 h2
  rw [hg r List.mem_cons_self] at h4
  rw [show vs=[v] from h4] at h3
  match ids,h6 with
  | id :: ids,⟨h7,h8⟩ =>
   obtain ⟨hn1,hn2⟩:=List.nodup_cons.1 hnd
   have hid:=hlt id List.mem_cons_self
   obtain ⟨ψ1,u1,k1⟩:=outOne_ok (o:=r.2) (n:=n) hid h3
   obtain ⟨ψ2,u2,k2⟩:=outL_ok (n + ocount r.2) (fun r h=>hg r (List.mem_cons_of_mem _ h)) h5 h8 (fun i hi=>by have:=hlt i (List.mem_cons_of_mem _ hi); omega) hn2
   obtain ⟨u3,k3⟩:=u1.app u2 (fun i h h'=>by
    have hj:∀ i ∈ ids,i < n:=fun i hi=>hlt i (List.mem_cons_of_mem _ hi)
    rcases h with rfl | h <;> rcases h' with h' | h'
    ·exact hn1 h'
    ·omega
    ·have:=hj i h'; omega
    ·omega)
   refine ⟨bothψ ψ1 ψ2,u3.dm fun i h=>?_,fun i hi v' hv'=>?_⟩
   ·rw [cntL,List.mem_cons]
    rcases h with (h | h) | (h | h)
    ·exact .inl (.inl h)
    ·right; omega
    ·exact .inl (.inr h)
    ·right; omega
   ·rcases bothψ_cases hv' with h | ⟨_,h⟩
    ·rcases u1.dom i v' h with rfl | h9
     ·rw [k1 v' h]; exact h7
     ·have:=hlt i hi; omega
    ·rcases List.mem_cons.1 hi with rfl | hi
     ·have:=u2.dom i v' h
      rcases this with h9 | h9
      ·exact (hn1 h9).elim
      ·omega
     ·exact k2 i hi v' h
theorem outs_g:∀ (ps:List PK),∀ r ∈ outs ps,r.1=false
 | [],r,h=>by cases h
 | p :: ps,r,h=>by
  cases p <;> simp only [outs] at h <;> first | exact outs_g ps r h | (exact (List.mem_cons.1 h).elim (fun e=>e ▸ rfl) (outs_g ps r))
def resAV:List (Bool×List CV)→AV
 | [r]=>.sv r.1 r.2
 | l=>.tup l
theorem resAV_ok {J I:Nat→Prop} {φ:Nat→Option Value} {w:World}:∀ {l:List (Bool×List CV)} {us:List Value},all2 (fun p u=>RSV J φ I w p.1 p.2 u) l us→RA J φ I w (resAV l) (single us)
 | [],[],_=>⟨[],rfl,trivial⟩
 | [r],[u],h=>h.1
 | r :: s :: l,u :: v :: us,h=>⟨u :: v :: us,rfl,h⟩
 | [],_ :: _,h=>h.elim
 | [_],[],h=>h.elim
 | [_],_ :: _ :: _,h=>h.2.elim
 | _ :: _ :: _,[],h=>h.elim
 | _ :: _ :: _,[_],h=>h.2.elim
def opds (σ:LS):List Operand→Option (List AV×List (Tmp×AV))
 | []=>some ([],[])
 | x :: xs=>match opd σ x,opds σ xs with
  | some (av,tl),some (avs,tl')=>some (av :: avs,tl ++ tl')
  | _,_=>none
theorem opds_temps {σ:LS}:∀ {xs:List Operand} {avs:List AV} {tl:List (Tmp×AV)},opds σ xs=some (avs,tl)→∀ p ∈ tl,σ.get p.1=some p.2
 | [],_,_,h=>by cases h; simp
 | x :: xs,avs,tl,h=>by
  unfold opds at h
  split at h
  ·rename_i h1 h2
   cases h
   intro p hp
   rcases List.mem_append.1 hp with hp | hp
   ·exact opd_temps h1 p hp
   ·exact opds_temps h2 p hp
  ·cases h
theorem opds_eval {σ:LS} {fr:Fr} {σ':FS} {φ:Nat→Option Value} {I:Nat→Prop} {a:Act} {w:World} (hR:R fr σ' φ I a w) :
  ∀ {xs:List Operand} {avs:List AV} {tl:List (Tmp×AV)},opds σ xs=some (avs,tl)→(∀ p ∈ tl,σ'.env p.1=some p.2)→all2 (RA fr.J φ I w) avs (xs.map a.eval)
 | [],_,_,h,_=>by cases h; exact trivial
 | x :: xs,avs,tl,h,hv=>by
  unfold opds at h
  split at h
  ·rename_i h1 h2
   cases h
   exact ⟨opd_eval h1 hR fun p hp=>hv p (List.mem_append_left _ hp),opds_eval hR h2 fun p hp=>hv p (List.mem_append_right _ hp)⟩
  ·cases h
theorem caps_all {J I:Nat→Prop} {φ:Nat→Option Value} {w:World}:∀ {caps:List Cp} {vs:List Value},all2 (RC J φ I w) caps vs→all2 (RA J φ I w) (caps.map fun p=>.sv false [p.cv]) vs
 | [],[],_=>trivial
 | _ :: _,_ :: _,⟨h1,h2⟩=>⟨h1.cv,caps_all h2⟩
 | [],_ :: _,h=>h.elim
 | _ :: _,[],h=>h.elim
section
variable {ρ:Type}
def outIds:List PK→List AV→List Nat
 | p :: ps,c :: cs=>match p with
  | .inout _=>match c with
   | .sv false [.ptr id _]=>id :: outIds ps cs
   | _=>outIds ps cs
  | .iov _ _=>match c with
   | .sv false [.own id]=>id :: outIds ps cs
   | _=>outIds ps cs
  | _=>outIds ps cs
 | _,_=>[]
theorem quoteP_inout {L:Bool} {σ:LS} {o:OK} {c:AV} {x:OD o} {ids rd:List Nat} {hp:List (Nat×Option HV)} (h:quoteP L σ (.inout o) c=some (x,ids,rd,hp)):∃ id cs0 ids',c=.sv false [.ptr id 0]∧ids=id :: ids'∧(id,some (.cells cs0)) ∈ hp:=by
 cases c with
 | tup l=>cases h
 | sv g cs =>
  cases g with
  | true=>cases h
  | false =>
   unfold quoteP at h
   simp only at h
   split at h
   case h_2=>cases h
   case h_1 x1 ids1 hp1 h1 =>
   cases h
   unfold quoAll at h1
   split at h1
   case h_2=>cases h1
   case h_1 x1 ids1 hp1 h2 =>
   cases h1
   cases cs with
   | nil=>cases h2
   | cons c r =>
    unfold quo at h2
    simp only at h2
    split at h2
    case h_2=>cases h2
    case h_1 id cs' h3 =>
    split at h2
    case h_2=>cases h2
    case h_1 x1 ids1 hp1 h4 =>
    cases h2
    obtain ⟨rfl,_⟩:=objOf_ok h3
    exact ⟨id,cs',ids1,rfl,rfl,List.mem_cons_self⟩
theorem quoteP_iov {L:Bool} {σ:LS} {e:TypeId} {k:Ty} {c:AV} {x:List (D k)} {ids rd:List Nat} {hp:List (Nat×Option HV)} (h:quoteP L σ (.iov e k) c=some (x,ids,rd,hp)):∃ id,c=.sv false [.own id]∧ids=[id]:=by
 cases c with
 | tup l=>cases h
 | sv g cs =>
  cases g with
  | true=>cases h
  | false =>
   cases cs with
   | nil=>cases h
   | cons c r =>
    cases r with
    | cons _ _=>cases c <;> cases h
    | nil =>
     cases c <;> try (cases h; done)
     case own id =>
      unfold quoteP at h
      simp only at h
      split at h <;> try (cases h; done)
      split at h <;> try (cases h; done)
      cases h
      exact ⟨id,rfl,rfl⟩
theorem outIds_ok {L:Bool} {σ:LS} {I:Nat→Prop} {φ:Nat→Option Value} {w:World} {σ':FS} {fr:Fr} {a:Act} (hR:R fr σ' φ I a w):∀ {ps:List PK} {cs:List AV} {x:DPs ps} {ids rd:List Nat} {hp:List (Nat×Option HV)},quotePs L σ ps cs=some (x,ids,rd,hp)→(∀ p ∈ hp,σ'.heap p.1=p.2)→∀ {vs:List Value},all2 (RA fr.J φ I w) cs vs →
  all2 (fun id u=>φ id=some u) (outIds ps cs) (outVals ps vs)∧(outIds ps cs).Sublist ids
 | [],[],_,_,_,_,h,_,[],_=>⟨trivial,List.nil_sublist _⟩
 | [],[],_,_,_,_,h,_,_ :: _,ha=>ha.elim
 | [],_ :: _,_,_,_,_,h,_,_,_=>by cases h
 | _ :: _,[],_,_,_,_,h,_,_,_=>by cases h
 | k :: ks,c :: cs,x,_,_,hp,h,hv,[],ha=>ha.elim
 | k :: ks,c :: cs,x,_,_,hp,h,hv,v :: vs,⟨h3,h4⟩=>by
  unfold quotePs at h
  split at h
  case h_2=>cases h
  case h_1 x1 ids1 rd1 hp1 x2 ids2 rd2 hp2 h1 h2 =>
  cases h
  obtain ⟨h5,h6⟩:=outIds_ok hR h2 (fun p hp=>hv p (List.mem_append_right _ hp)) h4
  have plain:all2 (fun id u=>φ id=some u) (outIds ks cs) (outVals ks vs)∧(outIds ks cs).Sublist (ids1 ++ ids2):=⟨h5,h6.trans (List.sublist_append_right _ _)⟩
  cases k with
  | inout o =>
   obtain ⟨id,cs0,ids',rfl,rfl,hm⟩:=quoteP_inout h1
   obtain ⟨b,us,t,h7,_⟩:=hR.heap id _ (hv _ (List.mem_append_left _ hm))
   have h3:pv φ id 0=some v:=h3
   simp only [pv,h7,Option.some.injEq] at h3
   refine ⟨⟨by show φ id=some v; rw [h7,h3],h5⟩,?_⟩
   simp only [outIds,List.cons_append]
   exact (h6.trans (List.sublist_append_right _ _)).cons_cons _
  | iov e k =>
   obtain ⟨id,rfl,rfl⟩:=quoteP_iov h1
   have h3:φ id=some v:=h3.1
   refine ⟨⟨h3,h5⟩,?_⟩
   simp only [outIds,List.cons_append,List.nil_append]
   exact h6.cons_cons _
  | _=>exact plain
def scalT:Ty→Bool
 | .seq _ _=>false
 | .mset=>false
 | .pair a b=>scalT a && scalT b
 | _=>true
def scalO:OK→Bool
 | .val k=>scalT k
 | .vec _ k=>scalT k
 | _=>false
def scalC (c:Con):Bool:=c.rs.all (fun r=>scalO r.2) && (outs c.ps).isEmpty
theorem scalT_ok {I I':Nat→Prop} {w:World}:∀ {k:Ty} {x:D k} {vs:List Value},scalT k=true→RdC I w k x vs→RdC I' w k x vs
 | .int _,_,_,_,h=>h
 | .bool,_,_,_,h=>h
 | .str,_,_,_,h=>h
 | .unit,_,_,_,h=>h
 | .pair _ _,_,_,hs,⟨v1,v2,e,h1,h2⟩=>by
  simp only [scalT,Bool.and_eq_true] at hs
  exact ⟨v1,v2,e,scalT_ok hs.1 h1,scalT_ok hs.2 h2⟩
 | .seq _ _,_,_,hs,_=>by simp [scalT] at hs
 | .mset,_,_,hs,_=>by simp [scalT] at hs
 | .fn,_,_,_,h=>h
theorem scalO_ok {I I':Nat→Prop} {w:World}:∀ {o:OK} {x:OD o} {vs:List Value} {B:List Nat},scalO o=true→Own I w o x vs B→Own I' w o x vs B
 | .val k,_,_,_,hs,⟨h,e⟩=>⟨scalT_ok hs h,e⟩
 | .vec _ _,_,_,_,hs,⟨v,us,h1,h2,h3,h4⟩=>⟨v,us,h1,h2,h3,h4.mono fun _ _ h=>scalT_ok hs h⟩
 | .pair _ _,_,_,_,hs,_=>by simp [scalO] at hs
 | .obj _,_,_,_,hs,_=>by simp [scalO] at hs
 | .any,_,_,_,_,h=>h
theorem scalL_ok {I I':Nat→Prop} {w:World}:∀ {rs:List (Bool×OK)} {y:DRs rs} {us:List Value} {B:List Nat},rs.all (fun r=>scalO r.2)=true→PostL I w rs y us B→PostL I' w rs y us B
 | [],_,_,_,_,h=>h
 | [r],y,us,B,hs,⟨v,vs,h1,h2,h3⟩=>by
  simp only [List.all_cons,List.all_nil,Bool.and_true] at hs
  exact ⟨v,vs,h1,scalO_ok hs h2,h3⟩
 | r :: s :: rs,y,us,B,hs,⟨v,vs,us',B1,B2,h1,h2,⟨h3,h4⟩,h5⟩=>by
  rw [List.all_cons,Bool.and_eq_true] at hs
  exact ⟨v,vs,us',B1,B2,h1,h2,⟨scalO_ok hs.1 h3,h4⟩,scalL_ok hs.2 h5⟩
def flatT:(k:Ty)→D k→Bool
 | .seq _ _,xs=>List.isEmpty xs
 | .mset,_=>false
 | .pair a b,x=>flatT a x.1 && flatT b x.2
 | .int _,_=>true
 | .bool,_=>true
 | .str,_=>true
 | .unit,_=>true
 | .fn,_=>true
def flatO:(o:OK)→OD o→Bool
 | .val k,x=>flatT k x
 | .vec _ k,xs=>List.all xs (flatT k)
 | _,_=>false
def flatL:(rs:List (Bool×OK))→DRs rs→Bool
 | [],_=>true
 | r :: rs,y=>match rs,y with
  | [],y=>flatO r.2 y
  | s :: rs,y=>flatO r.2 y.1 && flatL (s :: rs) y.2
theorem flatT_ok {I I':Nat→Prop} {w:World}:∀ {k:Ty} {x:D k} {vs:List Value},flatT k x=true→RdC I w k x vs→RdC I' w k x vs
 | .int _,_,_,_,h=>h
 | .bool,_,_,_,h=>h
 | .str,_,_,_,h=>h
 | .unit,_,_,_,h=>h
 | .fn,_,_,_,h=>h
 | .pair _ _,_,_,hs,⟨v1,v2,e,h1,h2⟩=>by
  simp only [flatT,Bool.and_eq_true] at hs
  exact ⟨v1,v2,e,flatT_ok hs.1 h1,flatT_ok hs.2 h2⟩
 | .seq _ _,xs,_,hs,⟨a,c,e,hc,h⟩=>⟨a,c,e,hc,.inl (List.isEmpty_iff.1 hs)⟩
 | .mset,_,_,hs,_=>by simp [flatT] at hs
theorem lst_flat {I I':Nat→Prop} {w:World} {k:Ty}:∀ {xs:List (D k)} {vs:List Value},List.all xs (flatT k)=true→lst (RdC I w k) xs vs→lst (RdC I' w k) xs vs
 | [],_,_,h=>h
 | x :: xs,_,hs,⟨v1,v2,e,h1,h2⟩=>by
  rw [List.all_cons,Bool.and_eq_true] at hs
  exact ⟨v1,v2,e,flatT_ok hs.1 h1,lst_flat hs.2 h2⟩
theorem flatO_ok {I I':Nat→Prop} {w:World}:∀ {o:OK} {x:OD o} {vs:List Value} {B:List Nat},flatO o x=true→Own I w o x vs B→Own I' w o x vs B
 | .val k,_,_,_,hs,⟨h,e⟩=>⟨flatT_ok hs h,e⟩
 | .vec _ k,_,_,_,hs,⟨v,us,h1,h2,h3,h4⟩=>⟨v,us,h1,h2,h3,lst_flat hs h4⟩
 | .pair _ _,_,_,_,hs,_=>by simp [flatO] at hs
 | .obj _,_,_,_,hs,_=>by simp [flatO] at hs
 | .any,_,_,_,_,h=>h
theorem flatL_ok {I I':Nat→Prop} {w:World}:∀ {rs:List (Bool×OK)} {y:DRs rs} {us:List Value} {B:List Nat},flatL rs y=true→PostL I w rs y us B→PostL I' w rs y us B
 | [],_,_,_,_,h=>h
 | [r],y,us,B,hs,⟨v,vs,h1,h2,h3⟩=>⟨v,vs,h1,flatO_ok hs h2,h3⟩
 | r :: s :: rs,y,us,B,hs,⟨v,vs,us',B1,B2,h1,h2,⟨h3,h4⟩,h5⟩=>by
  have hs:(flatO r.2 y.1 && flatL (s :: rs) y.2)=true:=hs
  rw [Bool.and_eq_true] at hs
  exact ⟨v,vs,us',B1,B2,h1,h2,⟨flatO_ok hs.1 h3,h4⟩,flatL_ok hs.2 h5⟩
def lendF (DF:List FuncId) (f:FuncId) (c:Con):Bool:=and (DF.contains (f + 1000000)) (and (!scalC c) (outs c.ps).isEmpty)
def lendC (DF:List FuncId) (f:FuncId) (c:Con):Bool:=or (scalC c) (lendF DF f c)
def opCallV (DF:List FuncId) (G:List (FuncId×Con)) (n:Nat) (o:Oper) (σ:LS) (base:Nat) (f:FuncId) (caps:List Cp) (tl0:List (Tmp×AV)) (args:List Operand) (kk:Rec→Option ρ):Option ρ :=
 match opds σ args with
 | some (avs,tl)=>match G.lookup f with
  | some c=>match quotePs (lendC DF f c) σ c.ps (avs ++ caps.map fun p=>.sv false [p.cv]) with
   | some (x,ids,rd,hp)=>if (nodupB ids && (ids.all fun i=>decide (i < base) && !(rd.contains i)))=true∧cntL c.rs + cntL (outs c.ps) ≤ 16 then
     (c.F n x).bind fun y=>match splitR c.rs (outs c.ps) y with
      | (y1,y2)=>cnd (and (lendF DF f c) true) (if flatL c.rs y1=true then (match resL c.rs y1 base,outL (outs c.ps) y2 (outIds c.ps (avs ++ caps.map fun p=>.sv false [p.cv])) (base + cntL c.rs) with
       | (l,h1),h2=>kk ⟨o.dst,some (resAV l),tl0 ++ tl,hp,h1 ++ h2 ++ ids.map fun i=>(i,none),List.range' base 16⟩) else none) (match resL c.rs y1 base,outL (outs c.ps) y2 (outIds c.ps (avs ++ caps.map fun p=>.sv false [p.cv])) (base + cntL c.rs) with
       | (l,h1),h2=>kk ⟨o.dst,some (resAV l),tl0 ++ tl,hp,h1 ++ h2 ++ ids.map fun i=>(i,none),List.range' base 16⟩)
    else none
   | none=>none
  | none=>none
 | _=>none
def opCall (DF:List FuncId) (G:List (FuncId×Con)) (n:Nat) (o:Oper) (σ:LS) (base:Nat) (fv:Operand) (args:List Operand) (kk:Rec→Option ρ):Option ρ :=
 match opd σ fv with
 | some (.sv false [.clo f caps],tl0)=>opCallV DF G n o σ base f caps tl0 args kk
 | _=>none
theorem lookup_nones (ids:List Nat) (i:Nat):(ids.map fun i=>(i,(none:Option HV))).lookup i=if i ∈ ids then some none else none:=by
 induction ids with
 | nil=>rfl
 | cons j ids ih =>
  simp only [List.map_cons,List.lookup]
  by_cases h:i=j
  ·subst h; simp
  ·have:(i == j)=false:=by simpa using h
   rw [this,ih]
   simp [h]
theorem opCallV_ok {P:Program} {DF:List FuncId} {G:List (FuncId×Con)} (hG:GOK P G) {n:Nat} {o:Oper} {σ:LS} {fv:Operand} {args:Array Operand} {ts:Array TypeId} {base:Nat} {f:FuncId} {caps:List Cp} {tl0:List (Tmp×AV)} {kk:Rec→Option ρ} {z:ρ} (ho:o.op=.call { callee:=.value fv,args,argTypes:=ts })
  (hft:∀ p ∈ tl0,σ.get p.1=some p.2)
  (hfv:∀ (fr:Fr) (σ':FS) (φ:Nat→Option Value) (I:Nat→Prop) (act:Act) (w:World),R fr σ' φ I act w→(∀ p ∈ tl0,σ'.env p.1=some p.2)→RV fr.J φ I w (.clo f caps) (act.eval fv))
  (h:opCallV DF G n o σ base f caps tl0 args.toList kk=some z):∃ r,Good P o σ base r∧kk r=some z:=by
 unfold opCallV at h
 split at h
 case h_2=>cases h
 case h_1 avs tl ha =>
 split at h
 case h_2=>cases h
 case h_1 c hc =>
 split at h
 case h_2=>cases h
 case h_1 x ids rd hp hq =>
 have h0:=ite_some h rfl
 clear h
 obtain ⟨⟨hchk,hcnt⟩,h⟩:=h0
 obtain ⟨y,hy,h⟩:=Option.bind_eq_some_iff.1 h
 simp only at h
 obtain ⟨hflat,h⟩:(lendF DF f c=true→flatL c.rs (splitR c.rs (outs c.ps) y).1=true)∧kk ⟨o.dst,some (resAV (resL c.rs (splitR c.rs (outs c.ps) y).1 base).1),tl0 ++ tl,hp,(resL c.rs (splitR c.rs (outs c.ps) y).1 base).2 ++ outL (outs c.ps) (splitR c.rs (outs c.ps) y).2 (outIds c.ps (avs ++ caps.map fun p=>.sv false [p.cv])) (base + cntL c.rs) ++ ids.map fun i=>(i,none),List.range' base 16⟩=some z:=by
  cases hl:lendF DF f c with
  | false=>rw [hl] at h; exact ⟨fun h=>(by cases h),h⟩
  | true =>
   rw [hl] at h
   have h:=ite_some (show (if flatL c.rs (splitR c.rs (outs c.ps) y).1=true then _ else none)=some z from h) rfl
   exact ⟨fun _=>h.1,h.2⟩
 simp only [Bool.and_eq_true,List.all_eq_true,decide_eq_true_eq,Bool.not_eq_true'] at hchk
 obtain ⟨hnd,hids⟩:=hchk
 have hnd:=nodupB_ok hnd
 refine ⟨_,⟨rfl,?_,quotePs_hp hq,?_,?_⟩,h⟩
 ·intro p hp
  rcases List.mem_append.1 hp with hp | hp
  ·exact hft p hp
  ·exact opds_temps ha p hp
 ·intro id hid
  have hid:id ∈ List.range' base 16:=hid
  rw [List.mem_range'_1] at hid
  omega
 ·intro fr σ' φ I act w K Q hR hv hdn hK
  obtain ⟨hcall,hcon⟩:=hG f c hc
  obtain ⟨cvs,hcv,hcaps⟩:RV fr.J φ I w (.clo f caps) (act.eval fv):=hfv fr σ' φ I act w hR fun p hp=>hv.1 p (List.mem_append_left _ hp)
  have hargs:=opds_eval hR ha fun p hp=>hv.1 p (List.mem_append_right _ hp)
  have hall:all2 (RA fr.J φ I w) (avs ++ caps.map fun p=>.sv false [p.cv]) (args.toList.map act.eval ++ cvs):=by
   exact hargs.append (caps_all hcaps)
  obtain ⟨hpre,hhas⟩:=quotePs_ok (I':=fun b=>I b ∨ (lendC DF f c=true∧MineIn fr σ' φ rd b)) hR hq hv.2.1 ⟨fun b h=>.inl h,fun hL b h=>.inr ⟨hL,h⟩⟩ hall
  obtain ⟨hout1,hout2⟩:=outIds_ok hR hq hv.2.1 hall
  have hlt:∀ b,I b ∨ MineIn fr σ' φ rd b→b < w.heap.size:=by
   rintro b (h1 | h1 | ⟨id,hv',u,_,h2,h3,h4,h5⟩)
   ·exact hR.lt b (.inl h1)
   ·exact hR.lt b (.inr h1)
   ·exact hR.heap_lt h2 h3 h4 h5
  have hB:∀ b ∈ blks φ ids,∃ id ∈ ids,∃ hv' v,σ'.heap id=some hv'∧hv'.owned=true∧φ id=some v∧blk v=some b:=by
   intro b hb
   obtain ⟨id,h1,v,h2,h3⟩:=mem_blks hb
   obtain ⟨hv',h4,h5⟩:=hhas id h1
   exact ⟨id,h1,hv',v,h4,h5,h2,h3⟩
  have hBs:∀ b ∈ blks φ ids,¬ I b∧¬ MineIn fr σ' φ rd b∧b < w.heap.size:=by
   intro b hb
   obtain ⟨id,h1,hv',v,h2,h3,h4,h5⟩:=hB b hb
   obtain ⟨h6,h7,h8⟩:=hR.own id hv' v b h2 h3 h4 h5
   refine ⟨h6,?_,hR.heap_lt h2 h3 h4 h5⟩
   rintro (h9 | ⟨id',hv'',u,h9,h10,h11,h12,h13⟩)
   ·exact h7 h9
   ·refine hR.sep id id' hv' hv'' v u b ?_ h2 h10 h3 h11 h4 h12 h5 h13
    rintro rfl
    have:=(hids id h1).2
    simp [h9] at this
  have hcalls:=hcon n x y hy w (MineIn fr σ' φ rd) (fun b=>I b ∨ (lendC DF f c=true∧MineIn fr σ' φ rd b)) _ (blks φ ids) (fun b h=>hlt b (h.elim (fun h=>h.elim .inl fun h=>.inr h.2) .inr)) (hR.nodup hnd hhas) (fun b hb=>⟨fun h=>h.elim (hBs b hb).1 fun h=>(hBs b hb).2.1 h.2,(hBs b hb).2⟩) hpre
  unfold Oper.wp
  have hrun:(execOp act.eval o).run P w=.ok (.enter f (args.toList.map act.eval ++ cvs).toArray) w:=by
   unfold execOp
   simp only [ho,resolve,hcv,Deferred.ofValue,Sem.run_bind,Sem.run_pure,Result.andThen_ok,invoke,hcall]
   congr 2
   apply Array.ext'
   simp
  rw [hrun,Oper.upon_enter]
  refine hcalls.mono ?_
  rintro e w' hpost
  obtain ⟨us,I',B1,B2,rfl,hp1,hp2,honly,hI,hI',hnd2,hB2⟩:∃ us I' B1 B2,e=.returned (single us)∧PostL I' w' c.rs (splitR c.rs (outs c.ps) y).1 us B1∧PostL I' w' (outs c.ps) (splitR c.rs (outs c.ps) y).2 (outVals c.ps (args.toList.map act.eval ++ cvs)) B2 ∧
    OnlyP (· ∈ blks φ ids) w w'∧(∀ b,I b→I' b)∧(∀ b,I' b→(I b ∨ b ∈ blks φ ids ∨ w.heap.size ≤ b)∧b < w'.heap.size)∧(B1 ++ B2).Nodup∧∀ b ∈ B1 ++ B2,¬ I' b∧(b ∈ blks φ ids ∨ w.heap.size ≤ b):=by
   obtain ⟨us,I',B1,B2,he,hp1,hp2,honly,hI,hI',hnd2,hB2⟩:=hpost
   cases hL:lendC DF f c with
   | false=>exact ⟨us,I',B1,B2,he,hp1,hp2,honly,fun b h=>hI b (.inl h),fun b hb=>⟨by
     rcases (hI' b hb).1 with (h | h) | h
     ·exact .inl h
     ·rw [hL] at h; cases h.1
     ·exact .inr h,(hI' b hb).2⟩,hnd2,hB2⟩
   | true =>
    obtain ⟨hp3,hno⟩:PostL I w' c.rs (splitR c.rs (outs c.ps) y).1 us B1∧outs c.ps=[]:=by
     have hs:(scalC c || lendF DF f c)=true:=hL
     rw [Bool.or_eq_true] at hs
     rcases hs with hs | hs
     ·unfold scalC at hs
      rw [Bool.and_eq_true] at hs
      exact ⟨scalL_ok (I':=I) hs.1 hp1,List.isEmpty_iff.1 hs.2⟩
     ·refine ⟨flatL_ok (hflat hs) hp1,?_⟩
      unfold lendF at hs
      simp only [Bool.and_eq_true] at hs
      exact List.isEmpty_iff.1 hs.2.2
    have hp4:PostL I w' (outs c.ps) (splitR c.rs (outs c.ps) y).2 (outVals c.ps (args.toList.map act.eval ++ cvs)) B2:=scalL_ok (I':=I) (by rw [hno]; rfl) hp2
    exact ⟨us,I,B1,B2,he,hp3,hp4,honly,fun b h=>h,fun b hb=>⟨.inl hb,Nat.lt_of_lt_of_le (hR.lt b (.inl hb)) honly.size⟩,hnd2,fun b hb=>⟨fun h=>(hB2 b hb).1 (hI b (.inl h)),(hB2 b hb).2⟩⟩
  obtain ⟨ψ1,u1,k1⟩:=resL_ok base hp1
  obtain ⟨ψ2,u2,k2⟩:=outL_ok (base + cntL c.rs) (outs_g c.ps) hp2 hout1 (fun id hid=>by have:=(hids id (hout2.subset hid)).1; omega) (hout2.nodup hnd)
  obtain ⟨u3,k3⟩:=u1.app u2 (fun id h1 h2=>by
   rcases h2 with h2 | h2
   ·have:=(hids id (hout2.subset h2)).1; omega
   ·omega)
  have hnew:∀ id,base ≤ id→id < base + 16→φ id=none:=fun id h1 h2=>hR.fresh id (hv.2.2 id (List.mem_range'_1.2 ⟨h1,h2⟩))
  have hold:∀ id v,bothψ ψ1 ψ2 id=some v→(base ≤ id∧id < base + 16) ∨ (id ∈ ids∧φ id=some v):=by
   intro id v hx
   rcases bothψ_cases hx with h1 | ⟨_,h1⟩
   ·have:=u1.dom id v h1; left; omega
   ·rcases u2.dom id v h1 with h2 | h2
    ·exact .inr ⟨hout2.subset h2,k2 id h2 v h1⟩
    ·left; omega
  have hmono:∀ id u,φ id=some u→bothψ (bothψ ψ1 ψ2) φ id=some u:=by
   intro id u hu
   cases hx:bothψ ψ1 ψ2 id with
   | none =>
    have:bothψ (bothψ ψ1 ψ2) φ id=(bothψ ψ1 ψ2 id).or (φ id):=rfl
    rw [this,hx]; exact hu
   | some v =>
    rcases hold id v hx with ⟨h1,h2⟩ | ⟨_,h1⟩
    ·rw [hnew id h1 h2] at hu; cases hu
    ·rw [hu] at h1; cases h1
     exact bothψ_l hx
  have hwr:∀ id hv',((resL c.rs (splitR c.rs (outs c.ps) y).1 base).2 ++ outL (outs c.ps) (splitR c.rs (outs c.ps) y).2 (outIds c.ps (avs ++ caps.map fun p=>.sv false [p.cv])) (base + cntL c.rs) ++ ids.map fun i=>(i,(none:Option HV))).lookup id=some (some hv') →
    hv'.owned=true∧RH fr.J (bothψ (bothψ ψ1 ψ2) φ) I' w' id hv'∧(∃ v,bothψ ψ1 ψ2 id=some v)∧hv'.plain=true:=by
   intro id hv' hx
   rw [lookup_app] at hx
   cases hl:((resL c.rs (splitR c.rs (outs c.ps) y).1 base).2 ++ outL (outs c.ps) (splitR c.rs (outs c.ps) y).2 (outIds c.ps (avs ++ caps.map fun p=>.sv false [p.cv])) (base + cntL c.rs)).lookup id with
   | none =>
    rw [hl] at hx
    simp only [lookup_nones] at hx
    split at hx <;> cases hx
   | some q =>
    rw [hl] at hx
    cases hx
    obtain ⟨hv1,v,e1,e2,e3,e4⟩:=u3.hs (bothψ (bothψ ψ1 ψ2) φ) fr.J (fun id v h=>bothψ_l h) id _ hl
    cases e1
    exact ⟨e2.1,e3,⟨v,e4⟩,e2.2⟩
  have hno:∀ id,((resL c.rs (splitR c.rs (outs c.ps) y).1 base).2 ++ outL (outs c.ps) (splitR c.rs (outs c.ps) y).2 (outIds c.ps (avs ++ caps.map fun p=>.sv false [p.cv])) (base + cntL c.rs) ++ ids.map fun i=>(i,(none:Option HV))).lookup id=none→id ∉ ids:=by
   intro id hx hm
   rw [lookup_app] at hx
   split at hx
   ·cases hx
   ·rw [lookup_nones,if_pos hm] at hx; cases hx
  have hval:∀ id u v,bothψ ψ1 ψ2 id=some v→bothψ (bothψ ψ1 ψ2) φ id=some u→u=v:=by
   intro id u v h1 h2
   rw [bothψ_l h1] at h2
   exact (Option.some.inj h2).symm
  refine hK (bothψ (bothψ ψ1 ψ2) φ) I' (single us) w' (hR.upd ⟨o.dst,some (resAV (resL c.rs (splitR c.rs (outs c.ps) y).1 base).1),tl0 ++ tl,hp,(resL c.rs (splitR c.rs (outs c.ps) y).1 base).2 ++ outL (outs c.ps) (splitR c.rs (outs c.ps) y).2 (outIds c.ps (avs ++ caps.map fun p=>.sv false [p.cv])) (base + cntL c.rs) ++ ids.map fun i=>(i,none),List.range' base 16⟩
   (G:=(· ∈ blks φ ids)) hdn hmono hI ?_ honly ?_ ?_ ?_ (fun id hv' hx=>(hwr id hv' hx).2.1) ?_ ?_ ?_ ?_ ?_ ?_ ?_ fun id hv' hx=>(hwr id hv' hx).2.2.2)
  ·intro id hf hn
   cases hx:bothψ (bothψ ψ1 ψ2) φ id with
   | none=>rfl
   | some v =>
    rcases bothψ_cases hx with h1 | ⟨_,h1⟩
    ·rcases hold id v h1 with ⟨h2,h3⟩ | ⟨_,h2⟩
     ·exact (hn (List.mem_range'_1.2 ⟨h2,h3⟩)).elim
     ·rw [hR.fresh id hf] at h2; cases h2
    ·rw [hR.fresh id hf] at h1; cases h1
  ·intro b hb
   obtain ⟨id,h1,hv',v,h2,h3,h4,h5⟩:=hB b hb
   exact hR.own id hv' v b h2 h3 h4 h5
  ·intro id hv' u b hl h1 h2 h3 h4 hb
   obtain ⟨id',h5,hv'',v,h6,h7,h8,h9⟩:=hB b hb
   exact hR.sep id id' hv' hv'' u v b (fun e=>hno id hl (e ▸ h5)) h1 h6 h2 h7 h3 h8 h4 h9
  ·intro b hb
   obtain ⟨h1,h2⟩:=hI' b hb
   rcases h1 with h1 | h1 | h1
   ·exact .inl h1
   ·obtain ⟨id',h5,hv'',v,h6,h7,h8,h9⟩:=hB b h1
    obtain ⟨_,h10,h11⟩:=hR.own id' hv'' v b h6 h7 h8 h9
    exact .inr ⟨h11,h2,h10,fun id hv' u hl h1 h2 h3 h4=>hR.sep id id' hv' hv'' u v b (fun e=>hno id hl (e ▸ h5)) h1 h6 h2 h7 h3 h8 h4 h9⟩
   ·refine .inr ⟨.inr (Nat.le_trans hR.only.size h1),h2,fun hj=>?_,fun id hv' u _ h3 h4 h5 h6=>?_⟩
    ·have:=hR.lt b (.inr hj); omega
    ·have:=hR.heap_lt h3 h4 h5 h6; omega
  ·intro id hv' u b hx ho' hu hb
   obtain ⟨_,_,⟨v,hψ⟩,_⟩:=hwr id hv' hx
   have:=hval id u v hψ hu
   subst this
   have hm:=u3.mem id u b hψ hb
   obtain ⟨h1,h2⟩:=hB2 b hm
   refine ⟨h1,?_⟩
   rcases h2 with h2 | h2
   ·obtain ⟨id',h5,hv'',v,h6,h7,h8,h9⟩:=hB b h2
    obtain ⟨_,h10,h11⟩:=hR.own id' hv'' v b h6 h7 h8 h9
    exact ⟨h10,h11⟩
   ·exact ⟨fun hj=>by have:=hR.lt b (.inr hj); omega,.inr (Nat.le_trans hR.only.size h2)⟩
  ·intro id id' hv1 hv2 u u' b hx hl h3 ho1 ho2 hu hu' hb hb'
   obtain ⟨_,_,⟨v,hψ⟩,_⟩:=hwr id hv1 hx
   have:=hval id u v hψ hu
   subst this
   have hm:=u3.mem id u b hψ hb
   obtain ⟨h1,h2⟩:=hB2 b hm
   rcases h2 with h2 | h2
   ·obtain ⟨id'',h5,hv'',v,h6,h7,h8,h9⟩:=hB b h2
    exact hR.sep id' id'' hv2 hv'' u' v b (fun e=>hno id' hl (e ▸ h5)) h3 h6 ho2 h7 hu' h8 hb' h9
   ·have:=hR.heap_lt h3 ho2 hu' hb'
    omega
  ·intro id id' hv1 hv2 u u' b hne hx hx' ho1 ho2 hu hu' hb hb'
   obtain ⟨_,_,⟨v,hψ⟩,_⟩:=hwr id hv1 hx
   have:=hval id u v hψ hu
   subst this
   obtain ⟨_,_,⟨v',hψ'⟩,_⟩:=hwr id' hv2 hx'
   have:=hval id' u' v' hψ' hu'
   subst this
   exact u3.inj hnd2 id id' u u' b hne hψ hψ' hb hb'
  ·intro av e
   simp only [Option.some.injEq] at e
   subst e
   exact resAV_ok (k1 (bothψ (bothψ ψ1 ψ2) φ) fr.J fun id v h=>bothψ_l (bothψ_l h))
  ·intro b hb
   obtain ⟨id,h1,hv',v,h2,h3,h4,h5⟩:=hB b hb
   exact .inr ⟨id,hv',v,h2,h3,h4,h5⟩
  ·intro b hb
   rcases (hI' b hb).1 with h1 | h1 | h1
   ·exact .inl h1
   ·obtain ⟨id,h1,hv',v,h2,h3,h4,h5⟩:=hB b h1
    exact .inr (.inr ⟨id,hv',v,h2,h3,h4,h5⟩)
   ·exact .inr (.inl h1)
  ·intro id hv' u b hx ho' hu hb
   obtain ⟨_,_,⟨v,hψ⟩,_⟩:=hwr id hv' hx
   have:=hval id u v hψ hu
   subst this
   rcases (hB2 b (u3.mem id u b hψ hb)).2 with h1 | h1
   ·obtain ⟨id,h1,hv',v,h2,h3,h4,h5⟩:=hB b h1
    exact .inr ⟨id,hv',v,h2,h3,h4,h5⟩
   ·exact .inl h1
theorem opCall_ok {P:Program} {DF:List FuncId} {G:List (FuncId×Con)} (hG:GOK P G) {n:Nat} {o:Oper} {σ:LS} {fv:Operand} {args:Array Operand} {ts:Array TypeId} {base:Nat} {kk:Rec→Option ρ} {z:ρ} (ho:o.op=.call { callee:=.value fv,args,argTypes:=ts })
  (h:opCall DF G n o σ base fv args.toList kk=some z):∃ r,Good P o σ base r∧kk r=some z:=by
 unfold opCall at h
 split at h
 case h_2=>cases h
 case h_1 f caps tl0 hf =>
 exact opCallV_ok hG ho (fun p hp=>opd_temps hf p hp) (fun fr σ' φ I act w hR hp=>opd_eval hf hR hp) h
end
end Go.Ev
