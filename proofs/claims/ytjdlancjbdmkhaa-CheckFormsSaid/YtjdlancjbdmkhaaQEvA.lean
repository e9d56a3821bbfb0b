/- A checked evaluator, part A: types of data, abstract values, what they say of the machine's memory. -/
import Derived.Orders
import Derived.WalkKit
import Derived.Laws.OwnMore
import Derived.Deep.AppendLies
namespace Go.Ev
open Go.RowKit
set_option linter.unusedVariables false
inductive Ty where
 | int (k:IntKind)
 | bool
 | str
 | unit
 | pair (a b:Ty)
 | seq (e:TypeId) (k:Ty)
 | fn
 | mset
 deriving DecidableEq
@[reducible] def D:Ty→Type
 | .int _=>Int
 | .bool=>Bool
 | .str=>ByteArray
 | .unit=>Unit
 | .pair a b=>D a×D b
 | .seq _ k=>List (D k)
 | .fn=>Option Nat
 | .mset=>List (Int×Bool)
def dflt:(k:Ty)→D k
 | .int _=>(0:Int)
 | .bool=>false
 | .str=>ByteArray.empty
 | .unit=>()
 | .pair a b=>(dflt a,dflt b)
 | .seq _ _=>[]
 | .fn=>none
 | .mset=>[]
def size:Ty→Nat
 | .unit=>0
 | .pair a b=>size a + size b
 | _=>1
def rd {k:Ty} (xs:List (D k)) (i:Int):D k:=xs.getD i.toNat (dflt k)
abbrev nl (α:Type):List α:=[]
inductive Cp where
 | ptr (id off:Nat)
 | ip (k:Ty) (x:D k) (off:Nat)
inductive CV where
 | lit (v:Value)
 | ptr (id off:Nat)
 | iptr (k:Ty) (x:D k) (off:Nat)
 | eptr (id sz:Nat) (i:Int) (off:Nat)
 | imm (e:TypeId) (k:Ty) (xs:List (D k))
 | own (id:Nat)
 | clo (f:FuncId) (caps:List Cp)
 | view (id sz:Nat) (lo n:Int)
 | dyn (g:Option Nat)
 | immm (xs:List (Int×Bool))
def Cp.cv:Cp→CV
 | .ptr id off=>.ptr id off
 | .ip k x off=>.iptr k x off
inductive AV where
 | sv (g:Bool) (cs:List CV)
 | tup (l:List (Bool×List CV))
inductive HV where
 | cells (cs:List CV)
 | row (e:TypeId) (k:Ty) (xs:List (D k))
 | frozen (e:TypeId) (k:Ty) (xs:List (D k))
 | buf (e:TypeId) (k:Ty) (bs:List (Option (D k)))
 | nest (e:TypeId) (k0:Ty) (e1:TypeId) (k1:Ty) (xs:List (D k0×List (D k1))) (lk:Nat)
 | lock (r:Nat) (ver:Nat) (st:Option (Nat×Int))
 | peek (r:Nat) (i:Int) (ver:Nat)
 | pend (r:Nat) (e1:TypeId) (k1:Ty) (ys:List (D k1))
 | map (xs:List (Int×Bool))
def HV.owned:HV→Bool
 | .frozen ..=>false
 | .lock ..=>false
 | .peek ..=>false
 | .pend ..=>false
 | _=>true
def HV.plain:HV→Bool
 | .nest ..=>false
 | .lock ..=>false
 | .peek ..=>false
 | .pend ..=>false
 | _=>true
def cellsOf:(k:Ty)→D k→List CV
 | .int k,n=>[.lit (.int k n)]
 | .bool,b=>[.lit (.bool b)]
 | .str,s=>[.lit (.string s)]
 | .unit,_=>[]
 | .pair a b,x=>cellsOf a x.1 ++ cellsOf b x.2
 | .seq e k,xs=>[.imm e k xs]
 | .fn,g=>[.dyn g]
 | .mset,xs=>[.immm xs]
def fnV:Option Nat→Value
 | none=>.nilFunc
 | some g=>.func (.func g) #[] #[]
theorem fnV_one (g:Option Nat):(fnV g).oneCell'=true:=by cases g <;> rfl
def wfI (n:Int):Bool:=decide (-9223372036854775808 ≤ n) && decide (n ≤ 9223372036854775807)
def mget (xs:List (Int×Bool)) (n:Int):Bool:=(xs.lookup n).getD false
structure MapOK (es:Array MapEntry) (xs:List (Int×Bool)):Prop where
 all:∀ e ∈ es.toList,∃ x b,e.key=.int .i64 x∧e.val=.bool b∧wfI x=true
 nodup:(es.toList.map (·.key)).Nodup
 look:∀ x b,wfI x=true→(xs.lookup x=some b ↔ ∃ e ∈ es.toList,e.key=.int .i64 x∧e.val=.bool b)
def all2 {α β:Type} (R:α→β→Prop):List α→List β→Prop
 | [],[]=>True
 | a :: as,b :: bs=>R a b∧all2 R as bs
 | _,_=>False
section
variable {α β:Type} {R S:α→β→Prop}
theorem all2.mono (h:∀ a b,R a b→S a b):∀ {as:List α} {bs:List β},all2 R as bs→all2 S as bs
 | [],[],_=>trivial
 | _ :: _,_ :: _,⟨h1,h2⟩=>⟨h _ _ h1,all2.mono h h2⟩
 | [],_ :: _,h2=>h2.elim
 | _ :: _,[],h2=>h2.elim
theorem all2.length:∀ {as:List α} {bs:List β},all2 R as bs→as.length=bs.length
 | [],[],_=>rfl
 | _ :: _,_ :: _,⟨_,h2⟩=>by simp [all2.length h2]
 | [],_ :: _,h2=>h2.elim
 | _ :: _,[],h2=>h2.elim
theorem all2.append:∀ {as:List α} {bs:List β} {as':List α} {bs':List β},all2 R as bs→all2 R as' bs'→all2 R (as ++ as') (bs ++ bs')
 | [],[],_,_,_,h=>h
 | _ :: _,_ :: _,_,_,⟨h1,h2⟩,h=>⟨h1,all2.append h2 h⟩
 | [],_ :: _,_,_,h2,_=>h2.elim
 | _ :: _,[],_,_,h2,_=>h2.elim
theorem all2.take:∀ (n:Nat) {as:List α} {bs:List β},all2 R as bs→all2 R (as.take n) (bs.take n)
 | 0,_,_,_=>by simp [all2]
 | n + 1,[],[],_=>trivial
 | n + 1,_ :: _,_ :: _,⟨h1,h2⟩=>⟨h1,all2.take n h2⟩
 | _ + 1,[],_ :: _,h2=>h2.elim
 | _ + 1,_ :: _,[],h2=>h2.elim
theorem all2.drop:∀ (n:Nat) {as:List α} {bs:List β},all2 R as bs→all2 R (as.drop n) (bs.drop n)
 | 0,_,_,h=>by simpa using h
 | n + 1,[],[],_=>trivial
 | n + 1,_ :: _,_ :: _,⟨_,h2⟩=>all2.drop n h2
 | _ + 1,[],_ :: _,h2=>h2.elim
 | _ + 1,_ :: _,[],h2=>h2.elim
theorem all2.get:∀ {as:List α} {bs:List β},all2 R as bs→∀ {i:Nat} {a:α},as[i]?=some a→∃ b,bs[i]?=some b∧R a b
 | _ :: _,_ :: _,⟨h1,_⟩,0,_,e=>by simp at e; subst e; exact ⟨_,rfl,h1⟩
 | _ :: _,_ :: _,⟨_,h2⟩,i + 1,_,e=>all2.get h2 (by simpa using e)
 | [],[],_,_,_,e=>by simp at e
 | [],_ :: _,h2,_,_,_=>h2.elim
 | _ :: _,[],h2,_,_,_=>h2.elim
theorem all2.set:∀ {as:List α} {bs:List β},all2 R as bs→∀ (i:Nat) {a:α} {b:β},R a b→all2 R (as.set i a) (bs.set i b)
 | _ :: _,_ :: _,⟨_,h2⟩,0,_,_,h=>⟨h,h2⟩
 | _ :: _,_ :: _,⟨h1,h2⟩,i + 1,_,_,h=>⟨h1,all2.set h2 i h⟩
 | [],[],_,_,_,_,_=>trivial
 | [],_ :: _,h2,_,_,_,_=>h2.elim
 | _ :: _,[],h2,_,_,_,_=>h2.elim
end
def lst {α:Type} (R:α→List Value→Prop):List α→List Value→Prop
 | [],vs=>vs=[]
 | x :: xs,vs=>∃ v1 v2,vs=v1 ++ v2∧R x v1∧lst R xs v2
theorem lst.mono {α:Type} {R S:α→List Value→Prop} (h:∀ a v,R a v→S a v):∀ {xs:List α} {vs:List Value},lst R xs vs→lst S xs vs
 | [],_,e=>e
 | _ :: _,_,⟨v1,v2,e,h1,h2⟩=>⟨v1,v2,e,h _ _ h1,lst.mono h h2⟩
theorem lst.length {α:Type} {R:α→List Value→Prop} {n:Nat} (h:∀ a v,R a v→v.length=n):∀ {xs:List α} {vs:List Value},lst R xs vs→vs.length=xs.length * n
 | [],_,e=>by subst e; simp
 | _ :: xs,_,⟨v1,v2,e,h1,h2⟩=>by
  subst e
  have h3:=lst.length h h2
  have h4:=h _ _ h1
  simp only [List.length_append,List.length_cons,Nat.add_mul]
  omega
theorem lst.append {α:Type} {R:α→List Value→Prop}:∀ {xs ys:List α} {vs us:List Value},lst R xs vs→lst R ys us→lst R (xs ++ ys) (vs ++ us)
 | [],_,_,_,e,h=>by subst e; exact h
 | _ :: _,_,_,_,⟨v1,v2,e,h1,h2⟩,h=>by subst e; exact ⟨v1,v2 ++ _,by simp,h1,lst.append h2 h⟩
theorem lst.all {α:Type} {R:α→List Value→Prop} {p:Value→Prop} (h:∀ a v,R a v→∀ u ∈ v,p u):∀ {xs:List α} {vs:List Value},lst R xs vs→∀ u ∈ vs,p u
 | [],_,e,_,hu=>by subst e; simp at hu
 | _ :: _,_,⟨v1,v2,e,h1,h2⟩,u,hu=>by
  subst e
  rcases List.mem_append.1 hu with hu | hu
  ·exact h _ _ h1 u hu
  ·exact lst.all h h2 u hu
theorem lst.at {α:Type} {R:α→List Value→Prop} {n:Nat} (hn:∀ a v,R a v→v.length=n):∀ {xs:List α} {vs:List Value},lst R xs vs→∀ (i:Nat) (hi:i < xs.length),∃ v,R xs[i] v∧∀ j,j < n→vs[i * n + j]?=v[j]?
 | x :: xs,_,⟨v1,v2,e,h1,h2⟩,0,_=>by
  subst e
  refine ⟨v1,h1,fun j hj=>?_⟩
  rw [Nat.zero_mul,Nat.zero_add,List.getElem?_append_left (by rw [hn _ _ h1]; exact hj)]
 | x :: xs,_,⟨v1,v2,e,h1,h2⟩,i + 1,hi=>by
  subst e
  obtain ⟨v,h3,h4⟩:=lst.at hn h2 i (by simpa using hi)
  refine ⟨v,by simpa using h3,fun j hj=>?_⟩
  have hl:=hn _ _ h1
  have e1:(i + 1) * n + j=n + (i * n + j):=by rw [Nat.add_mul]; omega
  rw [e1,List.getElem?_append_right (by omega),hl,Nat.add_sub_cancel_left]
  exact h4 j hj
theorem lst.take {α:Type} {R:α→List Value→Prop} {n:Nat} (hn:∀ a v,R a v→v.length=n):∀ {xs:List α} {vs:List Value} (i:Nat),lst R xs vs→lst R (xs.take i) (vs.take (i * n))
 | xs,_,0,_=>by simp [lst]
 | [],_,i + 1,e=>by subst e; simp [lst]
 | x :: xs,_,i + 1,⟨v1,v2,e,h1,h2⟩=>by
  subst e
  refine ⟨v1,v2.take (i * n),?_,h1,lst.take hn i h2⟩
  have hl:=hn _ _ h1
  rw [Nat.add_mul,Nat.one_mul,Nat.add_comm,← hl,List.take_length_add_append]
theorem lst.drop {α:Type} {R:α→List Value→Prop} {n:Nat} (hn:∀ a v,R a v→v.length=n):∀ {xs:List α} {vs:List Value} (i:Nat),lst R xs vs→lst R (xs.drop i) (vs.drop (i * n))
 | xs,_,0,h=>by simpa using h
 | [],_,i + 1,e=>by subst e; simp [lst]
 | x :: xs,_,i + 1,⟨v1,v2,e,h1,h2⟩=>by
  subst e
  have hl:=hn _ _ h1
  have e1:(i + 1) * n=v1.length + i * n:=by rw [Nat.add_mul,hl]; omega
  rw [e1,List.drop_length_add_append]
  exact lst.drop hn i h2
theorem lst.set {α:Type} {R:α→List Value→Prop} {n:Nat} (hn:∀ a v,R a v→v.length=n) {y:α} {v:List Value} (hy:R y v):∀ {xs:List α} {vs:List Value},lst R xs vs→∀ (i:Nat),i < xs.length →
  lst R (xs.set i y) (vs.take (i * n) ++ v ++ vs.drop (i * n + n))
 | x :: xs,_,⟨v1,v2,e,h1,h2⟩,0,_=>by
  subst e
  have hl:=hn _ _ h1
  refine ⟨v,v2,?_,hy,h2⟩
  simp [← hl]
 | x :: xs,_,⟨v1,v2,e,h1,h2⟩,i + 1,hi=>by
  subst e
  have hl:=hn _ _ h1
  refine ⟨v1,_,?_,h1,lst.set hn hy h2 i (by simpa using hi)⟩
  have e1:(i + 1) * n=v1.length + i * n:=by rw [Nat.add_mul,hl]; omega
  have e2:(i + 1) * n + n=v1.length + (i * n + n):=by omega
  rw [e2,e1,List.take_length_add_append,List.drop_length_add_append]
  simp
structure OnlyP (F:Nat→Prop) (w w':World):Prop where
 os:w'.os=w.os
 tape:w'.tape=w.tape
 output:w'.output=w.output
 size:w.heap.size ≤ w'.heap.size
 block:∀ k,k < w.heap.size→¬ F k→w'.heap[k]?=w.heap[k]?
theorem OnlyP.refl (F:Nat→Prop) (w:World):OnlyP F w w:=⟨rfl,rfl,rfl,Nat.le_refl _,fun _ _ _=>rfl⟩
theorem OnlyP.trans {F G:Nat→Prop} {a b c:World} (h:OnlyP F a b) (k:OnlyP G b c) (hs:∀ g,G g→F g ∨ a.heap.size ≤ g):OnlyP F a c :=
 ⟨k.os.trans h.os,k.tape.trans h.tape,k.output.trans h.output,Nat.le_trans h.size k.size,fun i hi hf=>by
  rw [k.block i (Nat.lt_of_lt_of_le hi h.size) fun hg=>?_,h.block i hi hf]
  rcases hs i hg with h1 | h1
  ·exact hf h1
  ·omega⟩
theorem OnlyP.mono {F G:Nat→Prop} {w w':World} (h:OnlyP F w w') (hs:∀ k,F k→G k ∨ w.heap.size ≤ k):OnlyP G w w' :=
 ⟨h.os,h.tape,h.output,h.size,fun k hk hg=>h.block k hk fun hf=>by rcases hs k hf with h1 | h1; exact hg h1; omega⟩
theorem OnlyP.alloc (w:World) (o:Obj):OnlyP (fun _=>False) w (w.alloc o):=⟨rfl,rfl,rfl,by simp,fun k hk _=>Below.heap_alloc w o k hk⟩
theorem OnlyP.setRow (w:World) (g:Nat) (cs:Array Value):OnlyP (·=g) w (w.setRow g cs):=⟨rfl,rfl,rfl,by simp,fun k _ hk=>setRow_other w g k cs hk⟩
theorem OnlyP.of_grown {w w':World} {row:Option Nat} (h:w.grownBy w' row):OnlyP (fun b=>row=some b) w w' :=
 ⟨h.os,h.tape,h.output,h.size,fun k hk hf=>h.block k hk fun e=>hf e.symm⟩
theorem OnlyP.cell {F:Nat→Prop} {w w':World} (h:OnlyP F w w') {p:Addr} {v:Value} (hc:w.cell? p=some v) (hp:¬ F p.block):w'.cell? p=some v :=
 (World.cell?_of_block (h.block p.block (World.block_lt_of_cell? w p hc) hp)).trans hc
theorem OnlyP.heap {F:Nat→Prop} {w w':World} (h:OnlyP F w w') {b:Nat} {o:Obj} (hc:w.heap[b]?=some o) (hp:¬ F b):w'.heap[b]?=some o :=
 (h.block b (Array.getElem?_eq_some_iff.1 hc).1 hp).trans hc
def RdC (I:Nat→Prop) (w:World):(k:Ty)→D k→List Value→Prop
 | .int k,n,vs=>vs=[.int k n]
 | .bool,b,vs=>vs=[.bool b]
 | .str,s,vs=>vs=[.string s]
 | .unit,_,vs=>vs=[]
 | .pair a b,x,vs=>∃ v1 v2,vs=v1 ++ v2∧RdC I w a x.1 v1∧RdC I w b x.2 v2
 | .seq _ k,xs,vs=>∃ a c,vs=[.slice a (List.length xs) c]∧List.length xs ≤ c∧((xs:List (D k))=[] ∨ ∃ b o us,a=some ⟨b,o,none⟩∧I b∧lst (RdC I w k) xs us∧∀ j u,us[j]?=some u→w.cell? ⟨b,o + j,none⟩=some u)
 | .fn,g,vs=>vs=[fnV g]
 | .mset,xs,vs=>∃ v,vs=[v]∧((v=.map none∧xs=[]) ∨ ∃ b es cl,v=.map (some b)∧I b∧w.heap[b]?=some (.map es cl)∧MapOK es xs)
theorem RdC.length {I:Nat→Prop} {w:World}:∀ {k:Ty} {x:D k} {vs:List Value},RdC I w k x vs→vs.length=size k
 | .int _,_,_,h=>by rw [show _=_ from h]; rfl
 | .bool,_,_,h=>by rw [show _=_ from h]; rfl
 | .str,_,_,h=>by rw [show _=_ from h]; rfl
 | .unit,_,_,h=>by rw [show _=_ from h]; rfl
 | .pair _ _,_,_,⟨v1,v2,e,h1,h2⟩=>by subst e; simp [size,RdC.length h1,RdC.length h2]
 | .seq _ _,_,_,⟨a,c,e,_⟩=>by subst e; rfl
 | .fn,_,_,h=>by rw [show _=_ from h]; rfl
 | .mset,_,_,⟨v,e,_⟩=>by subst e; rfl
theorem RdC.mono {I I':Nat→Prop} {w w':World} (hI:∀ b,I b→I' b) (hw:∀ b,I b→w'.heap[b]?=w.heap[b]?):∀ {k:Ty} {x:D k} {vs:List Value},RdC I w k x vs→RdC I' w' k x vs
 | .int _,_,_,h=>h
 | .bool,_,_,h=>h
 | .str,_,_,h=>h
 | .unit,_,_,h=>h
 | .pair _ _,_,_,⟨v1,v2,e,h1,h2⟩=>⟨v1,v2,e,RdC.mono hI hw h1,RdC.mono hI hw h2⟩
 | .seq _ _,_,_,⟨a,c,e,hc,h⟩=>⟨a,c,e,hc,h.imp id fun ⟨b,o,us,e2,hb,h3,h4⟩ =>
   ⟨b,o,us,e2,hI b hb,lst.mono (fun _ _ h=>RdC.mono hI hw h) h3,fun j u hu=>(World.cell?_of_block (w:=w) (w':=w') (a:=⟨b,o + j,none⟩) (hw b hb)).trans (h4 j u hu)⟩⟩
 | .fn,_,_,h=>h
 | .mset,_,_,⟨v,e,h⟩=>⟨v,e,h.imp id fun ⟨b,es,cl,e2,hb,h3,h4⟩=>⟨b,es,cl,e2,hI b hb,(hw b hb).trans h3,h4⟩⟩
theorem RdC.one {I:Nat→Prop} {w:World}:∀ {k:Ty} {x:D k} {vs:List Value},RdC I w k x vs→∀ u ∈ vs,u.oneCell'=true
 | .int _,_,_,h,u,hu=>by rw [show _=_ from h] at hu; simp at hu; subst hu; rfl
 | .bool,_,_,h,u,hu=>by rw [show _=_ from h] at hu; simp at hu; subst hu; rfl
 | .str,_,_,h,u,hu=>by rw [show _=_ from h] at hu; simp at hu; subst hu; rfl
 | .unit,_,_,h,u,hu=>by rw [show _=_ from h] at hu; simp at hu
 | .pair _ _,_,_,⟨v1,v2,e,h1,h2⟩,u,hu=>by
  subst e
  rcases List.mem_append.1 hu with hu | hu
  ·exact RdC.one h1 u hu
  ·exact RdC.one h2 u hu
 | .seq _ _,_,_,⟨a,c,e,_⟩,u,hu=>by subst e; simp at hu; subst hu; rfl
 | .fn,g,_,h,u,hu=>by rw [show _=_ from h] at hu; simp at hu; subst hu; exact fnV_one g
 | .mset,_,_,⟨v,e,h⟩,u,hu=>by
  subst e; simp at hu; subst hu
  rcases h with ⟨rfl,_⟩ | ⟨b,es,cl,rfl,_⟩ <;> rfl
def pv (φ:Nat→Option Value) (id off:Nat):Option Value :=
 match φ id with
 | some (.pointer (some a))=>some (.pointer (some ⟨a.block,off,none⟩))
 | _=>none
def RC (J:Nat→Prop) (φ:Nat→Option Value) (I:Nat→Prop) (w:World):Cp→Value→Prop
 | .ptr id off,u=>pv φ id off=some u
 | .ip k x off,u=>∃ b o vs,u=.pointer (some ⟨b,o + off,none⟩)∧(I b ∨ J b)∧RdC I w k x vs∧∀ j u',vs[j]?=some u'→w.cell? ⟨b,o + j,none⟩=some u'
def ViewOK (φ:Nat→Option Value) (id sz:Nat) (lo n:Int) (u:Value):Prop :=
 (∃ g N cap o,φ id=some (.slice (some ⟨g,0,none⟩) N cap)∧u=.slice (some ⟨g,o,none⟩) n.toNat (cap - lo.toNat)∧0 ≤ lo∧0 ≤ n∧lo + n ≤ (cap:Int)∧(lo.toNat ≠ cap ∨ lo=0→o=lo.toNat * sz)) ∨
 (φ id=some (.slice none 0 0)∧u=.slice none 0 0∧lo=0∧n=0)
theorem ViewOK.mono {φ φ':Nat→Option Value} {id id' sz:Nat} {lo n:Int} {u:Value} (h:∀ v,φ id=some v→φ' id'=some v):ViewOK φ id sz lo n u→ViewOK φ' id' sz lo n u
 | .inl ⟨g,N,cap,o,h1,h2⟩=>.inl ⟨g,N,cap,o,h _ h1,h2⟩
 | .inr ⟨h1,h2⟩=>.inr ⟨h _ h1,h2⟩
def BufOK (I:Nat→Prop) (w:World) (e:TypeId) (k:Ty) (bs:List (Option (D k))) (v:Value):Prop :=
 (v=.slice none 0 0∧bs=[]) ∨ ∃ g cur,v=.slice (some ⟨g,0,none⟩) bs.length bs.length∧w.heap[g]?=some (.cells cur e (0,0))∧bs.length ≤ maxLen∧cur.size=bs.length * size k ∧
  ∀ i x,bs[i]?=some (some x)→RdC I w k x ((cur.toList.drop (i * size k)).take (size k))
def RV (J:Nat→Prop) (φ:Nat→Option Value) (I:Nat→Prop) (w:World):CV→Value→Prop
 | .lit v,u=>u=v
 | .ptr id off,u=>RC J φ I w (.ptr id off) u
 | .iptr k x off,u=>RC J φ I w (.ip k x off) u
 | .eptr id sz i off,u=>∃ b n c,φ id=some (.slice (some ⟨b,0,none⟩) n c)∧u=.pointer (some ⟨b,i.toNat * sz + off,none⟩)∧0 ≤ i∧i.toNat < n
 | .imm e k xs,u=>RdC I w (.seq e k) xs [u]
 | .own id,u=>φ id=some u∧u.oneCell'=true
 | .clo f caps,u=>∃ vs:List Value,u=.func (.func f) #[] vs.toArray∧all2 (RC J φ I w) caps vs
 | .view id sz lo n,u=>ViewOK φ id sz lo n u
 | .dyn g,u=>u=fnV g
 | .immm xs,u=>RdC I w .mset xs [u]
def RSV (J:Nat→Prop) (φ:Nat→Option Value) (I:Nat→Prop) (w:World):Bool→List CV→Value→Prop
 | true,cs,v=>∃ vs,v=.agg vs.toArray∧all2 (RV J φ I w) cs vs
 | false,[c],v=>RV J φ I w c v
 | false,_,_=>False
def RA (J:Nat→Prop) (φ:Nat→Option Value) (I:Nat→Prop) (w:World):AV→Value→Prop
 | .sv g cs,v=>RSV J φ I w g cs v
 | .tup l,v=>∃ vs,v=.tuple vs.toArray∧all2 (fun p u=>RSV J φ I w p.1 p.2 u) l vs
def RH (J:Nat→Prop) (φ:Nat→Option Value) (I:Nat→Prop) (w:World) (id:Nat):HV→Prop
 | .cells cs=>∃ b vs t,φ id=some (.pointer (some ⟨b,0,none⟩))∧w.heap[b]?=some (.cells vs.toArray t (0,0))∧all2 (RV J φ I w) cs vs∧∀ u ∈ vs,u.oneCell'=true
 | .row e k xs=>∃ v vs,φ id=some v∧w.ownsRow 0 e (size k) v xs.length vs∧lst (RdC I w k) xs vs
 | .frozen e k xs=>∃ v,φ id=some v∧RdC I w (.seq e k) xs [v]
 | .buf e k bs=>∃ v,φ id=some v∧BufOK I w e k bs v
 | .nest e k0 _ _ xs _=>∃ v vs,φ id=some v∧w.ownsRow 0 e (size k0 + 1) v xs.length vs
 | .lock ..=>∃ v,φ id=some v
 | .peek ..=>∃ v,φ id=some v
 | .pend ..=>∃ v,φ id=some v
 | .map xs=>∃ b es cl,φ id=some (.map (some b))∧w.heap[b]?=some (.map es cl)∧MapOK es xs
def blk:Value→Option Nat
 | .pointer (some a)=>some a.block
 | .slice (some a) _ _=>some a.block
 | .map (some b)=>some b
 | _=>none
section
variable {J:Nat→Prop} {φ φ':Nat→Option Value} {I I':Nat→Prop} {w w':World}
theorem pv_mono (hφ:∀ id u,φ id=some u→φ' id=some u) {id off:Nat} {u:Value} (h:pv φ id off=some u):pv φ' id off=some u:=by
 unfold pv at *
 cases he:φ id with
 | none=>rw [he] at h; cases h
 | some v=>rw [hφ _ _ he]; rw [he] at h; exact h
theorem RC.mono (hφ:∀ id u,φ id=some u→φ' id=some u) (hI:∀ b,I b→I' b) (hw:∀ b,I b ∨ J b→w'.heap[b]?=w.heap[b]?):∀ {c:Cp} {u:Value},RC J φ I w c u→RC J φ' I' w' c u
 | .ptr _ _,_,h=>pv_mono hφ h
 | .ip k x off,_,⟨b,o,vs,e,hb,h1,h2⟩=>⟨b,o,vs,e,hb.imp (hI b) id,h1.mono hI (fun b h=>hw b (.inl h)),fun j u' hu=>(World.cell?_of_block (w:=w) (w':=w') (a:=⟨b,o + j,none⟩) (hw b hb)).trans (h2 j u' hu)⟩
theorem RC.cv {c:Cp} {u:Value} (h:RC J φ I w c u):RV J φ I w c.cv u:=by cases c <;> exact h
theorem RV.mono (hφ:∀ id u,φ id=some u→φ' id=some u) (hI:∀ b,I b→I' b) (hw:∀ b,I b ∨ J b→w'.heap[b]?=w.heap[b]?):∀ {c:CV} {u:Value},RV J φ I w c u→RV J φ' I' w' c u
 | .lit _,_,h=>h
 | .ptr id off,_,h=>RC.mono (c:=.ptr id off) hφ hI hw h
 | .iptr k x off,_,h=>RC.mono (c:=.ip k x off) hφ hI hw h
 | .eptr _ _ _ _,_,⟨b,n,c,e,h⟩=>⟨b,n,c,hφ _ _ e,h⟩
 | .imm _ _ _,_,h=>RdC.mono hI (fun b h=>hw b (.inl h)) h
 | .own _,_,h=>⟨hφ _ _ h.1,h.2⟩
 | .clo _ _,_,⟨vs,e,h⟩=>⟨vs,e,h.mono fun _ _ h=>RC.mono hφ hI hw h⟩
 | .view _ _ _ _,_,h=>ViewOK.mono (fun v h=>hφ _ v h) h
 | .dyn _,_,h=>h
 | .immm _,_,h=>RdC.mono hI (fun b h=>hw b (.inl h)) h
theorem RSV.mono (hφ:∀ id u,φ id=some u→φ' id=some u) (hI:∀ b,I b→I' b) (hw:∀ b,I b ∨ J b→w'.heap[b]?=w.heap[b]?):∀ {g:Bool} {cs:List CV} {u:Value},RSV J φ I w g cs u→RSV J φ' I' w' g cs u
 | true,_,_,⟨vs,e,h⟩=>⟨vs,e,h.mono fun _ _ h=>RV.mono hφ hI hw h⟩
 | false,[_],_,h=>RV.mono hφ hI hw h
theorem RA.mono (hφ:∀ id u,φ id=some u→φ' id=some u) (hI:∀ b,I b→I' b) (hw:∀ b,I b ∨ J b→w'.heap[b]?=w.heap[b]?):∀ {c:AV} {u:Value},RA J φ I w c u→RA J φ' I' w' c u
 | .sv _ _,_,h=>RSV.mono hφ hI hw h
 | .tup _,_,⟨vs,e,h⟩=>⟨vs,e,h.mono fun _ _ h=>RSV.mono hφ hI hw h⟩
theorem RH.mono (hφ:∀ id u,φ id=some u→φ' id=some u) (hI:∀ b,I b→I' b) (hw:∀ b,I b ∨ J b→w'.heap[b]?=w.heap[b]?) {id:Nat} :
  ∀ {h:HV},RH J φ I w id h→(h.owned=true→∀ b v,φ id=some v→blk v=some b→w'.heap[b]?=w.heap[b]?)→RH J φ' I' w' id h
 | .cells _,⟨b,vs,t,e,hb,h1,h2⟩,hk=>⟨b,vs,t,hφ _ _ e,(hk rfl b _ e rfl).trans hb,h1.mono fun _ _ h=>RV.mono hφ hI hw h,h2⟩
 | .row _ k _,⟨v,vs,e,⟨hl,h1⟩,h2⟩,hk=>⟨v,vs,hφ _ _ e,⟨hl,by
   rcases h1 with h1 | ⟨g,cap,cur,rfl,hb,hg,h3⟩
   ·exact .inl h1
   ·exact .inr ⟨g,cap,cur,rfl,hb,(hk rfl g _ e rfl).trans hg,h3⟩⟩,h2.mono fun _ _ h=>RdC.mono hI (fun b h=>hw b (.inl h)) h⟩
 | .frozen _ _ _,⟨v,e,h⟩,_=>⟨v,hφ _ _ e,RdC.mono hI (fun b h=>hw b (.inl h)) h⟩
 | .buf _ _ _,⟨v,e,h⟩,hk=>⟨v,hφ _ _ e,by
   rcases h with h | ⟨g,cur,rfl,h1,h2,h3,h4⟩
   ·exact .inl h
   ·exact .inr ⟨g,cur,rfl,(hk rfl g _ e rfl).trans h1,h2,h3,fun i x hx=>(h4 i x hx).mono hI (fun b h=>hw b (.inl h))⟩⟩
 | .nest _ _ _ _ _ _,⟨v,vs,e,hl,h1⟩,hk=>⟨v,vs,hφ _ _ e,hl,by
   rcases h1 with h1 | ⟨g,cap,cur,rfl,hb,hg,h3⟩
   ·exact .inl h1
   ·exact .inr ⟨g,cap,cur,rfl,hb,(hk rfl g _ e rfl).trans hg,h3⟩⟩
 | .lock _ _ _,⟨v,e⟩,_=>⟨v,hφ _ _ e⟩
 | .peek _ _ _,⟨v,e⟩,_=>⟨v,hφ _ _ e⟩
 | .pend _ _ _ _,⟨v,e⟩,_=>⟨v,hφ _ _ e⟩
 | .map _,⟨b,es,cl,e,hb,h⟩,hk=>⟨b,es,cl,hφ _ _ e,(hk rfl b _ e rfl).trans hb,h⟩
end
theorem RdC.cells {J I:Nat→Prop} {φ:Nat→Option Value} {w:World}:∀ {k:Ty} {x:D k} {vs:List Value},RdC I w k x vs→all2 (RV J φ I w) (cellsOf k x) vs
 | .int _,_,_,h=>by rw [show _=_ from h]; exact ⟨rfl,trivial⟩
 | .bool,_,_,h=>by rw [show _=_ from h]; exact ⟨rfl,trivial⟩
 | .str,_,_,h=>by rw [show _=_ from h]; exact ⟨rfl,trivial⟩
 | .unit,_,_,h=>by rw [show _=_ from h]; exact trivial
 | .pair _ _,_,_,⟨v1,v2,e,h1,h2⟩=>by subst e; exact all2.append (RdC.cells h1) (RdC.cells h2)
 | .seq _ _,_,_,⟨a,c,e,h⟩=>by subst e; exact ⟨⟨a,c,rfl,h⟩,trivial⟩
 | .fn,_,_,h=>by rw [show _=_ from h]; exact ⟨rfl,trivial⟩
 | .mset,_,_,⟨v,e,h⟩=>by subst e; exact ⟨⟨v,rfl,h⟩,trivial⟩
end Go.Ev
