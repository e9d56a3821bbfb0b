/- A checked evaluator, part V: parts of rows that may be written: slices of them, copy, clear, append, cap. -/
import Derived.Test.YtjdlancjbdmkhaaQEvN
import Derived.Test.YtjdlancjbdmkhaaQEvF
import Derived.Test.YtjdlancjbdmkhaaQEvP
import Derived.Lib.AppendZeros
import Derived.Lib.Overlaps
import Derived.Laws.Externs
namespace Go.Ev
open Go.RowKit
set_option linter.unusedVariables false
def allS {α:Type}:List (Option α)→Option (List α)
 | []=>some []
 | none :: _=>none
 | some x :: l=>(allS l).map (x :: ·)
theorem allS_ok {α:Type}:∀ {l:List (Option α)} {xs:List α},allS l=some xs→l=xs.map some
 | [],xs,h=>by cases h; rfl
 | none :: _,xs,h=>by cases h
 | some x :: l,xs,h=>by
  obtain ⟨ys,h1,rfl⟩:=Option.map_eq_some_iff.1 h
  rw [allS_ok h1]; rfl
theorem allS_map {α:Type}:∀ (xs:List α),allS (xs.map some)=some xs
 | []=>rfl
 | x :: xs=>by simp [allS,allS_map xs]
theorem lst_of {I:Nat→Prop} {w:World} {k:Ty}:∀ (xs:List (D k)) (vs:List Value),vs.length=xs.length * size k→(∀ i x,xs[i]?=some x→RdC I w k x ((vs.drop (i * size k)).take (size k)))→lst (RdC I w k) xs vs
 | [],vs,h,_=>by simp at h; exact h
 | x :: xs,vs,h,hx=>by
  refine ⟨vs.take (size k),vs.drop (size k),(List.take_append_drop _ _).symm,by simpa using hx 0 x rfl,lst_of xs _ ?_ fun i y hy=>?_⟩
  ·rw [List.length_drop,h,List.length_cons,Nat.add_mul]; omega
  ·have:=hx (i + 1) y (by simpa using hy)
   rwa [show (i + 1) * size k=size k + i * size k by rw [Nat.add_mul]; omega,← List.drop_drop] at this
theorem of_lst {I:Nat→Prop} {w:World} {k:Ty}:∀ {xs:List (D k)} {vs:List Value},lst (RdC I w k) xs vs→∀ i x,xs[i]?=some x→RdC I w k x ((vs.drop (i * size k)).take (size k))
 | [],vs,_,i,x,h=>by simp at h
 | y :: xs,_,⟨v1,v2,e,h1,h2⟩,0,x,h=>by
  simp only [List.getElem?_cons_zero,Option.some.injEq] at h
  subst h e
  rw [Nat.zero_mul,List.drop_zero,← h1.length,List.take_left]
  exact h1
 | y :: xs,_,⟨v1,v2,e,h1,h2⟩,i + 1,x,h=>by
  subst e
  have:=of_lst h2 i x (by simpa using h)
  rwa [show (i + 1) * size k=v1.length + i * size k by rw [Nat.add_mul,h1.length]; omega,List.drop_length_add_append]
def viewOf (σ:LS) (x:Operand):Option (Nat×Nat×Int×Int×List (Tmp×AV)):=match opd σ x with
 | some (.sv false [.view id sz lo n],tl)=>some (id,sz,lo,n,tl)
 | _=>none
theorem viewOf_opd {σ:LS} {x:Operand} {id sz:Nat} {lo n:Int} {tl:List (Tmp×AV)} (h:viewOf σ x=some (id,sz,lo,n,tl)):opd σ x=some (.sv false [.view id sz lo n],tl):=by
 unfold viewOf at h
 split at h
 ·rename_i h1; cases h; exact h1
 ·cases h
theorem ViewOK.slice {φ:Nat→Option Value} {id sz:Nat} {lo n:Int} {u:Value} (h:ViewOK φ id sz lo n u):∃ ad cap,u=.slice ad n.toNat cap∧0 ≤ n∧0 ≤ lo:=by
 rcases h with ⟨g,N,cap,o,_,e,h1,h2,_⟩ | ⟨_,e,rfl,rfl⟩
 ·exact ⟨_,_,e,h2,h1⟩
 ·exact ⟨_,_,e,by omega,by omega⟩
section
variable {ρ:Type}
def opLenV (T:List (TypeId×TI)) (o:Oper) (σ:LS) (t:TypeId) (x:Operand) (kk:Rec→Option ρ):Option ρ :=
 match viewOf σ x with
 | some (_,_,_,n,tl)=>match (T.lookup t).map TI.kind with
  | some (TK.slice _)=>kk (valK o tl [] (.sv false [.lit (.int .i64 n)]))
  | _=>none
 | none=>opLen T o σ t x kk
theorem opLenV_ok {P:Program} {T:List (TypeId×TI)} (hT:TOK P T) {o:Oper} {σ:LS} {t:TypeId} {x:Operand} {base:Nat} {kk:Rec→Option ρ} {z:ρ} (ho:o.op=.call { callee:=.builtin .len,args:=#[x],argTypes:=#[t] }) (h:opLenV T o σ t x kk=some z):∃ r,Good P o σ base r∧kk r=some z:=by
 unfold opLenV at h
 split at h
 case h_2=>exact opLen_ok hT ho h
 case h_1 id sz lo n tl hx =>
 have hx:=viewOf_opd hx
 split at h
 case h_2=>cases h
 case h_1 e hk =>
 obtain ⟨ti,hti,hkind⟩:=Option.map_eq_some_iff.1 hk
 obtain ⟨d,hd,hkd⟩:=(hT t ti hti).under
 rw [hkind] at hkd
 simp only [TK.ok] at hkd
 subst hkd
 refine ⟨_,valK_ok (opd_temps hx) (by simp) fun fr σ' φ I a w hR hv hh=>?_,h⟩
 have h1:ViewOK φ id sz lo n (a.eval x):=opd_eval hx hR hv
 obtain ⟨ad,cap,e1,h2,_⟩:=h1.slice
 refine ⟨.int .i64 n,?_,rfl⟩
 unfold execOp
 simp only [ho,resolve,invoke,builtin,Builtin.len_,Sem.run_bind,Sem.run_pure,Result.andThen_ok,List.map_toArray,List.map_cons,List.map_nil,List.getElem?_toArray,List.getElem?_cons_zero,run_underlying hd,e1]
 simp [goInt,Int.toNat_of_nonneg h2]
def opCapV (T:List (TypeId×TI)) (o:Oper) (σ:LS) (t:TypeId) (x:Operand) (kk:Rec→Option ρ):Option ρ :=
 match viewOf σ x with
 | some (id,_,lo,_,tl)=>match (T.lookup t).map TI.kind,σ.at id with
  | some (TK.slice _),some (.buf e k bs)=>kk (valK o tl [(id,some (.buf e k bs))] (.sv false [.lit (.int .i64 ((bs.length:Int) - lo))]))
  | _,_=>none
 | none=>none
theorem BufOK.cap {I:Nat→Prop} {w:World} {e:TypeId} {k:Ty} {bs:List (Option (D k))} {v:Value} (h:BufOK I w e k bs v) {g N cap:Nat} (hv:v=.slice (some ⟨g,0,none⟩) N cap):N=bs.length∧cap=bs.length∧∃ cur,w.heap[g]?=some (.cells cur e (0,0))∧bs.length ≤ maxLen∧cur.size=bs.length * size k ∧
  ∀ i x,bs[i]?=some (some x)→RdC I w k x ((cur.toList.drop (i * size k)).take (size k)):=by
 rcases h with ⟨rfl,_⟩ | ⟨g',cur,e1,h1⟩
 ·cases hv
 ·rw [e1] at hv; cases hv; exact ⟨rfl,rfl,cur,h1⟩
theorem opCapV_ok {P:Program} {T:List (TypeId×TI)} (hT:TOK P T) {o:Oper} {σ:LS} {t:TypeId} {x:Operand} {base:Nat} {kk:Rec→Option ρ} {z:ρ} (ho:o.op=.call { callee:=.builtin .cap,args:=#[x],argTypes:=#[t] }) (h:opCapV T o σ t x kk=some z):∃ r,Good P o σ base r∧kk r=some z:=by
 unfold opCapV at h
 split at h
 case h_2=>cases h
 case h_1 id sz lo n tl hx =>
 have hx:=viewOf_opd hx
 split at h
 case h_2=>cases h
 case h_1 e' e k bs hk hb =>
 obtain ⟨ti,hti,hkind⟩:=Option.map_eq_some_iff.1 hk
 obtain ⟨d,hd,hkd⟩:=(hT t ti hti).under
 rw [hkind] at hkd
 simp only [TK.ok] at hkd
 subst hkd
 refine ⟨_,valK_ok (opd_temps hx) (by simpa using hb) fun fr σ' φ I a w hR hv hh=>?_,h⟩
 have h1:ViewOK φ id sz lo n (a.eval x):=opd_eval hx hR hv
 obtain ⟨v0,h2,h3⟩:=hR.heap id _ (hh _ List.mem_cons_self)
 refine ⟨.int .i64 ((bs.length:Int) - lo),?_,rfl⟩
 have key:∃ ad,a.eval x=.slice ad n.toNat (bs.length - lo.toNat)∧0 ≤ lo∧lo.toNat ≤ bs.length:=by
  rcases h1 with ⟨g,N,cap,o,e1,e2,h4,h5,h6,_⟩ | ⟨e1,e2,rfl,rfl⟩
  ·rw [h2] at e1; cases e1
   obtain ⟨rfl,rfl,_⟩:=h3.cap rfl
   exact ⟨_,e2,h4,by omega⟩
  ·rw [h2] at e1; cases e1
   rcases h3 with ⟨_,rfl⟩ | ⟨g',cur,e3,_⟩
   ·exact ⟨none,by simpa using e2,by omega,by simp⟩
   ·cases e3
 obtain ⟨ad,e1,h4,h5⟩:=key
 unfold execOp
 simp only [ho,resolve,invoke,builtin,Builtin.cap_,Sem.run_bind,Sem.run_pure,Result.andThen_ok,List.map_toArray,List.map_cons,List.map_nil,List.getElem?_toArray,List.getElem?_cons_zero,run_underlying hd,e1]
 simp [goInt]
 omega
def partOf (σ:LS) (c:CV):Option (Nat×Nat×TypeId×Int×Int×Int×List (Nat×Option HV)):=match c with
 | .own id=>match σ.at id with
  | some (.row e k xs)=>some (id,size k,e,0,(xs.length:Int),(xs.length:Int),[(id,some (.row e k xs))])
  | _=>none
 | .view id sz lo n=>match σ.at id with
  | some (.row e k xs)=>if sz=size k then some (id,sz,e,lo,n,n,[(id,some (.row e k xs))]) else none
  | some (.buf e k bs)=>if sz=size k then some (id,sz,e,lo,n,(bs.length:Int) - lo,[(id,some (.buf e k bs))]) else none
  | _=>none
 | _=>none
theorem partOf_hp {σ:LS} {c:CV} {id sz:Nat} {e:TypeId} {lo n m:Int} {hp:List (Nat×Option HV)} (h:partOf σ c=some (id,sz,e,lo,n,m,hp)):∀ p ∈ hp,σ.at p.1=p.2:=by
 cases c <;> simp only [partOf] at h <;> try (cases h; done)
 case own id =>
  split at h
  ·rename_i hh; cases h; simpa using hh
  ·cases h
 case view id sz lo n =>
  split at h
  ·rename_i hh
   obtain ⟨_,h⟩:=ite_some h rfl
   cases h; simpa using hh
  ·rename_i hh
   obtain ⟨_,h⟩:=ite_some h rfl
   cases h; simpa using hh
  ·cases h
theorem partOf_ok {σ:LS} {c:CV} {id sz:Nat} {e:TypeId} {lo n m:Int} {hp:List (Nat×Option HV)} (h:partOf σ c=some (id,sz,e,lo,n,m,hp)) {fr:Fr} {σ':FS} {φ:Nat→Option Value} {I:Nat→Prop} {a:Act} {w:World}
  (hR:R fr σ' φ I a w) (hv:∀ p ∈ hp,σ'.heap p.1=p.2) {u:Value} (hu:RV fr.J φ I w c u) :
  (∃ g N cap o,φ id=some (.slice (some ⟨g,0,none⟩) N cap)∧u=.slice (some ⟨g,o,none⟩) n.toNat (cap - lo.toNat)∧0 ≤ lo∧0 ≤ n∧lo + n ≤ (cap:Int)∧lo + m ≤ (cap:Int)∧(lo.toNat ≠ cap ∨ lo=0→o=lo.toNat * sz)) ∨
  (φ id=some (.slice none 0 0)∧u=.slice none 0 0∧lo=0∧n=0∧m=0):=by
 cases c <;> simp only [partOf] at h <;> try (cases h; done)
 case own id =>
  split at h
  case h_2=>cases h
  case h_1 e k xs hh =>
  cases h
  obtain ⟨v,vs,h1,ho,hl⟩:=hR.heap id _ (hv _ List.mem_cons_self)
  have hu:φ id=some u:=hu.1
  rw [hu] at h1; cases h1
  rcases ho.2 with ⟨h1,h0⟩ | ⟨g,cap,cur,h1,_,hg,hn,_,hcs,htk⟩
  ·right
   rw [h1] at hu
   exact ⟨hu,h1,rfl,by omega,by omega⟩
  ·left
   rw [h1] at hu
   exact ⟨g,_,cap,0,hu,by simpa using h1,by omega,by omega,by omega,by omega,by simp⟩
 case view id sz lo n =>
  split at h
  case h_3=>cases h
  case h_1 e k xs hh =>
   obtain ⟨rfl,h⟩:=ite_some h rfl
   cases h
   rcases (show ViewOK φ id (size k) lo n u from hu) with ⟨g,N,cap,o,e1,e2,h4,h5,h6,h7⟩ | ⟨e1,e2,rfl,rfl⟩
   ·exact .inl ⟨g,N,cap,o,e1,e2,h4,h5,h6,h6,h7⟩
   ·exact .inr ⟨e1,e2,rfl,rfl,rfl⟩
  case h_2 e k bs hh =>
   obtain ⟨rfl,h⟩:=ite_some h rfl
   cases h
   obtain ⟨v0,h2,h3⟩:=hR.heap id _ (hv _ List.mem_cons_self)
   rcases (show ViewOK φ id (size k) lo n u from hu) with ⟨g,N,cap,o,e1,e2,h4,h5,h6,h7⟩ | ⟨e1,e2,rfl,rfl⟩
   ·rw [h2] at e1; cases e1
    obtain ⟨rfl,rfl,_⟩:=h3.cap rfl
    exact .inl ⟨g,_,_,o,h2,e2,h4,h5,h6,by omega,h7⟩
   ·rw [h2] at e1; cases e1
    rcases h3 with ⟨_,rfl⟩ | ⟨g',cur,e3,_⟩
    ·exact .inr ⟨h2,e2,rfl,rfl,by simp⟩
    ·cases e3
theorem run_bounds' {P:Program} {w:World} {len cap:Nat} {lo hi:Option Value} {l h:Option Int} (hl:(lo=none∧l=none) ∨ ∃ k m,l=some m∧lo=some (.int k m)) (hh:(hi=none∧h=none) ∨ ∃ k m,h=some m∧hi=some (.int k m)) (hcap:len ≤ cap)
  (h1:0 ≤ l.getD 0) (h2:l.getD 0 ≤ h.getD (len:Nat)) (h3:h.getD (len:Nat) ≤ (cap:Nat)):(Instr.sliceBounds true len cap lo hi none).run P w=.ok ((l.getD 0).toNat,(h.getD (len:Nat)).toNat,cap) w:=by
 have h4:0 ≤ h.getD (len:Nat):=Int.le_trans h1 h2
 unfold Instr.sliceBounds
 rcases hl with ⟨rfl,rfl⟩ | ⟨kl,ml,rfl,rfl⟩ <;> rcases hh with ⟨rfl,rfl⟩ | ⟨kh,mh,rfl,rfl⟩
 ·simp
 ·simp only [Option.getD_some,Option.getD_none] at *
  simp [Instr.sliceBound,asIntOf,h4,h3]
 ·simp only [Option.getD_some,Option.getD_none] at *
  simp [Instr.sliceBound,asIntOf,h1,h2]
 ·simp only [Option.getD_some] at *
  have e2:ml ≤ ((mh.toNat:Nat):Int):=by omega
  simp only [Sem.run_bind,Instr.sliceBound,asIntOf,Sem.run_pure,Result.andThen_ok,h4,h3,and_self,if_true,h1,e2]
def opSliceV (T:List (TypeId×TI)) (o:Oper) (σ:LS) (t:TypeId) (x:Operand) (lo hi:Option Operand) (kk:Rec→Option ρ):Option ρ :=
 match opd σ x,opSlice.opdO σ lo,opSlice.opdO σ hi with
 | some (.sv false [c],tl),some (l,tl1),some (h,tl2)=>match partOf σ c with
  | some (id,sz,e,lo0,n,m,hp)=>match (T.lookup t).map TI.kind with
   | some (TK.slice e')=>if e'=e∧(T.lookup e).map (·.sz)=some sz then (if 0 ≤ l.getD 0∧l.getD 0 ≤ h.getD n∧h.getD n ≤ m then
     kk (valK o (tl ++ (tl1 ++ tl2)) hp (.sv false [.view id sz (lo0 + l.getD 0) (h.getD n - l.getD 0)])) else none) else none
   | _=>none
  | none=>opSlice T o σ t x lo hi kk
 | _,_,_=>none
theorem opSliceV_ok {P:Program} {T:List (TypeId×TI)} (hT:TOK P T) {o:Oper} {σ:LS} {t:TypeId} {x:Operand} {lo hi:Option Operand} {base:Nat} {kk:Rec→Option ρ} {z:ρ} (ho:o.op=.slice t x lo hi none) (h:opSliceV T o σ t x lo hi kk=some z):∃ r,Good P o σ base r∧kk r=some z:=by
 unfold opSliceV at h
 split at h
 case h_2=>cases h
 case h_1 c tl l tl1 hh tl2 hx hlo hhi =>
 split at h
 case h_2=>exact opSlice_ok hT ho h
 case h_1 id sz e lo0 n m hp hpt =>
 split at h
 case h_2=>cases h
 case h_1 e' hk =>
 have h0:=ite_some h rfl
 clear h
 obtain ⟨⟨rfl,hsz⟩,h⟩:=h0
 have h0:=ite_some h rfl
 clear h
 obtain ⟨⟨hb1,hb2,hb3⟩,h⟩:=h0
 obtain ⟨ti,hti,hkind⟩:=Option.map_eq_some_iff.1 hk
 obtain ⟨d,hd,hkd⟩:=(hT t ti hti).under
 rw [hkind] at hkd
 simp only [TK.ok] at hkd
 subst hkd
 obtain ⟨ei,hei,hei2⟩:=Option.map_eq_some_iff.1 hsz
 obtain ⟨it,zv,hi1,hi2,_⟩:=(hT e' ei hei).info
 have temps:∀ p ∈ tl ++ (tl1 ++ tl2),σ.get p.1=some p.2:=by
  intro p hp
  rcases List.mem_append.1 hp with hp | hp
  ·exact opd_temps hx p hp
  ·rcases List.mem_append.1 hp with hp | hp
   ·exact opdO_temps hlo p hp
   ·exact opdO_temps hhi p hp
 refine ⟨_,valK_ok temps (partOf_hp hpt) fun fr σ' φ I a w hR hv hvh=>?_,h⟩
 have e1:RV fr.J φ I w c (a.eval x):=opd_eval hx hR fun p hp=>hv p (List.mem_append_left _ hp)
 have e2:=opdO_eval hlo hR fun p hp=>hv p (List.mem_append_right _ (List.mem_append_left _ hp))
 have e3:=opdO_eval hhi hR fun p hp=>hv p (List.mem_append_right _ (List.mem_append_right _ hp))
 have e2':(lo.map a.eval=none∧l=none) ∨ ∃ k m,l=some m∧lo.map a.eval=some (.int k m):=by
  rcases e2 with ⟨rfl,rfl⟩ | ⟨k,m,rfl,e⟩
  ·exact .inl ⟨rfl,rfl⟩
  ·exact .inr ⟨k,m,rfl,e⟩
 have e3':(hi.map a.eval=none∧hh=none) ∨ ∃ k m,hh=some m∧hi.map a.eval=some (.int k m):=by
  rcases e3 with ⟨rfl,rfl⟩ | ⟨k,m,rfl,e⟩
  ·exact .inl ⟨rfl,rfl⟩
  ·exact .inr ⟨k,m,rfl,e⟩
 rcases partOf_ok hpt hR hvh e1 with ⟨g,N,cap,of,h3,h4,h5,h6,h7,h8,h9⟩ | ⟨h3,h4,rfl,rfl,rfl⟩
 ·have hn:((n.toNat:Nat):Int)=n:=Int.toNat_of_nonneg h6
  have hbd:=run_bounds' (P:=P) (w:=w) (len:=n.toNat) (cap:=cap - lo0.toNat) e2' e3' (by omega) hb1 (by rw [hn]; exact hb2) (by rw [hn]; omega)
  rw [hn] at hbd
  refine ⟨.slice (if cap - lo0.toNat=(l.getD 0).toNat then some ⟨g,of,none⟩ else (some (⟨g,of,none⟩:Addr)).map (·.add ((l.getD 0).toNat * sz))) ((hh.getD n).toNat - (l.getD 0).toNat) (cap - lo0.toNat - (l.getD 0).toNat),?_,?_⟩
  ·unfold execOp
   simp only [ho,h4,Instr.sliceAt,Sem.run_bind,run_underlying hd,Result.andThen_ok,Instr.slice,Option.map_none,hbd,run_sizeOf hi1,hi2,hei2,Sem.run_pure]
  ·by_cases hc:cap - lo0.toNat=(l.getD 0).toNat
   ·rw [if_pos hc]
    refine .inl ⟨g,N,cap,of,h3,?_,by omega,by omega,by omega,fun hne=>?_⟩
    ·congr 1 <;> omega
    ·rcases hne with hne | hne
     ·omega
     ·rw [h9 (.inr (by omega)),show lo0.toNat=0 by omega,show (lo0 + l.getD 0).toNat=0 by omega]
   ·rw [if_neg hc]
    refine .inl ⟨g,N,cap,of + (l.getD 0).toNat * sz,h3,?_,by omega,by omega,by omega,fun hne=>?_⟩
    ·have:(⟨g,of,none⟩:Addr).add ((l.getD 0).toNat * sz)=⟨g,of + (l.getD 0).toNat * sz,none⟩:=by unfold Addr.add; split <;> simp_all
     simp only [Option.map_some,this]
     congr 1 <;> omega
    ·rw [h9 (.inl (by omega)),← Nat.add_mul]
     congr 1
     omega
 ·have hbd:=run_bounds' (P:=P) (w:=w) (len:=0) (cap:=0) e2' e3' (Nat.le_refl _) hb1 hb2 hb3
  have hl0:(l.getD 0).toNat=0:=by omega
  have hh0:(hh.getD 0).toNat=0:=by omega
  have hh0':hh.getD ((0:Nat):Int)=hh.getD 0:=rfl
  refine ⟨.slice none 0 0,?_,.inr ⟨h3,rfl,by omega,by omega⟩⟩
  unfold execOp
  simp only [ho,h4,Instr.sliceAt,Sem.run_bind,run_underlying hd,Result.andThen_ok,Instr.slice,Option.map_none,hbd,run_sizeOf hi1,hi2,hei2,Sem.run_pure]
  simp [hh0',hl0,hh0]
end
end Go.Ev
