/- A checked evaluator, part L: rows of the call's own: made, written, lengthened; what is handed away stays as it is. -/
import Derived.Test.YtjdlancjbdmkhaaQEvH
namespace Go.Ev
open Go.RowKit
set_option linter.unusedVariables false
def Rec.frz (r:Rec) (id:Nat) (e:TypeId) (k:Ty) (xs:List (D k)):Rec :=
 { r with hp:=(id,some (.row e k xs)) :: r.hp.filter (fun p=>p.1 != id),wr:=r.wr ++ [(id,some (.frozen e k xs))] }
def FS.frz (σ:FS) (id:Nat) (e:TypeId) (k:Ty) (xs:List (D k)):FS:={ σ with heap:=fun i=>if i=id then some (.frozen e k xs) else σ.heap i }
theorem R.frz {fr:Fr} {σ:FS} {φ:Nat→Option Value} {I:Nat→Prop} {a:Act} {w:World} (h:R fr σ φ I a w) {id:Nat} {e:TypeId} {k:Ty} {xs:List (D k)} (h0:σ.heap id=some (.row e k xs)):∃ I',R fr (σ.frz id e k xs) φ I' a w:=by
 obtain ⟨v,vs,hv,ho,hl⟩:=h.heap id _ h0
 have hlook:∀ i x,([(id,some (HV.frozen e k xs))]:List (Nat×Option HV)).lookup i=some x→i=id∧x=some (.frozen e k xs):=by
  intro i x hx
  simp only [List.lookup] at hx
  by_cases e:i=id
  ·subst e; simp at hx; exact ⟨rfl,hx.symm⟩
  ·have:(i == id)=false:=by simp [e]
   rw [this] at hx; cases hx
 have hlk0:∀ i,([(id,some (HV.frozen e k xs))]:List (Nat×Option HV)).lookup i=none→i ≠ id:=by
  rintro i hl rfl
  simp [List.lookup] at hl
 have hR:=h.upd (w':=w) (φ':=φ) (I':=fun b=>I b ∨ blk v=some b) ⟨none,none,[],[],[(id,some (.frozen e k xs))],[]⟩ (v:=undef) (G:=fun _=>False) (fun _ h=>by cases h) (fun _ _ h=>h) (fun _=>.inl) (fun i hi _=>h.fresh i hi) (OnlyP.refl _ _) (fun _ h=>h.elim) (fun _ _ _ _ _ _ _ _ _ h=>h)
  (by
   rintro b (hb | hb)
   ·exact .inl hb
   ·obtain ⟨h1,h2,h3⟩:=h.own id _ v b h0 rfl hv hb
    refine .inr ⟨h3,h.heap_lt h0 rfl hv hb,h2,fun i hv' u hl h4 h5 h6 h7=>?_⟩
    exact h.sep i id hv' _ u v b (hlk0 i hl) h4 h0 h5 rfl h6 hv h7 hb)
  (by
   intro i hv' hl'
   obtain ⟨rfl,e1⟩:=hlook i _ hl'
   cases e1
   refine ⟨v,hv,?_⟩
   rcases ho.2 with ⟨rfl,h1⟩ | ⟨g,cap,cur,rfl,_,hg,hn,_,hcs,htk⟩
   ·have:xs=[]:=List.eq_nil_of_length_eq_zero h1
    subst this
    exact ⟨none,0,rfl,Nat.le_refl _,.inl rfl⟩
   ·refine ⟨_,cap,rfl,hn,.inr ⟨g,0,vs,rfl,.inr rfl,hl.mono fun _ _ h=>h.mono (fun _=>.inl) (fun _ _=>rfl),fun j u hj=>?_⟩⟩
    rw [Nat.zero_add,cell_of_row w g j cur _ (0,0) hg]
    rw [← htk,List.getElem?_take] at hj
    split at hj
    ·simpa using hj
    ·cases hj)
  (by
   intro i hv' u b hl' ho' hu hb
   obtain ⟨rfl,e1⟩:=hlook i _ hl'
   cases e1
   cases ho')
  (by
   intro i i' hv1 hv2 u u' b hl' _ _ ho'
   obtain ⟨rfl,e1⟩:=hlook i _ hl'
   cases e1
   cases ho')
  (by
   intro i i' hv1 hv2 u u' b _ hl' _ ho'
   obtain ⟨rfl,e1⟩:=hlook i _ hl'
   cases e1
   cases ho')
  (fun _ h=>by cases h) (fun _ h=>h.elim)
  (by
   rintro b (hb | hb)
   ·exact .inl hb
   ·exact .inr (.inr ⟨id,_,v,h0,rfl,hv,hb⟩))
  (by
   intro i hv' u b hl' ho' hu hb
   obtain ⟨rfl,e1⟩:=hlook i _ hl'
   cases e1
   cases ho')
  (by
   intro i hv' hl'
   obtain ⟨rfl,e1⟩:=hlook i _ hl'
   cases e1
   rfl)
 refine ⟨_,hR.sub (fun t av he=>by simpa [Rec.apply,FS.frz] using he) (fun i hv' he=>?_) fun i he=>⟨he,by simp⟩⟩
 simp only [FS.frz] at he
 simp only [Rec.apply,List.lookup]
 by_cases e1:i=id
 ·subst e1
  rw [if_pos rfl] at he
  simpa using he
 ·rw [if_neg e1] at he
  have:(i == id)=false:=by simp [e1]
  rw [this]
  exact he
theorem OpOK.frz {P:Program} {o:Oper} {r:Rec} {id:Nat} {e:TypeId} {k:Ty} {xs:List (D k)} (h:OpOK P o r) (hr:∀ p ∈ r.hp,p.1=id→p.2=some (.frozen e k xs)):OpOK P o (r.frz id e k xs):=by
 intro fr σ φ I a w K Q hR hv hd hK
 have h0:σ.heap id=some (.row e k xs):=hv.2.1 (id,some (.row e k xs)) List.mem_cons_self
 obtain ⟨I',hR'⟩:=hR.frz h0
 refine h fr _ φ I' a w K Q hR' ⟨hv.1,fun p hp=>?_,hv.2.2⟩ hd fun φ' I'' v w' h3=>hK φ' I'' v w' (h3.sub (fun t av he=>he) (fun i hv' he=>?_) fun i he=>he)
 ·by_cases e1:p.1=id
  ·rw [hr p hp e1]
   simp [FS.frz,e1]
  ·have:σ.heap p.1=p.2:=hv.2.1 p (List.mem_cons_of_mem _ (List.mem_filter.2 ⟨hp,by simpa using e1⟩))
   simp only [FS.frz,if_neg e1]
   exact this
 ·simp only [Rec.apply,Rec.frz,FS.frz] at he ⊢
  cases hl:r.wr.lookup i with
  | some x =>
   have:(r.wr ++ [(id,some (HV.frozen e k xs))]).lookup i=some x:=by
    rw [List.lookup_append,hl]; rfl
   rw [this] at he
   exact he
  | none =>
   by_cases e1:i=id
   ·subst e1
    have:(r.wr ++ [(i,some (HV.frozen e k xs))]).lookup i=some (some (.frozen e k xs)):=by
     rw [List.lookup_append,hl]; simp [List.lookup]
    rw [this] at he
    simpa using he
   ·have e2:(i == id)=false:=by simp [e1]
    have:(r.wr ++ [(id,some (HV.frozen e k xs))]).lookup i=none:=by
     rw [List.lookup_append,hl]; simp [List.lookup,e2]
    rw [this] at he
    simpa [e1] using he
def LS.frz (σ:LS) (id:Nat) (e:TypeId) (k:Ty) (xs:List (D k)):LS:={ σ with heap:=(id,some (.frozen e k xs)) :: σ.heap }
theorem frz_at (σ:LS) (id:Nat) (e:TypeId) (k:Ty) (xs:List (D k)) (i:Nat):(σ.frz id e k xs).at i=if i=id then some (.frozen e k xs) else σ.at i:=by
 unfold LS.frz LS.at
 by_cases h:i=id
 ·subst h; simp [List.lookup]
 ·have:(i == id)=false:=by simp [h]
  simp [List.lookup,this,h]
theorem Good.frz {P:Program} {o:Oper} {σ:LS} {base:Nat} {r:Rec} {id:Nat} {e:TypeId} {k:Ty} {xs:List (D k)} (h0:σ.at id=some (.row e k xs)) (h:Good P o (σ.frz id e k xs) base r):Good P o σ base (r.frz id e k xs):=by
 obtain ⟨h1,h2,h3,h4,h5⟩:=h
 refine ⟨h1,h2,fun p hp=>?_,h4,h5.frz fun p hp e1=>?_⟩
 ·rcases List.mem_cons.1 hp with rfl | hp
  ·exact h0
  ·obtain ⟨hp,hne⟩:=List.mem_filter.1 hp
   have:=h3 p hp
   rw [frz_at,if_neg (by simpa using hne)] at this
   exact this
 ·have:=h3 p hp
  rw [frz_at,if_pos e1] at this
  exact this.symm
section
variable {ρ:Type}
def withFrz (σ:LS):List CV→(LS→(Rec→Option ρ)→Option ρ)→(Rec→Option ρ)→Option ρ
 | [],op,k=>op σ k
 | c :: cs,op,k=>match c with
  | .own id=>match σ.at id with
   | some (.row e t xs)=>withFrz (σ.frz id e t xs) cs op fun r=>k (r.frz id e t xs)
   | _=>withFrz σ cs op k
  | _=>withFrz σ cs op k
theorem withFrz_ok {P:Program} {o:Oper} {base:Nat} {op:LS→(Rec→Option ρ)→Option ρ} (hop:∀ σ k z,op σ k=some z→∃ r,Good P o σ base r∧k r=some z):∀ (cs:List CV) (σ:LS) (k:Rec→Option ρ) (z:ρ),withFrz σ cs op k=some z→∃ r,Good P o σ base r∧k r=some z
 | [],σ,k,z,h=>hop σ k z h
 | c :: cs,σ,k,z,h=>by
  have plain:withFrz σ cs op k=some z→∃ r,Good P o σ base r∧k r=some z:=withFrz_ok hop cs σ k z
  cases c with
  | own id =>
   simp only [withFrz] at h
   split at h
   ·rename_i e t xs h0
    obtain ⟨r,h1,h2⟩:=withFrz_ok hop cs _ _ z h
    exact ⟨_,h1.frz h0,h2⟩
   ·exact plain h
  | _=>exact plain h
end
section
variable {fr:Fr} {σ:FS} {φ φ':Nat→Option Value} {I I':Nat→Prop} {a:Act} {w w':World}
theorem R.move (h:R fr σ φ I a w) (r:Rec) {v u u0:Value} {id id0:Nat} {hv hv0:HV} (hd:∀ d,r.dst=some d→d < fr.N) (hw:r.wr=[(id0,none),(id,some hv)]) (hn:r.new=[id]) (hf:σ.fresh id) (h0:σ.heap id0=some hv0) (ho:hv0.owned=true) (hu0:φ id0=some u0)
  (honly:OnlyP (fun b=>blk u0=some b) w w') (hu:∀ b,blk u=some b→blk u0=some b ∨ w.heap.size ≤ b)
  (hwr:RH fr.J (ext φ id u) I w' id hv) (hval:∀ av,r.val=some av→RA fr.J (ext φ id u) I w' av v) (hpl:hv.plain=true:=by rfl):R fr (r.apply σ) (ext φ id u) I (a.put r.dst v) w':=by
 have hno:=h.fresh id hf
 have hne:id ≠ id0:=by rintro rfl; rw [hno] at hu0; cases hu0
 have hlk:∀ i x,r.wr.lookup i=some (some x)→i=id∧x=hv:=by
  intro i x hx
  rw [hw] at hx
  simp only [List.lookup] at hx
  by_cases e0:i=id0
  ·subst e0; simp at hx
  ·have:(i == id0)=false:=by simp [e0]
   rw [this] at hx
   by_cases e:i=id
   ·subst e; simp at hx; exact ⟨rfl,hx.symm⟩
   ·have:(i == id)=false:=by simp [e]
    rw [this] at hx; cases hx
 have hlk0:∀ i,r.wr.lookup i=none→i ≠ id0∧i ≠ id:=by
  intro i hl
  rw [hw] at hl
  constructor
  ·rintro rfl; simp [List.lookup] at hl
  ·rintro rfl
   have:(i == id0)=false:=by simp [hne]
   simp [List.lookup,this] at hl
 refine h.upd r (G:=fun b=>blk u0=some b) hd (ext_mono hno) (fun _ h=>h) (fun i hi hni=>?_) honly (fun b hb=>h.own id0 hv0 u0 b h0 ho hu0 hb) ?_ (fun b hb=>.inl hb) ?_ ?_ ?_ ?_ hval (fun b hb=>.inr ⟨id0,hv0,u0,h0,ho,hu0,hb⟩) (fun b hb=>.inl hb) ?_ (fun i hv' hl=>by obtain ⟨rfl,rfl⟩:=hlk i _ hl; exact hpl)
 ·have:i ≠ id:=fun e=>hni (by rw [hn,e]; simp)
  simp only [ext,if_neg this]
  exact h.fresh i hi
 ·intro i hv' x b hl h1 ho' hx hb hb'
  exact h.sep i id0 hv' hv0 x u0 b (hlk0 i hl).1 h1 h0 ho' ho hx hu0 hb hb'
 ·intro i hv' hl
  obtain ⟨rfl,rfl⟩:=hlk i _ hl
  exact hwr
 ·intro i hv' x b hl ho' hx hb
  obtain ⟨rfl,rfl⟩:=hlk i _ hl
  rw [ext_same] at hx; cases hx
  rcases hu b hb with h1 | h1
  ·exact h.own id0 hv0 u0 b h0 ho hu0 h1
  ·refine ⟨fun hi=>?_,fun hj=>?_,.inr ?_⟩
   ·have:=h.lt b (.inl hi); omega
   ·have:=h.lt b (.inr hj); omega
   ·exact Nat.le_trans h.only.size h1
 ·intro i i' hv1 hv2 x x' b hl hl' h1 ho1 ho2 hx hx' hb hb'
  obtain ⟨rfl,rfl⟩:=hlk i _ hl
  rw [ext_same] at hx; cases hx
  rcases hu b hb with h2 | h2
  ·exact h.sep i' id0 hv2 hv0 x' u0 b (hlk0 i' hl').1 h1 h0 ho2 ho hx' hu0 hb' h2
  ·have:=h.heap_lt h1 ho2 hx' hb'
   omega
 ·intro i i' hv1 hv2 x x' b hne2 hl hl' ho ho' hx hx' hb hb'
  exact hne2 ((hlk i _ hl).1.trans (hlk i' _ hl').1.symm)
 ·intro i hv' x b hl ho' hx hb
  obtain ⟨rfl,rfl⟩:=hlk i _ hl
  rw [ext_same] at hx; cases hx
  rcases hu b hb with h1 | h1
  ·exact .inr ⟨id0,hv0,u0,h0,ho,hu0,h1⟩
  ·exact .inl h1
end
theorem all_one {J I:Nat→Prop} {φ:Nat→Option Value} {w:World}:∀ {cs:List CV} {vs:List Value},cs.all okCV=true→all2 (RV J φ I w) cs vs→∀ u ∈ vs,u.oneCell'=true
 | [],[],_,_,u,hu=>by simp at hu
 | c :: cs,v :: vs,h,⟨h1,h2⟩,u,hu=>by
  simp only [List.all_cons,Bool.and_eq_true] at h
  rcases List.mem_cons.1 hu with rfl | hu
  ·exact okCV_one h.1 h1
  ·exact all_one h.2 h2 u hu
 | [],_ :: _,_,h,_,_=>h.elim
 | _ :: _,[],_,h,_,_=>h.elim
def splc {α:Type} (l:List α) (p:Nat) (v:List α):List α:=l.take p ++ v ++ l.drop (p + v.length)
theorem all2.splc {α β:Type} {R:α→β→Prop} {as vs:List α} {bs us:List β} (h:all2 R as bs) (h2:all2 R vs us) (p:Nat):all2 R (splc as p vs) (splc bs p us):=by
 unfold Go.Ev.splc
 rw [h2.length]
 exact ((h.take p).append h2).append (h.drop _)
section
variable {ρ:Type}
def opStore (T:List (TypeId×TI)) (o:Oper) (σ:LS) (t:TypeId) (x y:Operand) (k:Rec→Option ρ):Option ρ :=
 match T.lookup t,opd2 σ x y with
 | some ti,some (.sv false [c],.sv g cs,tl)=>if cs.length=ti.sz∧cs.all okCV=true then (match c with
  | .ptr id off=>match σ.at id with
   | some (.cells old)=>if off + cs.length ≤ old.length then k ⟨o.dst,none,tl,[(id,some (.cells old))],[(id,some (.cells (splc old off cs)))],[]⟩ else none
   | _=>none
  | .eptr id sz i off=>match σ.at id with
   | some (.row e kk xs)=>if size kk=sz∧off + cs.length ≤ sz then (match quoteAll false σ kk (splc (cellsOf kk (rd xs i)) off cs) with
    | some (y,hp)=>k ⟨o.dst,none,tl,(id,some (.row e kk xs)) :: hp,[(id,some (.row e kk (xs.set i.toNat y)))],[]⟩
    | none=>none) else none
   | _=>none
  | _=>none) else none
 | _,_=>none
theorem cells_of_pack {J I:Nat→Prop} {φ:Nat→Option Value} {w:World} {g:Bool} {cs:List CV} {v:Value} (hok:cs.all okCV=true) (h:RSV J φ I w g cs v):∃ vs,v.cells=vs.toArray∧all2 (RV J φ I w) cs vs∧∀ u ∈ vs,u.oneCell'=true:=by
 obtain ⟨vs,h1,h2⟩:=RSV.pack h
 have h3:=all_one hok h1
 cases g with
 | true=>rw [show v=_ from h2]; exact ⟨vs,rfl,h1,h3⟩
 | false =>
  rw [show vs=[v] from h2] at h1 h3
  refine ⟨[v],?_,h1,h3⟩
  have h4:=h3 v (by simp)
  cases v <;> first | rfl | (simp [Value.oneCell'] at h4)
theorem opStore_ok {P:Program} {T:List (TypeId×TI)} (hT:TOK P T) {o:Oper} {σ:LS} {t:TypeId} {x y:Operand} {base:Nat} {k:Rec→Option ρ} {z:ρ} (ho:o.op=.store t x y) (h:opStore T o σ t x y k=some z):∃ r,Good P o σ base r∧k r=some z:=by
 unfold opStore at h
 split at h
 case h_2=>cases h
 case h_1 ti c g cs tl hti hx =>
 have h0:=ite_some h rfl
 clear h
 obtain ⟨⟨hlen,hok⟩,h⟩:=h0
 obtain ⟨it,zz,hi1,hi2,_⟩:=(hT t ti hti).info
 have run:∀ (a:Act) (w:World) (b off:Nat) (vs:List Value) (cur:Array Value) (tt:TypeId),a.eval x=.pointer (some ⟨b,off,none⟩)→(a.eval y).cells=vs.toArray→vs.length=ti.sz→w.heap[b]?=some (.cells cur tt (0,0))→off + vs.length ≤ cur.size→(∀ u ∈ vs,u.oneCell'=true) →
   (execOp a.eval o).run P w=.ok .skip (w.setRow b (splc cur.toList off vs).toArray):=by
  intro a w b off vs cur tt h1 h2 h3 h4 h5 h6
  have hst:=run_storeCells_at P b off tt vs 0 cur w h4 (by simpa using h5) h6
  simp only [Nat.add_zero] at hst
  unfold execOp
  simp only [ho,h1,Instr.storeAt,Instr.sureAddr,storeVar,h2,Sem.run_bind,Sem.run_pure,Result.andThen_ok,run_sizeOf hi1,hi2,List.size_toArray,h3,ne_eq,not_true_eq_false,if_false,hst,splc]
 split at h
 case h_3=>cases h
 case h_1 id off =>
  split at h
  case h_2=>cases h
  case h_1 old hold =>
  have h0:=ite_some h rfl
  clear h
  obtain ⟨hfit,h⟩:=h0
  refine ⟨_,⟨rfl,opd2_temps hx,by simpa using hold,by simp,?_⟩,h⟩
  intro fr σ' φ I a w K Q hR hv hdn hK
  obtain ⟨h1,h2⟩:=opd2_eval hx hR hv.1
  have hh:σ'.heap id=some (.cells old):=hv.2.1 _ List.mem_cons_self
  obtain ⟨b,vs0,tt,e1,e2,e3,e4⟩:=hR.heap id _ hh
  have h1:pv φ id off=some (a.eval x):=h1
  simp only [pv,e1,Option.some.injEq] at h1
  obtain ⟨vs,h3,h4,h5⟩:=cells_of_pack hok h2
  have hvl:vs.length=ti.sz:=by rw [← h4.length,hlen]
  have hcur:off + vs.length ≤ vs0.toArray.size:=by rw [← h4.length,List.size_toArray,← e3.length]; exact hfit
  unfold Oper.wp
  rw [run a w b off vs vs0.toArray tt h1.symm h3 hvl e2 hcur h5,Oper.upon_skip]
  refine hK φ I undef _ (hR.put ⟨o.dst,none,tl,[(id,some (.cells old))],[(id,some (.cells (splc old off cs)))],[]⟩ (id:=id) (b:=b) hdn rfl rfl hh rfl e1 rfl (OnlyP.setRow w b _) ?_ (fun _ h=>by cases h))
  have hkeep:∀ b',I b' ∨ fr.J b'→(w.setRow b (splc vs0.toArray.toList off vs).toArray).heap[b']?=w.heap[b']?:=by
   intro b' hb'
   refine setRow_other w b b' _ ?_
   rintro rfl
   obtain ⟨h6,h7,_⟩:=hR.own id _ _ b' hh rfl e1 rfl
   rcases hb' with hb' | hb'
   ·exact h6 hb'
   ·exact h7 hb'
  refine ⟨b,splc vs0 off vs,tt,e1,setRow_heap w b _ _ tt (0,0) e2,?_,?_⟩
  ·exact (e3.mono fun _ _ h=>RV.mono (fun _ _ h=>h) (fun _ h=>h) hkeep h).splc (h4.mono fun _ _ h=>RV.mono (fun _ _ h=>h) (fun _ h=>h) hkeep h) off
  ·intro u hu
   simp only [splc,List.mem_append] at hu
   rcases hu with (hu | hu) | hu
   ·exact e4 u (List.mem_of_mem_take hu)
   ·exact h5 u hu
   ·exact e4 u (List.mem_of_mem_drop hu)
 case h_2 id sz i off =>
  split at h
  case h_2=>cases h
  case h_1 e kk xs hrow =>
  have h0:=ite_some h rfl
  clear h
  obtain ⟨⟨hsz,hfit⟩,h⟩:=h0
  subst hsz
  split at h
  case h_2=>cases h
  case h_1 y' hp hq =>
  refine ⟨_,⟨rfl,opd2_temps hx,?_,by simp,?_⟩,h⟩
  ·intro p hp'
   rcases List.mem_cons.1 hp' with rfl | hp'
   ·exact hrow
   ·exact quoteAll_hp hq p hp'
  intro fr σ' φ I a w K Q hR hv hdn hK
  obtain ⟨h1,h2⟩:=opd2_eval hx hR hv.1
  have hh:σ'.heap id=some (.row e kk xs):=hv.2.1 _ List.mem_cons_self
  obtain ⟨b,n,c,e1,e2,e3,e4⟩:RV fr.J φ I w (.eptr id (size kk) i off) (a.eval x):=h1
  obtain ⟨v,vs0,e5,e6,e7⟩:=hR.heap id _ hh
  rw [e1] at e5; cases e5
  obtain ⟨vs,h3,h4,h5⟩:=cells_of_pack hok h2
  have hvl:vs.length=ti.sz:=by rw [← h4.length,hlen]
  rcases e6.2 with ⟨e8,_⟩ | ⟨g',cap,cur,e8,_,e9,e10,e11,e12,e13⟩
  ·cases e8
  cases e8
  obtain ⟨us,h6,h7⟩:=lst.at (n:=size kk) (fun _ _ h=>h.length) e7 i.toNat e4
  have hus:us.length=size kk:=h6.length
  have hnew:all2 (RV fr.J φ I w) (splc (cellsOf kk (rd xs i)) off cs) (splc us off vs):=by
   rw [rd_eq e4]
   exact (h6.cells).splc h4 off
  have hrd:=quoteAll_ok hq hR (fun p hp=>hv.2.1 p (List.mem_cons_of_mem _ hp)) ⟨fun _ h=>h,fun h=>by cases h⟩ hnew
  have hlen2:(splc us off vs).length=size kk:=hrd.length
  have hoff:off + vs.length ≤ size kk:=by rw [← h4.length]; exact hfit
  have hrow2:vs0.length=xs.length * size kk:=lst.length (fun _ _ h=>h.length) e7
  have hin:i.toNat * size kk + size kk ≤ xs.length * size kk:=by
   have:(i.toNat + 1) * size kk ≤ xs.length * size kk:=Nat.mul_le_mul_right _ e4
   rwa [Nat.add_mul,Nat.one_mul] at this
  have hcapl:xs.length * size kk ≤ cur.size:=by rw [e12]; exact Nat.mul_le_mul_right _ e10
  have hcur:i.toNat * size kk + off + vs.length ≤ cur.size:=by omega
  unfold Oper.wp
  rw [run a w b _ vs cur e e2 h3 hvl e9 hcur h5,Oper.upon_skip]
  have hkeep:∀ b',I b' ∨ fr.J b'→(w.setRow b (splc cur.toList (i.toNat * size kk + off) vs).toArray).heap[b']?=w.heap[b']?:=by
   intro b' hb'
   refine setRow_other w b b' _ ?_
   rintro rfl
   obtain ⟨h6,h7,_⟩:=hR.own id _ _ b' hh rfl e1 rfl
   rcases hb' with hb' | hb'
   ·exact h6 hb'
   ·exact h7 hb'
  refine hK φ I undef _ (hR.put ⟨o.dst,none,tl,(id,some (.row e kk xs)) :: hp,[(id,some (.row e kk (xs.set i.toNat y')))],[]⟩ (id:=id) (b:=b) hdn rfl rfl hh rfl e1 rfl (OnlyP.setRow w b _) ?_ (fun _ h=>by cases h))
  have hset:=lst.set (n:=size kk) (R:=RdC I w kk) (fun _ _ h=>h.length) hrd e7 i.toNat e4
  refine ⟨_,_,e1,?_,hset.mono fun _ _ h=>h.mono (fun _ h=>h) (fun b hb=>hkeep b (.inl hb))⟩
  rw [List.length_set]
  have hcells:(splc cur.toList (i.toNat * size kk + off) vs).take (xs.length * size kk)=vs0.take (i.toNat * size kk) ++ splc us off vs ++ vs0.drop (i.toNat * size kk + size kk):=by
   apply List.ext_getElem?
   intro j
   have hv0:∀ j,j < xs.length * size kk→vs0[j]?=cur[j]?:=by
    intro j hj
    rw [← e13,List.getElem?_take,if_pos hj]; simp
   have husj:∀ j,j < size kk→us[j]?=cur[i.toNat * size kk + j]?:=by
    intro j hj
    rw [← hv0 _ (by omega),← h7 j hj]
   have hlt1:(vs0.take (i.toNat * size kk)).length=i.toNat * size kk:=by rw [List.length_take]; omega
   rw [List.getElem?_take]
   by_cases hj:j < xs.length * size kk
   ·rw [if_pos hj]
    have hc1:(cur.toList.take (i.toNat * size kk + off)).length=i.toNat * size kk + off:=by rw [List.length_take,Array.length_toList]; omega
    simp only [splc]
    by_cases j1:j < i.toNat * size kk
    ·rw [List.append_assoc,List.getElem?_append_left (by omega),List.getElem?_take,if_pos (by omega),List.append_assoc,List.getElem?_append_left (by omega),List.getElem?_take,if_pos j1,hv0 j hj]
     simp
    ·by_cases j2:j < i.toNat * size kk + size kk
     ·
      have hR:(List.take (i.toNat * size kk) vs0 ++ (List.take off us ++ vs ++ List.drop (off + vs.length) us) ++ List.drop (i.toNat * size kk + size kk) vs0)[j]?=(List.take off us ++ vs ++ List.drop (off + vs.length) us)[j - i.toNat * size kk]?:=by
       rw [List.append_assoc,List.getElem?_append_right (by omega),hlt1,List.getElem?_append_left]
       simp only [splc] at hlen2
       omega
      rw [hR]
      have hu1:(us.take off).length=off:=by rw [List.length_take]; omega
      by_cases j3:j < i.toNat * size kk + off
      ·rw [List.append_assoc,List.getElem?_append_left (by omega),List.getElem?_take,if_pos j3,List.append_assoc,List.getElem?_append_left (by omega),List.getElem?_take,if_pos (by omega),husj _ (by omega)]
       simp
       congr 1
       omega
      ·by_cases j4:j < i.toNat * size kk + off + vs.length
       ·rw [List.append_assoc,List.getElem?_append_right (by omega),hc1,List.getElem?_append_left (by omega),List.append_assoc,List.getElem?_append_right (by omega),hu1,List.getElem?_append_left (by omega)]
        congr 1
        omega
       ·rw [List.getElem?_append_right (by rw [List.length_append]; omega),List.length_append,hc1,List.getElem?_drop,List.getElem?_append_right (by rw [List.length_append]; omega),List.length_append,hu1,List.getElem?_drop,husj _ (by omega)]
        simp
        congr 1
        omega
     ·have hl2:(List.take (i.toNat * size kk) vs0 ++ (List.take off us ++ vs ++ List.drop (off + vs.length) us)).length=i.toNat * size kk + size kk:=by
       simp only [splc] at hlen2
       rw [List.length_append,hlt1,hlen2]
      rw [List.getElem?_append_right (by rw [List.length_append]; omega),List.length_append,hc1,List.getElem?_drop,List.getElem?_append_right (by omega),hl2,List.getElem?_drop,hv0 _ (by omega)]
      simp
      congr 1
      omega
   ·rw [if_neg hj,List.getElem?_eq_none]
    simp only [splc] at hlen2
    simp only [List.length_append,List.length_take,List.length_drop,splc]
    simp only [List.length_append,List.length_take,List.length_drop] at hlen2
    omega
  refine ⟨?_,.inr ⟨b,c,(splc cur.toList (i.toNat * size kk + off) vs).toArray,rfl,Nat.zero_le _,setRow_heap w b _ _ e (0,0) e9,e10,e11,?_,hcells⟩⟩
  ·rw [← hcells,List.length_take,splc]
   simp only [List.length_append,List.length_take,List.length_drop,Array.length_toList]
   omega
  ·rw [List.size_toArray,← e12]
   simp only [splc,List.length_append,List.length_take,List.length_drop,Array.length_toList]
   omega
end
end Go.Ev
