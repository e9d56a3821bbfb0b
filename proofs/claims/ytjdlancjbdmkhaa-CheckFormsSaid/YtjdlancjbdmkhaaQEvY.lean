/- A checked evaluator, part Y: append of zeros, slices.overlaps, a part of a row becomes a row. -/
import Derived.Test.YtjdlancjbdmkhaaQEvX
namespace Go.Ev
open Go.RowKit
set_option linter.unusedVariables false
section
variable {P:Program}
theorem run_append_grow_zeros (w:World) (t tn ty e:TypeId) (i:TypeInfo) (z:Value) (k kn:IntKind) (ht:P.underlying t=some (.slice e)) (htn:P.underlying tn=some (.int kn)) (hi:P.info? e=some i) (hz:i.zero=some z)
  (b:Addr) (sLen sCap:Nat) (olds:List Value) (hlo:olds.length=sLen * i.size) (holds:∀ j v,olds[j]?=some v→w.cell? (b.add j)=some v)
  (n:Nat) (h0:0 < n) (hs:0 < i.size) (hg:sCap < sLen + n) (h63:((sLen + n:Nat):Int) ≤ 9223372036854775807) (hfit:Builtin.nextslicecap (sLen + n) sCap * i.bytes ≤ 281474976710656) (h48:n * i.bytes ≤ 281474976710656) :
  (Builtin.append_ #[t,tn] ty #[.slice (some b) sLen sCap,.int k n]).run P w =
   .ok (.slice (some ⟨w.heap.size,0,none⟩) (sLen + n) (grownCap w (sLen + n) sCap e)) (w.drew.alloc (.cells (olds.toArray ++ Builtin.zeroCells z.cells n ++ Builtin.zeroCells z.cells (grownCap w (sLen + n) sCap e - (sLen + n))) e)):=by
 have hn:n ≠ 0:=by omega
 have hw:IntKind.i64.wrap (n:Int)=n:=by rw [IntKind.wrap_i64]; omega
 have h63':¬ (9223372036854775807 < ((sLen:Int) + (n:Int))):=by omega
 have h48':¬ (281474976710656 < Builtin.nextslicecap (sLen + n) sCap * i.bytes):=by omega
 have h48i:¬ (281474976710656 < (n:Int) * (i.bytes:Int)):=by
  rw [← Int.natCast_mul]
  omega
 have hneg:¬ ((n:Int) < 0):=by omega
 have hns:¬ (n * i.size=0):=Nat.mul_ne_zero hn (by omega)
 have hgr:¬ (sLen + n ≤ sCap):=by omega
 have hfo:=run_firstCells_some (P:=P) w.drew i.size sLen b sLen sCap olds hlo (by simpa using holds)
 simp [Builtin.append_,run_underlying ht,run_underlying htn,sizeOf,typeInfo,zeroValue,hi,hz,asInt,asIntOf,hw,hneg,hns,h63',h48',h48i,hgr,Question.forced,hfo,newRow,grownCap]
end
section
variable {ρ:Type}
def opAppendZ (T:List (TypeId×TI)) (o:Oper) (σ:LS) (base:Nat) (t t':TypeId) (x y:Operand) (kk:Rec→Option ρ):Option ρ :=
 match opd2 σ x y with
 | some (.sv false [.view id sz lo n],.sv false [.lit (.int ik m)],tl)=>match (T.lookup t).map TI.kind,(T.lookup t').map TI.kind,σ.at id with
  | some (TK.slice e'),some (TK.int _),some (.buf e k bs)=>match T.lookup e with
   | some ei=>if e'=e∧ei.ty=some k∧sz=size k∧0 < ei.bytes then (if lo=0∧0 ≤ n∧0 ≤ m∧(bs.length:Int) < n + m then
      (allS (bs.take n.toNat)).bind fun xs=>if (xs.length + m.toNat) * ei.bytes ≤ 140737488355328 then kk (rowRec o tl [(id,some (.buf e k bs))] none base e k (xs ++ List.replicate m.toNat (dflt k))) else none
     else none) else none
   | none=>none
  | _,_,_=>none
 | _=>none
theorem opAppendZ_ok {P:Program} {T:List (TypeId×TI)} (hT:TOK P T) {o:Oper} {σ:LS} {t t':TypeId} {x y:Operand} {base:Nat} {kk:Rec→Option ρ} {z:ρ} (ho:o.op=.call { callee:=.builtin .append,args:=#[x,y],argTypes:=#[t,t'] }) (h:opAppendZ T o σ base t t' x y kk=some z):∃ r,Good P o σ base r∧kk r=some z:=by
 unfold opAppendZ at h
 split at h
 case h_2=>cases h
 case h_1 id sz lo n ik m tl hx =>
 split at h
 case h_2=>cases h
 case h_1 e' kn e k bs hk hk' hat =>
 split at h
 case h_2=>cases h
 case h_1 ei hei =>
 have h0:=ite_some h rfl
 clear h
 obtain ⟨⟨rfl,hty,rfl,hpos⟩,h⟩:=h0
 have h0:=ite_some h rfl
 clear h
 obtain ⟨⟨rfl,hn0,hm0,hgrow⟩,h⟩:=h0
 obtain ⟨xs,hxs,h⟩:=Option.bind_eq_some_iff.1 h
 have h0:=ite_some h rfl
 clear h
 obtain ⟨hbytes,h⟩:=h0
 obtain ⟨ti,hti,hkind⟩:=Option.map_eq_some_iff.1 hk
 obtain ⟨dd,hd,hkd⟩:=(hT t ti hti).under
 rw [hkind] at hkd
 simp only [TK.ok] at hkd
 subst hkd
 obtain ⟨ti',hti',hkind'⟩:=Option.map_eq_some_iff.1 hk'
 obtain ⟨dd',hd',hkd'⟩:=(hT t' ti' hti').under
 rw [hkind'] at hkd'
 simp only [TK.ok] at hkd'
 subst hkd'
 obtain ⟨it,zv,hi1,hi2,hi3,hi4,hi5⟩:=(hT e' ei hei).info
 obtain ⟨hs1,hs2,hs3⟩:=(hT e' ei hei).ty k hty
 have hsz:it.size=size k:=by rw [hi2,hs1]
 have hzs:zv.cells.toList=zeros k:=by rw [hi5,hs2]
 have hzz:zv.cells.size=size k:=by rw [← Array.length_toList,hzs]; exact (zeros_rd (I:=fun _=>False) (w:=default) k).length
 have exec:∀ (a:Act) (w w':World) (v:Value),(Builtin.append_ #[t,t'] o.type #[a.eval x,a.eval y]).run P w=.ok v w'→(execOp a.eval o).run P w=.ok (.value v) w':=by
  intro a w w' v hr
  unfold execOp
  simp only [ho,resolve,invoke,builtin,Sem.run_bind,Sem.run_pure,Result.andThen_ok,List.map_toArray,List.map_cons,List.map_nil,hr]
 refine ⟨_,⟨rfl,opd2_temps hx,by simpa [rowRec] using hat,by simp [rowRec],rowRec_ok fun fr σ' φ I a w hR hv=>?_⟩,h⟩
 obtain ⟨h1,h2⟩:=opd2_eval hx hR hv.1
 have hh:σ'.heap id=some (.buf e' k bs):=hv.2.1 _ List.mem_cons_self
 have h1:ViewOK φ id (size k) 0 n (a.eval x):=h1
 have h2:a.eval y=.int ik m:=h2
 have hmn:((m.toNat:Nat):Int)=m:=Int.toNat_of_nonneg hm0
 obtain ⟨v0,e0,hB⟩:=hR.heap id _ hh
 have hnb:n.toNat ≤ bs.length:=by
  rcases h1 with ⟨g,N,cap',of,e2,e3,h4,h5,h9,h10⟩ | ⟨e2,e3,_,rfl⟩
  ·rw [e0] at e2; cases e2
   obtain ⟨rfl,rfl,_⟩:=hB.cap rfl
   omega
  ·simp
 have hb63:xs.length + m.toNat ≤ 140737488355328:=Nat.le_trans (Nat.le_mul_of_pos_right _ hpos) hbytes
 have hus:∀ w,lst (RdC I w k) (List.replicate m.toNat (dflt k)) (Builtin.zeroCells zv.cells m.toNat).toList:=by
  intro w
  rw [zeroCells_eq _ (by rw [hzz]; exact hs3),hzs]
  exact lst_replicate k _
 have hul:(Builtin.zeroCells zv.cells m.toNat).toList.length=m.toNat * size k:=by
  rw [Array.length_toList,size_zeroCells,hzz]
 rcases buf_olds hB hxs hnb with ⟨rfl,hn',rfl⟩ | ⟨g,vs,rfl,hxl,hl,hvl,hcell⟩
 ·have hn':n=0:=by omega
  subst hn'
  have e3:a.eval x=.slice none 0 0:=by
   rcases h1 with ⟨g,N,cap',of,e2,_⟩ | ⟨_,e3,_⟩
   ·rw [e0] at e2; cases e2
   ·exact e3
  rcases hB with ⟨_,rfl⟩ | ⟨g',cur,e4,_⟩
  ·simp only [List.length_nil,Nat.zero_add] at hgrow hb63 hbytes
   have hr:=Lib.run_append_nil_zeros (P:=P) w t t' o.type e' it zv ik kn hd hd' hi1 hi4 m.toNat (by omega) (by omega) (by omega) (by rw [hi3]; omega)
   rw [hmn] at hr
   refine ⟨_,_,exec a w _ _ (by rw [e3,h2]; exact hr),⟨(Builtin.zeroCells zv.cells m.toNat).toList,?_,hus w⟩,grown_only w _,fun b hb=>by cases hb; exact Nat.le_refl _⟩
   rw [List.nil_append,List.length_replicate]
   have:=grown_row (w:=w) (e:=e') (xs:=(Builtin.zeroCells zv.cells m.toNat).toList) (rest:=Builtin.zeroCells zv.cells (grownCap w m.toNat 0 e' - m.toNat)) hul (by rw [size_zeroCells,hzz]) (grownCap_ge w _ _ _) (grownCap_le_maxLen w _ _ _ (by unfold maxLen; omega))
   rwa [Array.toArray_toList] at this
  ·cases e4
 ·rcases h1 with ⟨g',N,cap',of,e2,e3,h4,h5,h9',h10⟩ | ⟨e2,e3,_,rfl⟩
  ·rw [e0] at e2; cases e2
   have hof:of=0:=(h10 (.inr rfl)).trans (Nat.zero_mul _)
   have hr:=run_append_grow_zeros (P:=P) w t t' o.type e' it zv ik kn hd hd' hi1 hi4 ⟨g,of,none⟩ n.toNat bs.length vs (by rw [hvl,hsz]) (fun j u hu=>by
     rw [Addr.add_lit]
     rw [hof]
     exact hcell j u hu) m.toNat (by omega) (by omega) (by omega) (by omega) (growslice_fits (by omega) (by rw [hi3,← hxl]; exact hbytes)) (by rw [hi3]; have:=Nat.le_trans (Nat.mul_le_mul_right ei.bytes (Nat.le_add_left m.toNat xs.length)) hbytes; omega)
   rw [hmn] at hr
   refine ⟨_,_,exec a w _ _ (by rw [e3,h2]; exact hr),⟨vs ++ (Builtin.zeroCells zv.cells m.toNat).toList,?_,hl.append (hus w)⟩,grown_only w _,fun b hb=>by cases hb; exact Nat.le_refl _⟩
   have eA:vs.toArray ++ Builtin.zeroCells zv.cells m.toNat=(vs ++ (Builtin.zeroCells zv.cells m.toNat).toList).toArray:=by
    apply Array.ext'; simp
   rw [List.length_append,hxl,List.length_replicate,eA]
   exact grown_row (xs:=vs ++ (Builtin.zeroCells zv.cells m.toNat).toList) (n:=n.toNat + m.toNat) (sz:=size k) (by rw [List.length_append,hvl,hul,Nat.add_mul]) (by rw [size_zeroCells,hzz]) (grownCap_ge w _ _ _) (grownCap_le_maxLen w _ _ _ (by unfold maxLen; omega))
  ·rw [e0] at e2; cases e2
def OvOK (P:Program) (f:FuncId):Prop:=∃ (tS tR e:TypeId) (sz:Nat),P.underlying tS=some (.slice e)∧(∀ w,(sizeOf e).run P w=.ok sz w) ∧
 ∀ (args:Array Value) (w:World),(callFunc f args).run P w=((Extern.SlicesOverlaps.overlaps #[tS,tS] #[tR] args).run P w).andThen fun v w'=>.ok (.value v) w'
theorem OvOK.of {P : Program} {f : FuncId} {fn : Func} {tS tR e : TypeId} {sz : Nat} (hf : P.funcs[f]? = some fn) (hname : (fn.name == "runtime.NumGoroutine") = false) (hb : fn.body.isNone = true) (hn : Extern.findNext fn = none)
  (he:Extern.find fn=some (Extern.SlicesOverlaps.overlaps #[tS,tS] #[tR])) (ht:P.underlying tS=some (.slice e)) (hz:(P.info? e).map (fun i=>i.size)=some sz):OvOK P f:=by
 refine ⟨tS,tR,e,sz,ht,fun w=>?_,fun args w=>run_callFunc_extern hf hname hb hn he args w⟩
 obtain ⟨i,h1,h2⟩:=Option.map_eq_some_iff.1 hz
 rw [run_sizeOf h1,h2]
theorem overlaps_eq (tS tR:TypeId) (a b:Option Addr) (la ca lb cb:Nat):Extern.SlicesOverlaps.overlaps #[tS,tS] #[tR] #[.slice a la ca,.slice b lb cb]=(do
  let some t := (#[tS, tS] : Array TypeId)[0]? | stuck "slices.overlaps: no parameter types"
  let .slice elem ← underlying t | stuck "slices.overlaps: slice type expected"
  let size ← sizeOf elem
  match a,b with
  | some a,some b =>
   if la=0 ∨ lb=0 ∨ size=0 then pure (Value.bool false)
   else if a.block != b.block && (← frozen a) && (← frozen b) then unsupported .addressObserved
   else do
    if a.block != b.block then do
     noView a; noView b
     if ← mayBeOne a b then return Value.bool ((← choose (.extern "sameAddr.stringBytes" 2)) == 1)
    pure (Value.bool (a.block == b.block && a.off < b.off + lb * size && b.off < a.off + la * size))
  | _,_=>pure (Value.bool false)):=rfl
def opOverV (OV:List FuncId) (o:Oper) (σ:LS) (fv x y:Operand) (kk:Rec→Option ρ):Option ρ :=
 match opd σ fv,opd2 σ x y with
 | some (.sv false [.clo f []],tl0),some (.sv false [.own id],.sv false [.view id2 sz lo n],tl)=>match σ.at id,σ.at id2 with
  | some (.row e k xs),some (.buf e2 k2 bs)=>if OV.contains f=true∧id ≠ id2∧0 < size k2 then (if 0 < n then kk (valK o (tl0 ++ tl) [(id,some (.row e k xs)),(id2,some (.buf e2 k2 bs))] (.sv false [.lit (.bool false)])) else none) else none
  | _,_=>none
 | _,_=>none
theorem opOverV_ok {P:Program} {OV:List FuncId} (hOV:∀ f ∈ OV,OvOK P f) {o:Oper} {σ:LS} {fv x y:Operand} {ts:Array TypeId} {base:Nat} {kk:Rec→Option ρ} {z:ρ} (ho:o.op=.call { callee:=.value fv,args:=#[x,y],argTypes:=ts }) (h:opOverV OV o σ fv x y kk=some z):∃ r,Good P o σ base r∧kk r=some z:=by
 unfold opOverV at h
 split at h
 case h_2=>cases h
 case h_1 f tl0 id id2 sz lo n tl hf hx =>
 split at h
 case h_2=>cases h
 case h_1 e k xs e2 k2 bs hat1 hat2 =>
 have h0:=ite_some h rfl
 clear h
 obtain ⟨⟨hmem,hne,hk2⟩,h⟩:=h0
 have h0:=ite_some h rfl
 clear h
 obtain ⟨hn0,h⟩:=h0
 obtain ⟨tS,tR,el,size',hu,hsz,hcall⟩:=hOV f (by simpa using hmem)
 refine ⟨_,valK_ok ?_ ?_ fun fr σ' φ I a w hR hv hvh=>?_,h⟩
 ·intro p hp
  rcases List.mem_append.1 hp with hp | hp
  ·exact opd_temps hf p hp
  ·exact opd2_temps hx p hp
 ·intro p hp
  simp only [List.mem_cons,List.not_mem_nil,or_false] at hp
  rcases hp with rfl | rfl
  ·exact hat1
  ·exact hat2
 obtain ⟨cvs,hcv,hcaps⟩:RV fr.J φ I w (.clo f []) (a.eval fv):=opd_eval hf hR fun p hp=>hv p (List.mem_append_left _ hp)
 have hcvs:cvs=[]:=by cases cvs with
  | nil=>rfl
  | cons _ _=>exact hcaps.elim
 subst hcvs
 obtain ⟨h1,h2⟩:=opd2_eval hx hR fun p hp=>hv p (List.mem_append_right _ hp)
 have h1:φ id=some (a.eval x):=h1.1
 have h2:ViewOK φ id2 sz lo n (a.eval y):=h2
 have hh1:=hvh _ List.mem_cons_self
 have hh2:σ'.heap id2=some (.buf e2 k2 bs):=hvh (id2,some (.buf e2 k2 bs)) (List.mem_cons_of_mem _ List.mem_cons_self)
 refine ⟨.bool false,?_,rfl⟩
 have key:(Extern.SlicesOverlaps.overlaps #[tS,tS] #[tR] #[a.eval x,a.eval y]).run P w=.ok (.bool false) w:=by
  have none1:∀ (l c:Nat) (v:Value),(∃ ad l' c',v=.slice ad l' c')→(Extern.SlicesOverlaps.overlaps #[tS,tS] #[tR] #[.slice none l c,v]).run P w=.ok (.bool false) w:=by
   rintro l c v ⟨ad,l',c',rfl⟩
   rw [overlaps_eq]
   cases ad <;> simp [run_underlying hu,hsz]
  have none2:∀ (l c l' c':Nat) (ad:Option Addr),(Extern.SlicesOverlaps.overlaps #[tS,tS] #[tR] #[.slice ad l c,.slice none l' c']).run P w=.ok (.bool false) w:=by
   intro l c l' c' ad
   rw [overlaps_eq]
   cases ad <;> simp [run_underlying hu,hsz]
  have zero:∀ (b b2:Addr) (la ca lb cb:Nat),(la=0 ∨ lb=0 ∨ size'=0)→(Extern.SlicesOverlaps.overlaps #[tS,tS] #[tR] #[.slice (some b) la ca,.slice (some b2) lb cb]).run P w=.ok (.bool false) w:=by
   intro b b2 la ca lb cb h0
   rw [overlaps_eq]
   simp [run_underlying hu,hsz,h0]
  obtain ⟨v,vs,e1,ho',hl⟩:=hR.heap id _ hh1
  rw [h1] at e1; cases e1
  rcases ho'.2 with ⟨e3,_⟩ | ⟨g,cap,cur,e3,_,hg,_,_,hcs,_⟩
  ·rw [e3]
   obtain ⟨ad,cap,e4,_⟩:=h2.slice
   exact none1 _ _ _ ⟨_,_,_,e4⟩
  ·rcases h2 with ⟨g2,N,cap2,of,e4,e5,h4,h5,h6,h7⟩ | ⟨_,e5,_⟩
   ·have hne2:g ≠ g2:=by
     rintro rfl
     exact hR.sep id id2 _ _ _ _ g hne hh1 hh2 rfl rfl h1 e4 (by rw [e3]; rfl) rfl
    obtain ⟨v2,e6,hB⟩:=hR.heap id2 _ hh2
    rw [e4] at e6; cases e6
    obtain ⟨rfl,rfl,cur2,hg2,_,hcs2,_⟩:=hB.cap rfl
    rw [e3,e5]
    by_cases h0:xs.length=0 ∨ n.toNat=0 ∨ size'=0
    ·exact zero _ _ _ _ _ _ h0
    ·have hc0:cur2.size ≠ 0:=by
      have:1 * 1 ≤ bs.length * size k2:=Nat.mul_le_mul (by omega) hk2
      omega
     exact Lib.run_overlaps_apart w tS tR el hu size' hsz ⟨g,0,none⟩ ⟨g2,of,none⟩ xs.length cap n.toNat _ hne2 e e2 cur.size cur2.size (by simp [World.shape?,hg]) (by simp [World.shape?,hg2]) hc0 (by simp [World.frozen?,hg]) (by simp [World.frozen?,hg])
   ·rw [e3,e5]
    exact none2 _ _ _ _ _
 unfold execOp
 simp only [ho,resolve,hcv,Deferred.ofValue,Sem.run_bind,Sem.run_pure,Result.andThen_ok,invoke,List.map_toArray,List.map_cons,List.map_nil]
 have eA:(#[] ++ #[a.eval x,a.eval y] ++ #[]:Array Value)=#[a.eval x,a.eval y]:=by simp
 rw [eA,hcall,key,Result.andThen_ok]
def LS.renew (σ:LS) (id:Nat) (hv:HV):LS:={ σ with heap:=(id,none) :: (σ.next,some hv) :: σ.heap,next:=σ.next + 1 }
def settleE (σ:LS):List (Bool×List CV)→(LS→List (Bool×List CV)→Option ρ)→Option ρ
 | [],k=>k σ []
 | p :: l,k=>match p with
  | (false,[.view id sz lo n])=>match σ.at id with
   | some (.buf e kk bs)=>if sz=size kk∧id < σ.next then (if lo=0∧0 ≤ n then (allS (bs.take n.toNat)).bind fun xs=>settleE (σ.renew id (.row e kk xs)) l fun σ' l'=>k σ' ((false,[.own σ.next]) :: l')
    else none) else none
   | some (.row e kk xs)=>if sz=size kk∧id < σ.next then (if lo=0∧0 ≤ n∧n ≤ (xs.length:Int) then settleE (σ.renew id (.row e kk (xs.take n.toNat))) l fun σ' l'=>k σ' ((false,[.own σ.next]) :: l')
    else none) else none
   | _=>none
  | p=>settleE σ l fun σ' l'=>k σ' (p :: l')
theorem renew_at (σ:LS) (id:Nat) (hv:HV) (hid:id < σ.next) (i:Nat):(σ.renew id hv).at i=if i=id then none else if i=σ.next then some hv else σ.at i:=by
 unfold LS.at LS.renew
 simp only [List.lookup]
 by_cases h:i=id
 ·subst h; simp
 ·have:(i == id)=false:=by simpa using h
  rw [this,if_neg h]
  simp only
  by_cases h2:i=σ.next
  ·subst h2; simp
  ·have:(i == σ.next)=false:=by simpa using h2
   rw [this,if_neg h2]
theorem R.renew {fr:Fr} {σ:LS} {φ:Nat→Option Value} {I:Nat→Prop} {a:Act} {w:World} (hR:R fr σ.toF φ I a w) {id:Nat} {hv0 hv:HV} {u u0:Value} (hid:id < σ.next) (h0:σ.at id=some hv0) (ho:hv0.owned=true) (hu0:φ id=some u0) (hu:∀ b,blk u=some b→blk u0=some b)
  (hwr:RH fr.J (ext φ σ.next u) I w σ.next hv) (hpl:hv.plain=true:=by rfl):R fr (σ.renew id hv).toF (ext φ σ.next u) I a w:=by
 have h1:=hR.move (w':=w) (id:=σ.next) (id0:=id) (hv:=hv) (hv0:=hv0) (u:=u) (u0:=u0) (v:=undef) ⟨none,none,[],[],[(id,none),(σ.next,some hv)],[σ.next]⟩ (by simp) rfl rfl (Nat.le_refl _) h0 ho hu0 (OnlyP.refl _ _) (fun b hb=>.inl (hu b hb)) hwr (fun _ h=>by cases h) hpl
 refine R.sub (show R fr _ (ext φ σ.next u) I a w from h1) ?_ ?_ ?_ rfl
 ·intro t av he
  simp only [Rec.apply]
  exact he
 ·intro i hv' he
  have he:(σ.renew id hv).at i=some hv':=he
  rw [renew_at σ id hv hid] at he
  simp only [Rec.apply,List.lookup]
  by_cases e1:i=id
  ·rw [if_pos e1] at he; cases he
  ·rw [if_neg e1] at he
   have:(i == id)=false:=by simpa using e1
   rw [this]
   simp only
   by_cases e2:i=σ.next
   ·rw [if_pos e2] at he
    have:(i == σ.next)=true:=by simpa using e2
    rw [this]
    exact he
   ·rw [if_neg e2] at he
    have:(i == σ.next)=false:=by simpa using e2
    rw [this]
    exact he
 ·intro i hi
  have hi:σ.next + 1 ≤ i:=hi
  simp only [Rec.apply]
  exact ⟨by show σ.next ≤ i; omega,by simp; omega⟩
theorem settleE_ok {fr:Fr} {a:Act} {w:World} {z:ρ}:∀ (l:List (Bool×List CV)) (σ:LS) (φ:Nat→Option Value) (I:Nat→Prop) (us:List Value) (k:LS→List (Bool×List CV)→Option ρ),R fr σ.toF φ I a w→all2 (fun p u=>RSV fr.J φ I w p.1 p.2 u) l us→settleE σ l k=some z →
  ∃ σ' l' φ',R fr σ'.toF φ' I a w∧all2 (fun p u=>RSV fr.J φ' I w p.1 p.2 u) l' us∧(∀ i v,φ i=some v→φ' i=some v)∧k σ' l'=some z
 | [],σ,φ,I,us,k,hR,hu,h=>⟨σ,[],φ,hR,hu,fun _ _ h=>h,h⟩
 | p :: l,σ,φ,I,[],k,hR,hu,h=>hu.elim
 | p :: l,σ,φ,I,u :: us,k,hR,⟨hu1,hu2⟩,h=>by
  unfold settleE at h
  have go:∀ (id sz:Nat) (n:Int) (e:TypeId) (kk:Ty) (xs:List (D kk)) (hv0:HV),p=(false,[.view id sz 0 n])→0 ≤ n→id < σ.next→σ.at id=some hv0→hv0.owned=true →
    (∀ g N cap,RH fr.J φ I w id hv0→φ id=some (.slice (some ⟨g,0,none⟩) N cap)→n.toNat ≤ cap→∃ vs,w.ownsRow 0 e (size kk) (.slice (some ⟨g,0,none⟩) n.toNat cap) xs.length vs∧lst (RdC I w kk) xs vs) →
    (RH fr.J φ I w id hv0→φ id=some (.slice none 0 0)→n=0→xs=[])→sz=size kk →
    settleE (σ.renew id (.row e kk xs)) l (fun σ' l'=>k σ' ((false,[.own σ.next]) :: l'))=some z→∃ σ' l' φ',R fr σ'.toF φ' I a w∧all2 (fun p u=>RSV fr.J φ' I w p.1 p.2 u) l' (u :: us)∧(∀ i v,φ i=some v→φ' i=some v)∧k σ' l'=some z:=by
   rintro id sz n e kk xs hv0 rfl hn hid hat hown hrow hnil rfl h
   have hv1:ViewOK φ id (size kk) 0 n u:=hu1
   have hRH:=hR.heap id hv0 hat
   have hfr:=hR.fresh σ.next (Nat.le_refl _)
   have hmono:=ext_mono (φ:=φ) (id:=σ.next) (u:=u) hfr
   have fin:∀ (u0:Value),φ id=some u0→(∀ b,blk u=some b→blk u0=some b)→u.oneCell'=true→(∃ vs,w.ownsRow 0 e (size kk) u xs.length vs∧lst (RdC I w kk) xs vs) →
     ∃ σ' l' φ',R fr σ'.toF φ' I a w∧all2 (fun p u=>RSV fr.J φ' I w p.1 p.2 u) l' (u :: us)∧(∀ i v,φ i=some v→φ' i=some v)∧k σ' l'=some z:=by
    rintro u0 h1 h2 hone ⟨vs,h3,h4⟩
    have hR2:=hR.renew (hv:=.row e kk xs) (u:=u) hid hat hown h1 h2 ⟨u,vs,ext_same,h3,h4⟩
    obtain ⟨σ',l',φ',h5,h6,h7,h8⟩:=settleE_ok l _ _ I us _ hR2 (hu2.mono fun _ _ h=>RSV.mono hmono (fun _ h=>h) (fun _ _=>rfl) h) h
    exact ⟨σ',(false,[.own σ.next]) :: l',φ',h5,⟨⟨h7 _ _ ext_same,hone⟩,h6⟩,fun i v hi=>h7 i v (hmono i v hi),h8⟩
   rcases hv1 with ⟨g,N,cap,of,e1,e2,_,h5,h6,h7⟩ | ⟨e1,e2,_,rfl⟩
   ·have hof:of=0:=(h7 (.inr rfl)).trans (Nat.zero_mul _)
    subst hof
    have e3:u=.slice (some ⟨g,0,none⟩) n.toNat cap:=e2
    obtain ⟨vs,h8,h9⟩:=hrow g N cap hRH e1 (by omega)
    exact fin _ e1 (fun b hb=>by rw [e3] at hb; exact hb) (by rw [e3]; rfl) ⟨vs,by rw [e3]; exact h8,h9⟩
   ·have hx:=hnil hRH e1 rfl
    subst hx
    exact fin _ e1 (fun b hb=>by rw [e2] at hb; cases hb) (by rw [e2]; rfl) ⟨[],by rw [e2]; exact World.ownsRow_nil _ _ _ _,rfl⟩
  split at h
  case h_1 id sz lo n =>
   split at h
   case h_3=>cases h
   case h_1 e kk bs hat =>
    have h0:=ite_some h rfl
    clear h
    obtain ⟨⟨hsz,hid⟩,h⟩:=h0
    have h0:=ite_some h rfl
    clear h
    obtain ⟨⟨rfl,hn⟩,h⟩:=h0
    obtain ⟨xs,hxs,h⟩:=Option.bind_eq_some_iff.1 h
    refine go id sz n e kk xs _ rfl hn hid hat rfl (fun g N cap hRH hφ hcap=>?_) (fun hRH hφ hn0=>?_) hsz h
    ·obtain ⟨v,e1,hB⟩:=hRH
     rw [hφ] at e1; cases e1
     obtain ⟨rfl,rfl,cur,hg,hm,hcs,hl⟩:=hB.cap rfl
     rcases buf_olds hB hxs hcap with ⟨h1,_⟩ | ⟨g',us',h1,hxl,h2,h3,h4⟩
     ·cases h1
     ·cases h1
      refine ⟨us',⟨by rw [hxl]; exact h3,.inr ⟨g,_,cur,by rw [hxl],Nat.zero_le _,hg,by rw [hxl]; exact hcap,hm,hcs,?_⟩⟩,h2⟩
      apply List.ext_getElem?
      intro j
      rw [List.getElem?_take,hxl]
      by_cases hj:j < n.toNat * size kk
      ·rw [if_pos hj]
       obtain ⟨u',hu'⟩:∃ u',us'[j]?=some u':=⟨us'[j]'(by omega),List.getElem?_eq_getElem _⟩
       have:=h4 j u' hu'
       rw [Nat.zero_add,cell_of_row w g j cur _ (0,0) hg] at this
       rw [hu']
       simpa using this
      ·rw [if_neg hj,List.getElem?_eq_none (by omega)]
    ·subst hn0
     simp [allS] at hxs
     exact hxs
   case h_2 e kk xs hat =>
    have h0:=ite_some h rfl
    clear h
    obtain ⟨⟨hsz,hid⟩,h⟩:=h0
    have h0:=ite_some h rfl
    clear h
    obtain ⟨⟨rfl,hn,hnx⟩,h⟩:=h0
    refine go id sz n e kk (xs.take n.toNat) _ rfl hn hid hat rfl (fun g N cap hRH hφ hcap=>?_) (fun hRH hφ hn0=>?_) hsz h
    ·obtain ⟨cur,rfl,hg,hnc,hm,hcs,hl⟩:=row_block hRH hφ
     have hxl:(xs.take n.toNat).length=n.toNat:=by rw [List.length_take]; omega
     have hle:n.toNat * size kk ≤ xs.length * size kk:=Nat.mul_le_mul_right _ (by omega)
     have hle2:xs.length * size kk ≤ cap * size kk:=Nat.mul_le_mul_right _ hnc
     refine ⟨(cur.toList.take (xs.length * size kk)).take (n.toNat * size kk),⟨?_,.inr ⟨g,cap,cur,by rw [hxl],Nat.zero_le _,hg,by rw [hxl]; exact hcap,hm,hcs,?_⟩⟩,lst.take (fun _ _ h=>h.length) _ hl⟩
     ·have htl:cur.toList.length=cap * size kk:=by rw [Array.length_toList,hcs]
      rw [hxl,List.length_take,List.length_take,htl]; omega
     ·rw [hxl,List.take_take,Nat.min_eq_left hle]
    ·subst hn0; rfl
  case h_2 hne =>
   obtain ⟨σ',l',φ',h1,h2,h3,h4⟩:=settleE_ok l σ φ I us _ hR hu2 h
   exact ⟨σ',p :: l',φ',h1,⟨RSV.mono h3 (fun _ h=>h) (fun _ _=>rfl) hu1,h2⟩,h3,h4⟩
end
end Go.Ev
