/- A checked evaluator, part X: clear, append into parts of rows, slices.overlaps; a part of a row becomes a row. -/
import Derived.Test.YtjdlancjbdmkhaaQEvW
namespace Go.Ev
open Go.RowKit
set_option linter.unusedVariables false
section
variable {ρ:Type}
theorem zeroCells_eq (z:Array Value) (hz:0 < z.size) (n:Nat):(Builtin.zeroCells z n).toList=(List.replicate n z.toList).flatten:=by
 have:=made_eq z.toList (by simpa using hz) n
 rw [Array.length_toList,Array.toArray_toList] at this
 exact this
def opClearV (T:List (TypeId×TI)) (o:Oper) (σ:LS) (t:TypeId) (x:Operand) (kk:Rec→Option ρ):Option ρ :=
 match opd σ x with
 | some (.sv false [.view id sz lo n],tl)=>match (T.lookup t).map TI.kind,σ.at id with
  | some (TK.slice e'),some (.row e k xs)=>if e'=e∧(T.lookup e).bind TI.ty=some k∧sz=size k then (if 0 ≤ lo∧0 ≤ n∧lo + n ≤ (xs.length:Int) then
     kk ⟨o.dst,some (.tup []),tl,[(id,some (.row e k xs))],[(id,some (.row e k (splc xs lo.toNat (List.replicate n.toNat (dflt k)))))],[]⟩ else none) else none
  | some (TK.slice e'),some (.buf e k bs)=>if e'=e∧(T.lookup e).bind TI.ty=some k∧sz=size k then (if 0 ≤ lo∧0 ≤ n∧lo + n ≤ (bs.length:Int) then
     kk ⟨o.dst,some (.tup []),tl,[(id,some (.buf e k bs))],[(id,some (.buf e k (splc bs lo.toNat ((List.replicate n.toNat (dflt k)).map some))))],[]⟩ else none) else none
  | _,_=>none
 | _=>none
theorem opClearV_ok {P:Program} {T:List (TypeId×TI)} (hT:TOK P T) {o:Oper} {σ:LS} {t:TypeId} {x:Operand} {base:Nat} {kk:Rec→Option ρ} {z:ρ} (ho:o.op=.call { callee:=.builtin .clear,args:=#[x],argTypes:=#[t] }) (h:opClearV T o σ t x kk=some z):∃ r,Good P o σ base r∧kk r=some z:=by
 unfold opClearV at h
 split at h
 case h_2=>cases h
 case h_1 id sz lo n tl hx =>
 have main:∀ (e:TypeId) (k:Ty) (hv0:HV) (hv1:List (D k)→HV) (L:Nat) (e':TypeId),(T.lookup t).map TI.kind=some (TK.slice e')→σ.at id=some hv0→e'=e∧(T.lookup e).bind TI.ty=some k∧sz=size k →
   0 ≤ lo∧0 ≤ n∧lo + n ≤ (L:Int)→hv0.owned=true→hv1 []=hv0→(∀ ys,(hv1 ys).plain=true) →
   (∀ (fr:Fr) (φ:Nat→Option Value) (I:Nat→Prop) (w:World) g N cap,RH fr.J φ I w id hv0→φ id=some (.slice (some ⟨g,0,none⟩) N cap)→∃ cur,w.heap[g]?=some (.cells cur e (0,0))∧L * size k ≤ cur.size∧L ≤ cap ∧
    ∀ ys us,lst (RdC I w k) ys us→lo.toNat + ys.length ≤ L→(∀ b,I b→b ≠ g)→RH fr.J φ I (w.setRow g (splc cur.toList (lo.toNat * size k) us).toArray) id (hv1 ys)) →
   kk ⟨o.dst,some (.tup []),tl,[(id,some hv0)],[(id,some (hv1 (List.replicate n.toNat (dflt k))))],[]⟩=some z→∃ r,Good P o σ base r∧kk r=some z:=by
  rintro e k hv0 hv1 L e' hk hat ⟨rfl,hty,rfl⟩ ⟨hb1,hb2,hb3⟩ hown hnil hplain hwr h
  obtain ⟨ti,hti,hkind⟩:=Option.map_eq_some_iff.1 hk
  obtain ⟨dd,hd,hkd⟩:=(hT t ti hti).under
  rw [hkind] at hkd
  simp only [TK.ok] at hkd
  subst hkd
  obtain ⟨ei,hei,hei2⟩:=Option.bind_eq_some_iff.1 hty
  obtain ⟨it,zv,hi1,hi2,_,hi4,hi5⟩:=(hT e' ei hei).info
  obtain ⟨hs1,hs2,hs3⟩:=(hT e' ei hei).ty k hei2
  have hzs:zv.cells.toList=zeros k:=by rw [hi5,hs2]
  have hzl:zv.cells.size=size k:=by rw [← Array.length_toList,hzs]; exact (zeros_rd (I:=fun _=>False) (w:=default) k).length
  refine ⟨_,⟨rfl,opd_temps hx,by simpa using hat,by simp,?_⟩,h⟩
  intro fr σ' φ I a w K Q hR hv hdn hK
  have hh:σ'.heap id=some hv0:=hv.2.1 _ List.mem_cons_self
  have h1:ViewOK φ id (size k) lo n (a.eval x):=opd_eval hx hR hv.1
  have hRH:=hR.heap id _ hh
  have hzero:∀ w,(zeroValue e').run P w=.ok zv w:=fun w=>by simp [zeroValue,typeInfo,hi1,hi4]
  by_cases hn0:n.toNat=0
  ·have hrun:(execOp a.eval o).run P w=.ok (.value (.tuple #[])) w:=by
    obtain ⟨ad,cap,e1,_⟩:=h1.slice
    unfold execOp
    rw [hn0] at e1
    cases ad <;> simp [ho,resolve,invoke,builtin,Builtin.clear_,run_underlying hd,e1]
   unfold Oper.wp
   rw [hrun,Oper.upon_value]
   have hq:∀ (hvn:HV) i x,List.lookup i [(id,some hvn)]=some x→i=id∧x=some hvn:=by
    intro hvn i x hl
    simp only [List.lookup] at hl
    by_cases e:i=id
    ·subst e; simp at hl; exact ⟨rfl,hl.symm⟩
    ·have:(i == id)=false:=by simp [e]
     rw [this] at hl; cases hl
   have hsame:hv1 (List.replicate n.toNat (dflt k))=hv0:=by rw [hn0]; exact hnil
   rw [hsame] at hK
   refine hK φ I _ w (hR.upd (φ':=φ) (I':=I) _ (G:=fun _=>False) hdn (fun _ _ h=>h) (fun _ h=>h) (fun id hf _=>hR.fresh id hf) (OnlyP.refl _ _) (fun _ h=>h.elim) (fun _ _ _ _ _ _ _ _ _ h=>h)
    (fun b hb=>.inl hb) ?_ ?_ ?_ ?_ ?_ (fun _ h=>h.elim) (fun b hb=>.inl hb) ?_ ?_)
   ·intro i hv' hl
    obtain ⟨rfl,e2⟩:=hq _ i _ hl
    cases e2
    exact hRH
   ·intro i hv' u b hl ho' hu hb
    obtain ⟨rfl,e2⟩:=hq _ i _ hl
    cases e2
    exact hR.own i _ u b hh ho' hu hb
   ·intro i i' hv1' hv2' u u' b hl hl' h3 ho1 ho2 hu hu' hb hb'
    obtain ⟨rfl,e2⟩:=hq _ i _ hl
    have hne:i ≠ i':=by rintro rfl; simp [List.lookup] at hl'
    exact hR.sep i i' hv0 hv2' u u' b hne hh h3 hown ho2 hu hu' hb hb'
   ·intro i i' hv1' hv2' u u' b hne hl hl'
    exact (hne ((hq _ i _ hl).1.trans (hq _ i' _ hl').1.symm)).elim
   ·intro av e
    simp only [Option.some.injEq] at e
    subst e
    exact ⟨[],rfl,trivial⟩
   ·intro i hv' u b hl ho' hu hb
    obtain ⟨rfl,e2⟩:=hq _ i _ hl
    cases e2
    exact .inr ⟨i,_,u,hh,ho',hu,hb⟩
   ·intro i hv' hl
    obtain ⟨rfl,e2⟩:=hq _ i _ hl
    cases e2
    rw [← hnil]; exact hplain _
  rcases h1 with ⟨g,N,cap',of,e2,e3,h4,h5,h6,h7⟩ | ⟨_,_,rfl,rfl⟩
  ·obtain ⟨cur,hg,hsz2,hLc,hw⟩:=hwr fr φ I w g N cap' hRH e2
   have hIg:∀ b,I b→b ≠ g:=by
    rintro b hb rfl
    exact (hR.own id hv0 _ b hh hown e2 rfl).1 hb
   have hof:of=lo.toNat * size k:=h7 (.inl (by omega))
   have hus:lst (RdC I w k) (List.replicate n.toNat (dflt k)) (Builtin.zeroCells zv.cells n.toNat).toList:=by
    rw [zeroCells_eq _ (by rw [hzl]; exact hs3),hzs]
    exact lst_replicate k _
   have hul:(Builtin.zeroCells zv.cells n.toNat).toList.length=n.toNat * size k:=by
    have:=lst.length (fun _ _ h=>h.length) hus
    rwa [List.length_replicate] at this
   have hle:(lo.toNat + n.toNat) * size k ≤ L * size k:=Nat.mul_le_mul_right _ (by omega)
   rw [Nat.add_mul] at hle
   have hst:=run_storeCells_at P g of e' (Builtin.zeroCells zv.cells n.toNat).toList 0 cur w hg (by omega) (lst.all (p:=fun u=>u.oneCell'=true) (fun _ _ h=>h.one) hus)
   simp only [Nat.add_zero] at hst
   have hrun:(execOp a.eval o).run P w=.ok (.value (.tuple #[])) (w.setRow g (splc cur.toList of (Builtin.zeroCells zv.cells n.toNat).toList).toArray):=by
    unfold execOp
    obtain ⟨m,hm⟩:∃ m,n.toNat=m + 1:=⟨n.toNat - 1,by omega⟩
    rw [hm] at hst e3 ⊢
    simp [ho,resolve,invoke,builtin,Builtin.clear_,run_underlying hd,e3,hzero,hst,splc]
   unfold Oper.wp
   rw [hrun,Oper.upon_value]
   refine hK φ I _ _ (hR.put _ (id:=id) (b:=g) hdn rfl rfl hh hown e2 rfl (OnlyP.setRow w g _) ?_ ?_ (hplain _))
   ·rw [hof]
    exact hw _ _ hus (by rw [List.length_replicate]; omega) hIg
   ·intro av e
    simp only [Option.some.injEq] at e
    subst e
    exact ⟨[],rfl,trivial⟩
  ·exact absurd (by simp) hn0
 split at h
 case h_3=>cases h
 case h_1 e' e k xs hk hat =>
  obtain ⟨hc1,h⟩:=ite_some h rfl
  obtain ⟨hc2,h⟩:=ite_some h rfl
  refine main e k _ (fun ys=>.row e k (splc xs lo.toNat ys)) xs.length e' hk hat hc1 hc2 rfl (by rw [splc_nil]) (fun _=>rfl) (fun fr φ I w g N cap hRH hφ=>?_) h
  obtain ⟨cur,rfl,hg,hn,_,hcs,_⟩:=row_block hRH hφ
  exact ⟨cur,hg,by rw [hcs]; exact Nat.mul_le_mul_right _ hn,hn,fun ys us h1 h2 h3=>row_write hRH hφ hg h1 h2 h3⟩
 case h_2 e' e k bs hk hat =>
  obtain ⟨hc1,h⟩:=ite_some h rfl
  obtain ⟨hc2,h⟩:=ite_some h rfl
  refine main e k _ (fun ys=>.buf e k (splc bs lo.toNat (ys.map some))) bs.length e' hk hat hc1 hc2 rfl (by rw [List.map_nil,splc_nil]) (fun _=>rfl) (fun fr φ I w g N cap hRH hφ=>?_) h
  have hRH':=hRH
  obtain ⟨v,h1,h2⟩:=hRH'
  rw [hφ] at h1; cases h1
  obtain ⟨rfl,rfl,cur,hg,hm,hcs,hl⟩:=h2.cap rfl
  exact ⟨cur,hg,by rw [hcs]; exact Nat.le_refl _,Nat.le_refl _,fun ys us h1 h2 h3=>buf_write hRH hφ hg h1 h2 h3⟩
def opAppendV (T:List (TypeId×TI)) (o:Oper) (σ:LS) (base:Nat) (t:TypeId) (x y:Operand) (kk:Rec→Option ρ):Option ρ :=
 match opd2 σ x y with
 | some (.sv false [.view id sz lo n],.sv false [d],tl)=>match (T.lookup t).map TI.kind,σ.at id with
  | some (TK.slice e'),some (.buf e k bs)=>match T.lookup e with
   | some ei=>match opAppend.qAny σ e k d with
    | some (ys,hp)=>if e'=e∧ei.ty=some k∧sz=size k∧0 < ei.bytes then (if lo=0∧0 ≤ n then
      (if n + (ys.length:Int) ≤ (bs.length:Int) then
       kk ⟨o.dst,some (.sv false [.view id sz 0 (n + (ys.length:Int))]),tl,(id,some (.buf e k bs)) :: hp,[(id,some (.buf e k (splc bs n.toNat (ys.map some))))],[]⟩
      else (allS (bs.take n.toNat)).bind fun xs=>if (xs.length + ys.length) * ei.bytes ≤ 140737488355328 then kk (rowRec o tl ((id,some (.buf e k bs)) :: hp) none base e k (xs ++ ys)) else none)
     else none) else none
    | none=>none
   | none=>none
  | _,_=>none
 | _=>opAppend T o σ base t x y kk
theorem buf_olds {I:Nat→Prop} {w:World} {e:TypeId} {k:Ty} {bs:List (Option (D k))} {v:Value} (h:BufOK I w e k bs v) {n:Nat} {xs:List (D k)} (hx:allS (bs.take n)=some xs) (hn:n ≤ bs.length) :
  (v=.slice none 0 0∧n=0∧xs=[]) ∨ ∃ g us,v=.slice (some ⟨g,0,none⟩) bs.length bs.length∧xs.length=n∧lst (RdC I w k) xs us∧us.length=n * size k∧∀ j u,us[j]?=some u→w.cell? ⟨g,0 + j,none⟩=some u:=by
 have hal:=allS_ok hx
 have hxl:xs.length=n:=by
  have:=congrArg List.length hal
  rw [List.length_take,List.length_map] at this
  omega
 rcases h with ⟨rfl,rfl⟩ | ⟨g,cur,rfl,hg,hm,hcs,hl⟩
 ·have:n=0:=by simpa using hn
  subst this
  exact .inl ⟨rfl,rfl,List.eq_nil_of_length_eq_zero hxl⟩
 ·right
  have hle:n * size k ≤ bs.length * size k:=Nat.mul_le_mul_right _ hn
  have hlen:(cur.toList.take (n * size k)).length=n * size k:=by rw [List.length_take,Array.length_toList]; omega
  refine ⟨g,cur.toList.take (n * size k),rfl,hxl,lst_of _ _ (by rw [hlen,hxl]) fun i x hi=>?_,hlen,fun j u hj=>?_⟩
  ·have hin:i < n:=by rw [← hxl]; exact (List.getElem?_eq_some_iff.1 hi).1
   have h8:(xs.map some)[i]?=some (some x):=by rw [List.getElem?_map,hi]; rfl
   rw [← hal,List.getElem?_take,if_pos hin] at h8
   have h9:=hl _ _ h8
   have hle2:(i + 1) * size k ≤ n * size k:=Nat.mul_le_mul_right _ hin
   rw [Nat.add_mul,Nat.one_mul] at hle2
   rw [List.drop_take,List.take_take,Nat.min_eq_left (by omega)]
   exact h9
  ·rw [Nat.zero_add,cell_of_row w g j cur _ (0,0) hg]
   rw [List.getElem?_take] at hj
   split at hj
   ·simpa using hj
   ·cases hj
theorem grown_row {w:World} {e:TypeId} {sz n cap:Nat} {xs:List Value} {rest:Array Value} (hx:xs.length=n * sz) (hr:rest.size=(cap - n) * sz) (hn:n ≤ cap) (hm:cap ≤ maxLen) :
  (w.drew.alloc (.cells (xs.toArray ++ rest) e)).ownsRow 0 e sz (.slice (some ⟨w.heap.size,0,none⟩) n cap) n xs:=by
 refine ⟨hx,.inr ⟨w.heap.size,cap,_,rfl,Nat.zero_le _,heap_alloc_new w.drew _,hn,hm,?_,?_⟩⟩
 ·rw [Array.size_append,List.size_toArray,hx,hr,← Nat.add_mul]
  congr 1; omega
 ·rw [Array.toList_append,← hx]
  exact List.take_left
theorem grown_only (w:World) (o:Obj):OnlyP (fun _=>False) w (w.drew.alloc o):=⟨rfl,rfl,rfl,by simp,fun k hk _=>Below.heap_alloc w.drew o k hk⟩
theorem opAppendV_ok {P:Program} {T:List (TypeId×TI)} (hT:TOK P T) {o:Oper} {σ:LS} {t:TypeId} {x y:Operand} {base:Nat} {kk:Rec→Option ρ} {z:ρ} (ho:o.op=.call { callee:=.builtin .append,args:=#[x,y],argTypes:=#[t,t] }) (h:opAppendV T o σ base t x y kk=some z):∃ r,Good P o σ base r∧kk r=some z:=by
 unfold opAppendV at h
 split at h
 case h_2=>exact opAppend_ok (t':=t) hT ho h
 case h_1 id sz lo n d tl hx =>
 split at h
 case h_2=>cases h
 case h_1 e' e k bs hk hat =>
 split at h
 case h_2=>cases h
 case h_1 ei hei =>
 split at h
 case h_2=>cases h
 case h_1 ys hp hq =>
 have h0:=ite_some h rfl
 clear h
 obtain ⟨⟨rfl,hty,rfl,hpos⟩,h⟩:=h0
 have h0:=ite_some h rfl
 clear h
 obtain ⟨⟨rfl,hn0⟩,h⟩:=h0
 obtain ⟨ti,hti,hkind⟩:=Option.map_eq_some_iff.1 hk
 obtain ⟨dd,hd,hkd⟩:=(hT t ti hti).under
 rw [hkind] at hkd
 simp only [TK.ok] at hkd
 subst hkd
 obtain ⟨it,zv,hi1,hi2,hi3,hi4,hi5⟩:=(hT e' ei hei).info
 obtain ⟨hs1,hs2,hs3⟩:=(hT e' ei hei).ty k hty
 have hsz:it.size=size k:=by rw [hi2,hs1]
 have hzz:zv.cells.size=size k:=by rw [← Array.length_toList,hi5,← hs2]; exact (zeros_rd (I:=fun _=>False) (w:=default) k).length
 have exec:∀ (a:Act) (w w':World) (v:Value),(Builtin.append_ #[t,t] o.type #[a.eval x,a.eval y]).run P w=.ok v w'→(execOp a.eval o).run P w=.ok (.value v) w':=by
  intro a w w' v hr
  unfold execOp
  simp only [ho,resolve,invoke,builtin,Sem.run_bind,Sem.run_pure,Result.andThen_ok,List.map_toArray,List.map_cons,List.map_nil,hr]
 have hhp:∀ p ∈ (id,some (HV.buf e' k bs)) :: hp,σ.at p.1=p.2:=by
  intro p hp'
  rcases List.mem_cons.1 hp' with rfl | hp'
  ·exact hat
  ·exact qAny_hp hq p hp'
 split at h
 case isTrue hfit =>
  refine ⟨_,⟨rfl,opd2_temps hx,hhp,by simp,?_⟩,h⟩
  intro fr σ' φ I a w K Q hR hv hdn hK
  obtain ⟨h1,h2⟩:=opd2_eval hx hR hv.1
  have hh:σ'.heap id=some (.buf e' k bs):=hv.2.1 _ List.mem_cons_self
  have h1:ViewOK φ id (size k) 0 n (a.eval x):=h1
  obtain ⟨ad,cap,us,h6,h7,_,h8⟩:=qAny_ok hq hR (fun p hp=>hv.2.1 p (List.mem_cons_of_mem _ hp)) (show RV fr.J φ I w d (a.eval y) from h2)
  have hRH:=hR.heap id _ hh
  have hul:us.length=ys.length * size k:=lst.length (fun _ _ h=>h.length) h7
  obtain ⟨v0,e0,hB⟩:=hRH
  rcases h1 with ⟨g,N,cap',of,e2,e3,h4,h5,h9,h10⟩ | ⟨e2,e3,_,rfl⟩
  ·rw [e0] at e2; cases e2
   obtain ⟨rfl,rfl,cur,hg,hm,hcs,hl⟩:=hB.cap rfl
   have hIg:∀ b,I b→b ≠ g:=by
    rintro b hb rfl
    exact (hR.own id _ _ b hh rfl e0 rfl).1 hb
   have hof:of=0:=(h10 (.inr rfl)).trans (Nat.zero_mul _)
   have e3':a.eval x=.slice (some ⟨g,of,none⟩) n.toNat bs.length:=by simpa using e3
   have hle:(n.toNat + ys.length) * size k ≤ bs.length * size k:=Nat.mul_le_mul_right _ (by omega)
   rw [Nat.add_mul] at hle
   have hval:RA fr.J φ I (w.setRow g (splc cur.toList (n.toNat * size k) us).toArray) (.sv false [.view id (size k) 0 (n + (ys.length:Int))]) (.slice (some ⟨g,of,none⟩) (n.toNat + ys.length) bs.length):=by
    refine .inl ⟨g,_,_,of,e0,?_,by omega,by omega,by omega,fun h=>hof.trans (Nat.zero_mul _).symm⟩
    congr 1
    omega
   have hw2:=buf_write (J:=fr.J) (lo:=n.toNat) (hR.heap id _ hh) e0 hg h7 (by omega) hIg
   unfold Oper.wp
   by_cases hz:ys=[]
   ·subst hz
    have hus:us=[]:=by simpa [lst] using h7
    subst hus
    have hself:w.setRow g (splc cur.toList (n.toNat * size k) []).toArray=w:=by rw [splc_nil,Array.toArray_toList]; exact setRow_self w g cur _ _ hg
    rw [hself] at hval hw2
    rw [exec a w w _ (by
     rw [e3',h6]
     have:n.toNat ≤ bs.length:=by omega
     cases ad <;> simp [Builtin.append_,run_underlying hd,sizeOf,typeInfo,hi1,Builtin.lenOf,Builtin.firstCells,loadCells,loadCellsFrom,this,storeCells]
     all_goals rfl),Oper.upon_value]
    refine hK φ I _ _ (hR.put _ (id:=id) (b:=g) hdn rfl rfl hh rfl e0 rfl (OnlyP.refl _ _) hw2 ?_)
    intro av e
    simp only [Option.some.injEq] at e
    subst e
    exact hval
   ·rcases h8 with h8 | ⟨b,off,rfl,h9'⟩
    ·exact absurd h8 hz
    have hyp:0 < ys.length:=List.length_pos_iff.2 hz
    subst hof
    have hr:=run_append_room (P:=P) w t o.type e' it hd hi1 g n.toNat bs.length cur hg ⟨b,off,none⟩ ys.length cap us (by rw [hul,hsz]) (fun j u hu=>by rw [Addr.add_lit]; exact h9' j u hu) (lst.all (p:=fun u=>u.oneCell'=true) (fun _ _ h=>h.one) h7) (by omega) (by rw [hsz]; omega)
    rw [hsz] at hr
    rw [exec a w _ _ (by rw [e3',h6]; exact hr),Oper.upon_value]
    refine hK φ I _ _ (hR.put _ (id:=id) (b:=g) hdn rfl rfl hh rfl e0 rfl (OnlyP.setRow w g _) hw2 ?_)
    intro av e
    simp only [Option.some.injEq] at e
    subst e
    exact hval
  ·rw [e0] at e2; cases e2
   rcases hB with ⟨_,rfl⟩ | ⟨g',cur,e4,_⟩
   ·have hy0:ys=[]:=List.eq_nil_of_length_eq_zero (by rw [List.length_nil] at hfit; omega)
    subst hy0
    unfold Oper.wp
    rw [exec a w w _ (by
     rw [e3,h6]
     cases ad <;> simp [Builtin.append_,run_underlying hd,sizeOf,typeInfo,hi1,Builtin.lenOf,Builtin.firstCells,loadCells,loadCellsFrom]
     all_goals rfl),Oper.upon_value]
    have hq:∀ (hvn:HV) i x,List.lookup i [(id,some hvn)]=some x→i=id∧x=some hvn:=by
     intro hvn i x hl
     simp only [List.lookup] at hl
     by_cases e:i=id
     ·subst e; simp at hl; exact ⟨rfl,hl.symm⟩
     ·have:(i == id)=false:=by simp [e]
      rw [this] at hl; cases hl
    refine hK φ I _ w (hR.upd (φ':=φ) (I':=I) _ (G:=fun _=>False) hdn (fun _ _ h=>h) (fun _ h=>h) (fun id hf _=>hR.fresh id hf) (OnlyP.refl _ _) (fun _ h=>h.elim) (fun _ _ _ _ _ _ _ _ _ h=>h)
     (fun b hb=>.inl hb) ?_ ?_ ?_ ?_ ?_ (fun _ h=>h.elim) (fun b hb=>.inl hb) ?_ ?_)
    ·intro i hv' hl
     obtain ⟨rfl,e2⟩:=hq _ i _ hl
     cases e2
     exact ⟨_,e0,.inl ⟨rfl,by simp [splc]⟩⟩
    ·intro i hv' u b hl ho' hu hb
     obtain ⟨rfl,e2⟩:=hq _ i _ hl
     rw [e0] at hu; cases hu
     cases hb
    ·intro i i' hv1' hv2' u u' b hl hl' h3 ho1 ho2 hu hu' hb hb'
     obtain ⟨rfl,e2⟩:=hq _ i _ hl
     rw [e0] at hu; cases hu
     cases hb
    ·intro i i' hv1' hv2' u u' b hne hl hl'
     exact (hne ((hq _ i _ hl).1.trans (hq _ i' _ hl').1.symm)).elim
    ·intro av e
     simp only [Option.some.injEq] at e
     subst e
     exact .inr ⟨e0,rfl,rfl,by simp⟩
    ·intro i hv' u b hl ho' hu hb
     obtain ⟨rfl,e2⟩:=hq _ i _ hl
     rw [e0] at hu; cases hu
     cases hb
    ·intro i hv' hl
     obtain ⟨rfl,e2⟩:=hq _ i _ hl
     cases e2
     rfl
   ·cases e4
 case isFalse hfit =>
  obtain ⟨xs,hxs,h⟩:=Option.bind_eq_some_iff.1 h
  have h0:=ite_some h rfl
  clear h
  obtain ⟨hbytes,h⟩:=h0
  refine ⟨_,⟨rfl,opd2_temps hx,hhp,by simp [rowRec],rowRec_ok fun fr σ' φ I a w hR hv=>?_⟩,h⟩
  obtain ⟨h1,h2⟩:=opd2_eval hx hR hv.1
  have hh:σ'.heap id=some (.buf e' k bs):=hv.2.1 _ List.mem_cons_self
  have h1:ViewOK φ id (size k) 0 n (a.eval x):=h1
  obtain ⟨ad,cap,us,h6,h7,_,h8⟩:=qAny_ok hq hR (fun p hp=>hv.2.1 p (List.mem_cons_of_mem _ hp)) (show RV fr.J φ I w d (a.eval y) from h2)
  have hul:us.length=ys.length * size k:=lst.length (fun _ _ h=>h.length) h7
  obtain ⟨v0,e0,hB⟩:=hR.heap id _ hh
  have hnb:n.toNat ≤ bs.length:=by
   rcases h1 with ⟨g,N,cap',of,e2,e3,h4,h5,h9,h10⟩ | ⟨e2,e3,_,rfl⟩
   ·rw [e0] at e2; cases e2
    obtain ⟨rfl,rfl,_⟩:=hB.cap rfl
    omega
   ·simp
  have hb63:xs.length + ys.length ≤ 140737488355328:=Nat.le_trans (Nat.le_mul_of_pos_right _ hpos) hbytes
  rcases h8 with h8 | ⟨b,off,rfl,h9⟩
  ·subst h8; simp at hfit; omega
  rcases buf_olds hB hxs hnb with ⟨rfl,hn',rfl⟩ | ⟨g,vs,rfl,hxl,hl,hvl,hcell⟩
  ·have hn':n=0:=by omega
   subst hn'
   have e3:a.eval x=.slice none 0 0:=by
    rcases h1 with ⟨g,N,cap',of,e2,_⟩ | ⟨_,e3,_⟩
    ·rw [e0] at e2; cases e2
    ·exact e3
   rcases hB with ⟨_,rfl⟩ | ⟨g',cur,e4,_⟩
   ·simp only [List.length_nil] at hfit
    have hr:=run_append_nil (P:=P) w t o.type e' it zv hd hi1 hi4 ⟨b,off,none⟩ ys.length cap us (by rw [hul,hsz]) (fun j u hu=>by rw [Addr.add_lit]; exact h9 j u hu) (by omega) (by omega) (by rw [hi3]; simp at hbytes; omega)
    refine ⟨_,_,exec a w _ _ (by rw [e3,h6]; exact hr),⟨us,?_,h7⟩,grown_only w _,fun b hb=>by cases hb; exact Nat.le_refl _⟩
    exact grown_row hul (by rw [size_zeroCells,hzz]) (grownCap_ge w _ _ _) (grownCap_le_maxLen w _ _ _ (by unfold maxLen; omega))
   ·cases e4
  ·rcases h1 with ⟨g',N,cap',of,e2,e3,h4,h5,h9',h10⟩ | ⟨e2,e3,_,rfl⟩
   ·rw [e0] at e2; cases e2
    obtain ⟨_,_,cur,_⟩:=hB.cap rfl
    have hof:of=0:=(h10 (.inr rfl)).trans (Nat.zero_mul _)
    have hr:=run_append_grow (P:=P) w t o.type e' it zv hd hi1 hi4 ⟨g,of,none⟩ n.toNat bs.length vs (by rw [hvl,hsz]) (fun j u hu=>by
      rw [Addr.add_lit]
      rw [hof]
      exact hcell j u hu) ⟨b,off,none⟩ ys.length cap us (by rw [hul,hsz]) (fun j u hu=>by rw [Addr.add_lit]; exact h9 j u hu) (by omega) (by omega) (growslice_fits (by omega) (by rw [hi3,← hxl]; exact hbytes))
    refine ⟨_,_,exec a w _ _ (by rw [e3,h6]; exact hr),⟨vs ++ us,?_,hl.append h7⟩,grown_only w _,fun b hb=>by cases hb; exact Nat.le_refl _⟩
    have eA:vs.toArray ++ us.toArray=(vs ++ us).toArray:=by simp
    rw [List.length_append,hxl,eA]
    exact grown_row (xs:=vs ++ us) (n:=n.toNat + ys.length) (sz:=size k) (by rw [List.length_append,hvl,hul,Nat.add_mul]) (by rw [size_zeroCells,hzz]) (grownCap_ge w _ _ _) (grownCap_le_maxLen w _ _ _ (by unfold maxLen; omega))
   ·rw [e0] at e2; cases e2
end
end Go.Ev
