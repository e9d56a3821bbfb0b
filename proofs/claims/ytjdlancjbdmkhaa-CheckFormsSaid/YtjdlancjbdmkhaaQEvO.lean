/- A checked evaluator, part O: equality of structs made of numbers. -/
import Derived.Test.YtjdlancjbdmkhaaQEvD
import Derived.Laws.StructEq
namespace Go.Ev
open Go.RowKit
set_option linter.unusedVariables false
def flatEq:List Value→List Value→Option Bool
 | [],[]=>some true
 | .int k a :: xs,.int k' b :: ys=>if k=k' then (flatEq xs ys).map fun r=>(a == b) && r else none
 | _,_=>none
theorem flatEq_cons {u v:Value} {xs ys:List Value} {b:Bool} (h:flatEq (u :: xs) (v :: ys)=some b):∃ k a c r,u=.int k a∧v=.int k c∧flatEq xs ys=some r∧b=((a == c) && r):=by
 unfold flatEq at h
 split at h
 ·rename_i e1 e2; cases e1
 ·rename_i k a xs' k' c ys' e1 e2
  cases e1; cases e2
  have h0:=ite_some h rfl
  clear h
  obtain ⟨rfl,h⟩:=h0
  obtain ⟨r,h1,h2⟩:=Option.map_eq_some_iff.1 h
  exact ⟨_,a,c,r,rfl,rfl,h1,h2.symm⟩
 ·cases h
theorem run_eqFields_flat {P:Program} {w:World} {d:Nat} (xs ys:List Value):∀ (fs:List Field) (i:Nat) (b:Bool),flatB P fs i=true→flatEq (xs.drop i) (ys.drop i)=some b→xs.length=i + fs.length→ys.length=i + fs.length →
  (Op.eqFields (d + 1) xs.toArray ys.toArray fs).run P w=.ok b w
 | [],i,b,hf,he,h1,h2=>by
  rw [List.drop_eq_nil_of_le (by simp at h1; omega),List.drop_eq_nil_of_le (by simp at h2; omega)] at he
  cases he
  simp [Op.eqFields]
 | f :: fs,i,b,hf,he,h1,h2=>by
  simp only [List.length_cons] at h1 h2
  simp only [flatB,Bool.and_eq_true] at hf
  obtain ⟨hn,ho,hu,hf⟩:=hf
  have hn : f.name ≠ "_" := by simpa using hn
  have ho:f.offset=i:=by simpa using ho
  have hi1:i < xs.length:=by omega
  have hi2:i < ys.length:=by omega
  rw [List.drop_eq_getElem_cons hi1,List.drop_eq_getElem_cons hi2] at he
  obtain ⟨k,a,c,r,e1,e2,e3,e4⟩:=flatEq_cons he
  cases hq:P.underlying f.type with
  | none=>rw [hq] at hu; cases hu
  | some dd =>
   rw [hq] at hu
   cases dd <;> simp at hu
   rename_i kk
   have hp1:(part f.type xs.toArray f.offset).run P w=.ok (.int k a) w:=by
    simp [part,run_isAgg hq,aggB,hq,ho,List.getElem?_eq_getElem hi1,e1]
   have hp2:(part f.type ys.toArray f.offset).run P w=.ok (.int k c) w:=by
    simp [part,run_isAgg hq,aggB,hq,ho,List.getElem?_eq_getElem hi2,e2]
   have ih:=run_eqFields_flat (P:=P) (w:=w) (d:=d) xs ys fs (i + 1) r hf e3 (by omega) (by omega)
   simp only [Op.eqFields,ne_eq,hn,not_false_eq_true,if_true,Sem.run_bind,hp1,hp2,Result.andThen_ok,run_equalIn_int w d f.type k kk a c hq]
   rw [e4]
   cases hac:a == c with
   | false=>simp
   | true=>simp [ih]
section
variable {ρ:Type}
def flatC:List CV→List CV→Option Bool
 | [],[]=>some true
 | .lit (.int k a) :: xs,.lit (.int k' b) :: ys=>if k=k' then (flatC xs ys).map fun r=>(a == b) && r else none
 | _,_=>none
theorem flatC_ok {J I:Nat→Prop} {φ:Nat→Option Value} {w:World}:∀ {cs ds:List CV} {b:Bool} {vs us:List Value},flatC cs ds=some b→all2 (RV J φ I w) cs vs→all2 (RV J φ I w) ds us→flatEq vs us=some b
 | [],[],b,[],[],h,_,_=>h
 | c :: cs,d :: ds,b,v :: vs,u :: us,h,⟨h1,h2⟩,⟨h3,h4⟩=>by
  unfold flatC at h
  split at h
  ·rename_i e1 e2; cases e1
  ·rename_i k a cs' k' c' ds' e1 e2
   cases e1; cases e2
   have h0:=ite_some h rfl
   clear h
   obtain ⟨rfl,h⟩:=h0
   obtain ⟨r,h5,h6⟩:=Option.map_eq_some_iff.1 h
   rw [show v=_ from h1,show u=_ from h3]
   simp [flatEq,flatC_ok h5 h2 h4,h6]
  ·cases h
 | [],[],b,_ :: _,_,h,h1,_=>h1.elim
 | [],[],b,[],_ :: _,h,_,h1=>h1.elim
 | [],d :: ds,b,_,_,h,_,_=>by cases h
 | c :: cs,[],b,_,_,h,_,_=>by unfold flatC at h; split at h <;> first | (rename_i e1 e2; cases e1; done) | (rename_i e1 e2; cases e2; done) | (cases h; done)
 | c :: cs,d :: ds,b,[],_,h,h1,_=>h1.elim
 | c :: cs,d :: ds,b,_ :: _,[],h,_,h1=>h1.elim
def opBinS (T:List (TypeId×TI)) (o:Oper) (σ:LS) (op:BinOp) (t:TypeId) (x y:Operand) (k:Rec→Option ρ):Option ρ :=
 match opd2 σ x y with
 | some (.sv true cs,.sv true ds,tl)=>match T.lookup t with
  | some ti=>if ti.eqi=true∧cs.length=ti.sz∧ds.length=ti.sz then (match flatC cs ds with
   | some b=>match op with
    | .eql=>k (valK o tl [] (.sv false [.lit (.bool b)]))
    | .neq=>k (valK o tl [] (.sv false [.lit (.bool (!b))]))
    | _=>none
   | none=>none) else none
  | none=>none
 | _=>opBin T o σ op t x y k
theorem opBinS_ok {P:Program} {T:List (TypeId×TI)} (hT:TOK P T) {o:Oper} {σ:LS} {op:BinOp} {t yt:TypeId} {x y:Operand} {base:Nat} {k:Rec→Option ρ} {z:ρ} (ho:o.op=.binOp op t x y yt) (h:opBinS T o σ op t x y k=some z):∃ r,Good P o σ base r∧k r=some z:=by
 unfold opBinS at h
 split at h
 case h_2=>exact opBin_ok hT ho h
 case h_1 cs ds tl hx =>
 split at h
 case h_2=>cases h
 case h_1 ti hti =>
 have h0:=ite_some h rfl
 clear h
 obtain ⟨⟨he,hl1,hl2⟩,h⟩:=h0
 obtain ⟨hg,hst,fs,hu,hfl,hlen⟩:=(hT t ti hti).eqi he
 split at h
 case h_2=>cases h
 case h_1 b hb =>
 have main:∀ r,((op=.eql∧r=b) ∨ (op=.neq∧r=!b))→Good P o σ base (valK o tl [] (.sv false [.lit (.bool r)])):=by
  intro r hr
  refine valK_ok (opd2_temps hx) (by simp) fun fr σ' φ I act w hR hv _=>?_
  obtain ⟨⟨vs,e1,h3⟩,⟨us,e2,h4⟩⟩:=opd2_eval hx hR hv
  have h5:=flatC_ok hb h3 h4
  have hfo:P.fieldsOf t=fs:=by simp [Program.fieldsOf,hu]
  have heq:(Op.equalIn 10000 t (.agg vs.toArray) (.agg us.toArray)).run P w=.ok b w:=by
   rw [show (10000:Nat)=9999 + 1 from rfl,run_equalIn_agg w 9999 t _ _ (by rw [hfo]; exact hu) hst,hfo]
   exact run_eqFields_flat (d:=9998) vs us fs.toList 0 b hfl (by simpa using h5) (by rw [← h3.length,hl1,hlen]; omega) (by rw [← h4.length,hl2,hlen]; omega)
  refine ⟨.bool r,?_,rfl⟩
  unfold execOp
  rcases hr with ⟨rfl,rfl⟩ | ⟨rfl,rfl⟩
  ·simp only [ho,e1,e2,Sem.run_bind,run_eqGuard_agg w _ t x y _ _ hg,Result.andThen_ok,run_eql_struct,heq,Sem.run_pure]
  ·simp only [ho,e1,e2,Sem.run_bind,run_eqGuard_agg w _ t x y _ _ hg,Result.andThen_ok,run_neq_struct,heq,Sem.run_pure]
 split at h
 case h_1=>exact ⟨_,main b (.inl ⟨rfl,rfl⟩),h⟩
 case h_2=>exact ⟨_,main (!b) (.inr ⟨rfl,rfl⟩),h⟩
 case h_3=>cases h
end
end Go.Ev
