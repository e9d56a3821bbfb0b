/- A checked evaluator, part N: structs and slices out of their parts. -/
import Derived.Test.YtjdlancjbdmkhaaQEvM
namespace Go.Ev
open Go.RowKit
set_option linter.unusedVariables false
theorem foldl_set (off:Nat):∀ (v:List Value) (j:Nat) (cs:Array Value),off + j + v.length ≤ cs.size →
  ((v.zipIdx j).foldl (fun cs (p:Value×Nat)=>cs.setIfInBounds (off + p.2) p.1) cs).toList=splc cs.toList (off + j) v
 | [],j,cs,_=>by simp [splc]
 | c :: v,j,cs,h=>by
  rw [List.length_cons] at h
  rw [List.zipIdx_cons,List.foldl_cons,foldl_set off v (j + 1) _ (by rw [Array.size_setIfInBounds]; omega)]
  simp only [splc,Array.toList_setIfInBounds]
  apply List.ext_getElem?
  intro i
  have hl:off + j < cs.toList.length:=by rw [Array.length_toList]; omega
  have t1:((cs.toList.set (off + j) c).take (off + (j + 1))).length=off + (j + 1):=by rw [List.length_take,List.length_set]; omega
  have t2:(cs.toList.take (off + j)).length=off + j:=by rw [List.length_take]; omega
  by_cases h1:i < off + j
  ·rw [List.append_assoc,List.getElem?_append_left (by omega),List.getElem?_take,if_pos (by omega),List.getElem?_set_ne (by omega),List.append_assoc,List.getElem?_append_left (by omega),List.getElem?_take,if_pos h1]
  ·by_cases h2:i=off + j
   ·subst h2
    rw [List.append_assoc,List.getElem?_append_left (by omega),List.getElem?_take,if_pos (by omega),List.getElem?_set_self hl,List.append_assoc,List.getElem?_append_right (by omega),t2]
    simp
   ·have hL:((cs.toList.set (off + j) c).take (off + (j + 1)) ++ v ++ (cs.toList.set (off + j) c).drop (off + (j + 1) + v.length))[i]?=(v ++ (cs.toList.set (off + j) c).drop (off + (j + 1) + v.length))[i - (off + (j + 1))]?:=by
     rw [List.append_assoc,List.getElem?_append_right (by omega),t1]
    have hR:(cs.toList.take (off + j) ++ (c :: v) ++ cs.toList.drop (off + j + (c :: v).length))[i]?=(v ++ cs.toList.drop (off + j + (c :: v).length))[i - (off + (j + 1))]?:=by
     rw [List.append_assoc,List.getElem?_append_right (by omega),t2,show i - (off + j)=(i - (off + (j + 1))) + 1 by omega,List.cons_append,List.getElem?_cons_succ]
    rw [hL,hR]
    by_cases h3:i - (off + (j + 1)) < v.length
    ·rw [List.getElem?_append_left h3,List.getElem?_append_left h3]
    ·rw [List.getElem?_append_right (by omega),List.getElem?_append_right (by omega),List.getElem?_drop,List.getElem?_drop,List.getElem?_set_ne (by omega)]
     congr 1
     simp only [List.length_cons]
     omega
theorem fill_cons {place:Nat→Option (Nat×Nat)} {cells:Array Value} {i off sz:Nat} {v:Value} {vs:List Value} {rest:List (Nat×Value)} (hp:place i=some (off,sz)) (hv:v.cells=vs.toArray) (hs:vs.length=sz) (hf:off + vs.length ≤ cells.size) :
  Instr.fill place cells ((i,v) :: rest)=Instr.fill place (splc cells.toList off vs).toArray rest:=by
 simp only [Instr.fill,hp,hv,List.size_toArray]
 have h1:(decide (vs.length ≠ sz) || decide (off + vs.length > cells.size))=false:=by simp [hs]; omega
 simp only [h1,Bool.false_eq_true,if_false]
 congr 1
 apply Array.ext'
 have:=foldl_set off vs 0 cells (by omega)
 simp only [Nat.add_zero] at this
 rw [← this,← Array.foldl_toList,Array.toList_zipIdx]
section
variable {ρ:Type}
def partsE (σ:LS):List (Nat×Operand)→Option (List (Nat×Bool×List CV)×List (Tmp×AV))
 | []=>some ([],[])
 | (i,x) :: l=>match opd σ x,partsE σ l with
  | some (.sv g cs,tl),some (ps,tl')=>some ((i,g,cs) :: ps,tl ++ tl')
  | _,_=>none
theorem partsE_temps {σ:LS}:∀ {l:List (Nat×Operand)} {ps:List (Nat×Bool×List CV)} {tl:List (Tmp×AV)},partsE σ l=some (ps,tl)→∀ p ∈ tl,σ.get p.1=some p.2
 | [],_,_,h=>by cases h; simp
 | (i,x) :: l,ps,tl,h=>by
  simp only [partsE] at h
  split at h
  ·rename_i h1 h2
   cases h
   intro p hp
   rcases List.mem_append.1 hp with hp | hp
   ·exact opd_temps h1 p hp
   ·exact partsE_temps h2 p hp
  ·cases h
theorem partsE_eval {σ:LS} {fr:Fr} {σ':FS} {φ:Nat→Option Value} {I:Nat→Prop} {a:Act} {w:World} (hR:R fr σ' φ I a w):∀ {l:List (Nat×Operand)} {ps:List (Nat×Bool×List CV)} {tl:List (Tmp×AV)},partsE σ l=some (ps,tl)→(∀ p ∈ tl,σ'.env p.1=some p.2) →
  all2 (fun (p:Nat×Bool×List CV) (q:Nat×Value)=>p.1=q.1∧RSV fr.J φ I w p.2.1 p.2.2 q.2) ps (l.map fun q=>(q.1,a.eval q.2))
 | [],_,_,h,_=>by cases h; exact trivial
 | (i,x) :: l,ps,tl,h,hv=>by
  simp only [partsE] at h
  split at h
  ·rename_i h1 h2
   cases h
   exact ⟨⟨rfl,opd_eval h1 hR fun p hp=>hv p (List.mem_append_left _ hp)⟩,partsE_eval hR h2 fun p hp=>hv p (List.mem_append_right _ hp)⟩
  ·cases h
def fillC (place:Nat→Option (Nat×Nat)) (cells:List CV):List (Nat×Bool×List CV)→Option (List CV)
 | []=>some cells
 | (i,_,cs) :: rest=>match place i with
  | some (off,sz)=>if cs.length=sz∧off + cs.length ≤ cells.length∧cs.all okCV=true then fillC place (splc cells off cs) rest else none
  | none=>none
theorem fillC_ok {J I:Nat→Prop} {φ:Nat→Option Value} {w:World} {place:Nat→Option (Nat×Nat)}:∀ {ps:List (Nat×Bool×List CV)} {qs:List (Nat×Value)} {cells cs':List CV} {vs:List Value},fillC place cells ps=some cs'→all2 (RV J φ I w) cells vs →
  all2 (fun (p:Nat×Bool×List CV) (q:Nat×Value)=>p.1=q.1∧RSV J φ I w p.2.1 p.2.2 q.2) ps qs→∃ vs',Instr.fill place vs.toArray qs=some vs'.toArray∧all2 (RV J φ I w) cs' vs'
 | [],[],cells,cs',vs,h,hc,_=>by cases h; exact ⟨vs,rfl,hc⟩
 | [],_ :: _,_,_,_,_,_,hq=>hq.elim
 | _ :: _,[],_,_,_,_,_,hq=>hq.elim
 | (i,g,cs) :: ps,(i',v) :: qs,cells,cs',vs,h,hc,⟨⟨e,hv⟩,hq⟩=>by
  simp only at e
  subst e
  simp only [fillC] at h
  split at h
  ·rename_i off sz hp
   have h0:=ite_some h rfl
   clear h
   obtain ⟨⟨h1,h2,h3⟩,h⟩:=h0
   obtain ⟨us,h4,h5,h6⟩:=cells_of_pack h3 hv
   obtain ⟨vs',h7,h8⟩:=fillC_ok h (hc.splc h5 off) hq
   refine ⟨vs',?_,h8⟩
   rw [fill_cons hp h4 (by rw [← h5.length]; exact h1) (by rw [← h5.length,List.size_toArray,← hc.length]; exact h2)]
   exact h7
  ·cases h
theorem places_of {P:Program}:∀ (fs:List Field) (fl:List (Nat×Nat×Bool)),fs.map (fun f=>(f.offset,(P.info? f.type).map (·.size),(P.underlying f.type).isSome,aggB P f.type))=fl.map (fun p=>(p.1,some p.2.1,true,p.2.2)) →
  fs.mapM (fun f=>(P.info? f.type).map fun i=>(f.offset,i.size))=some (fl.map fun p=>(p.1,p.2.1))
 | [],[],_=>rfl
 | [],_ :: _,h=>by simp at h
 | _ :: _,[],h=>by simp at h
 | f :: fs,p :: fl,h=>by
  simp only [List.map_cons,List.cons.injEq,Prod.mk.injEq] at h
  obtain ⟨⟨h1,h2,_⟩,h3⟩:=h
  obtain ⟨it,h4,h5⟩:=Option.map_eq_some_iff.1 h2
  rw [List.mapM_cons,places_of fs fl h3,h4]
  simp [h1,h5]
def opBuild (T:List (TypeId×TI)) (o:Oper) (σ:LS) (t:TypeId) (parts:List (Nat×Operand)) (kk:Rec→Option ρ):Option ρ :=
 match T.lookup t,partsE σ parts with
 | some ti,some (ps,tl)=>match ti.kind with
  | .struct fl=>match fillC (fun i=>(fl[i]?).map fun p=>(p.1,p.2.1)) (ti.zero.map .lit) ps with
   | some cs=>kk (valK o tl [] (.sv true cs))
   | none=>none
  | _=>none
 | _,_=>none
theorem opBuild_ok {P:Program} {T:List (TypeId×TI)} (hT:TOK P T) {o:Oper} {σ:LS} {t:TypeId} {parts:Array (Nat×Operand)} {base:Nat} {kk:Rec→Option ρ} {z:ρ} (ho:o.op=.build t parts) (h:opBuild T o σ t parts.toList kk=some z):∃ r,Good P o σ base r∧kk r=some z:=by
 unfold opBuild at h
 split at h
 case h_2=>cases h
 case h_1 ti ps tl hti hps =>
 split at h
 case h_2=>cases h
 case h_1 fl hkind =>
 split at h
 case h_2=>cases h
 case h_1 cs hcs =>
 obtain ⟨d,hd,hk⟩:=(hT t ti hti).under
 rw [hkind] at hk
 obtain ⟨fs,rfl,hfs⟩:=hk
 obtain ⟨it,zv,hi1,hi2,hi3,hi4,hi5⟩:=(hT t ti hti).info
 refine ⟨_,valK_ok (partsE_temps hps) (by simp) fun fr σ' φ I a w hR hv _=>?_,h⟩
 have h1:=partsE_eval hR hps hv
 obtain ⟨vs',h2,h3⟩:=fillC_ok hcs (all2_lit (J:=fr.J) (φ:=φ) (I:=I) (w:=w) ti.zero) h1
 refine ⟨.agg vs'.toArray,?_,vs',rfl,h3⟩
 have hz:zv.cells=ti.zero.toArray:=by apply Array.ext'; rw [hi5]
 have hb:P.built t (parts.map fun (i,x)=>(i,a.eval x)).toList=some vs'.toArray:=by
  unfold Program.built
  simp only [hi1,hd,hi4,places_of fs.toList fl hfs,hz,Array.toList_map]
  rw [← h2]
  congr 1
  funext i
  simp
 unfold execOp
 simp only [ho,Sem.run_bind,run_build w t _ vs'.toArray hb,Result.andThen_ok,Sem.run_pure]
def elemsE (σ:LS) (k:Ty) (xs:List (D k)):List (Nat×Bool×List CV)→Option (List (D k)×List (Nat×Option HV))
 | []=>some (xs,[])
 | (i,_,cs) :: rest=>if i < xs.length∧cs.all okCV=true then (match quoteAll false σ k cs with
  | some (y,hp)=>match elemsE σ k (xs.set i y) rest with
   | some (zs,hp')=>some (zs,hp ++ hp')
   | none=>none
  | none=>none) else none
theorem elemsE_hp {σ:LS} {k:Ty}:∀ {ps:List (Nat×Bool×List CV)} {xs zs:List (D k)} {hp:List (Nat×Option HV)},elemsE σ k xs ps=some (zs,hp)→∀ p ∈ hp,σ.at p.1=p.2
 | [],_,_,_,h=>by cases h; simp
 | (i,g,cs) :: ps,xs,zs,hp,h=>by
  simp only [elemsE] at h
  obtain ⟨_,h⟩:=ite_some h rfl
  split at h
  ·rename_i h1
   split at h
   ·rename_i h2
    cases h
    intro p hp
    rcases List.mem_append.1 hp with hp | hp
    ·exact quoteAll_hp h1 p hp
    ·exact elemsE_hp h2 p hp
   ·cases h
  ·cases h
theorem elemsE_ok {σ:LS} {k:Ty} {fr:Fr} {σ':FS} {φ:Nat→Option Value} {I:Nat→Prop} {a:Act} {w:World} (hR:R fr σ' φ I a w):∀ {ps:List (Nat×Bool×List CV)} {qs:List (Nat×Value)} {xs zs:List (D k)} {hp:List (Nat×Option HV)} {vs:List Value},elemsE σ k xs ps=some (zs,hp)→(∀ p ∈ hp,σ'.heap p.1=p.2) →
  lst (RdC I w k) xs vs→all2 (fun (p:Nat×Bool×List CV) (q:Nat×Value)=>p.1=q.1∧RSV fr.J φ I w p.2.1 p.2.2 q.2) ps qs→∃ vs',Instr.fill (fun i=>some (i * size k,size k)) vs.toArray qs=some vs'.toArray∧lst (RdC I w k) zs vs'∧zs.length=xs.length
 | [],[],xs,zs,hp,vs,h,_,hl,_=>by cases h; exact ⟨vs,rfl,hl,rfl⟩
 | [],_ :: _,_,_,_,_,_,_,_,hq=>hq.elim
 | _ :: _,[],_,_,_,_,_,_,_,hq=>hq.elim
 | (i,g,cs) :: ps,(i',v) :: qs,xs,zs,hp,vs,h,hv,hl,⟨⟨e,hrv⟩,hq⟩=>by
  simp only at e
  subst e
  simp only [elemsE] at h
  have h0:=ite_some h rfl
  clear h
  obtain ⟨⟨hi,hok⟩,h⟩:=h0
  split at h
  case h_2=>cases h
  case h_1 y hp1 h1 =>
  split at h
  case h_2=>cases h
  case h_1 zs' hp2 h2 =>
  cases h
  obtain ⟨us,h4,h5,h6⟩:=cells_of_pack hok hrv
  have h7:=quoteAll_ok h1 hR (fun p hp=>hv p (List.mem_append_left _ hp)) ⟨fun _ h=>h,fun h=>by cases h⟩ h5
  have hul:us.length=size k:=h7.length
  have hset:=lst.set (n:=size k) (R:=RdC I w k) (fun _ _ h=>h.length) h7 hl i hi
  have hvl:vs.length=xs.length * size k:=lst.length (fun _ _ h=>h.length) hl
  have hin:i * size k + size k ≤ xs.length * size k:=by
   have:(i + 1) * size k ≤ xs.length * size k:=Nat.mul_le_mul_right _ hi
   rwa [Nat.add_mul,Nat.one_mul] at this
  have hspl:vs.take (i * size k) ++ us ++ vs.drop (i * size k + size k)=splc vs (i * size k) us:=by unfold splc; rw [hul]
  rw [hspl] at hset
  obtain ⟨vs',h8,h9,h10⟩:=elemsE_ok hR h2 (fun p hp=>hv p (List.mem_append_right _ hp)) hset hq
  refine ⟨vs',?_,h9,by rw [h10,List.length_set]⟩
  rw [fill_cons rfl h4 hul (by rw [hul,List.size_toArray,hvl]; exact hin)]
  exact h8
def opBuildSlice (T:List (TypeId×TI)) (o:Oper) (base:Nat) (t:TypeId) (len:Nat) (parts:List (Nat×Operand)) (σ:LS) (kk:Rec→Option ρ):Option ρ :=
 match T.lookup t,partsE σ parts with
 | some ti,some (ps,tl)=>match ti.kind with
  | .slice e=>match T.lookup e with
   | some ei=>match ei.ty with
    | some k=>if len * ei.sz ≤ 16777216 then (match elemsE σ k (List.replicate len (dflt k)) ps with
     | some (xs,hp)=>kk (rowRec o tl hp none base e k xs)
     | none=>none) else none
    | none=>none
   | none=>none
  | _=>none
 | _,_=>none
theorem opBuildSlice_ok {P:Program} {T:List (TypeId×TI)} (hT:TOK P T) {o:Oper} {t:TypeId} {len:Nat} {parts:Array (Nat×Operand)} {base:Nat} (ho:o.op=.buildSlice t len parts) (σ:LS) (kk:Rec→Option ρ) (z:ρ) (h:opBuildSlice T o base t len parts.toList σ kk=some z):∃ r,Good P o σ base r∧kk r=some z:=by
 unfold opBuildSlice at h
 split at h
 case h_2=>cases h
 case h_1 ti ps tl hti hps =>
 split at h
 case h_2=>cases h
 case h_1 e hkind =>
 split at h
 case h_2=>cases h
 case h_1 ei hei =>
 split at h
 case h_2=>cases h
 case h_1 k hk =>
 have h0:=ite_some h rfl
 clear h
 obtain ⟨hfit,h⟩:=h0
 split at h
 case h_2=>cases h
 case h_1 xs hp hxs =>
 obtain ⟨dd,hd,hkd⟩:=(hT t ti hti).under
 rw [hkind] at hkd
 simp only [TK.ok] at hkd
 subst hkd
 obtain ⟨it,zv,hi1,hi2,hi3,hi4,hi5⟩:=(hT e ei hei).info
 obtain ⟨hs1,hs2,hs3⟩:=(hT e ei hei).ty k hk
 have hsz:it.size=size k:=by rw [hi2,hs1]
 refine ⟨_,⟨rfl,partsE_temps hps,elemsE_hp hxs,by simp [rowRec],rowRec_ok fun fr σ' φ I a w hR hv=>?_⟩,h⟩
 have h1:=partsE_eval hR hps hv.1
 obtain ⟨vs',h2,h3,h4⟩:=elemsE_ok hR hxs hv.2.1 (lst_replicate k len) h1
 rw [List.length_replicate] at h4
 have hvl:vs'.length=len * size k:=by rw [← h4]; exact lst.length (fun _ _ h=>h.length) h3
 have hzl:(zeros k).length=size k:=(zeros_rd (I:=fun _=>False) (w:=w) k).length
 have hz2:zv.cells=(zeros k).toArray:=by apply Array.ext'; rw [hi5,← hs2]
 have hmade:(Array.range (len * size k)).map (fun i=>(zeros k).toArray[i % (zeros k).toArray.size]!)=((List.replicate len (zeros k)).flatten).toArray:=by
  apply Array.ext'
  have:=made_eq (zeros k) (by rw [hzl]; exact hs3) len
  rw [hzl] at this
  rw [← this]
  rfl
 refine ⟨.slice (some ⟨w.heap.size,0,none⟩) len len,w.alloc (.cells vs'.toArray e),?_,⟨vs',?_,h3⟩,OnlyP.alloc _ _,fun b hb=>?_⟩
 ·have hnot:¬ (len * size k > 2 ^ 24):=by
   rw [hs1]
   have:(2:Nat) ^ 24=16777216:=by decide
   omega
  unfold execOp
  simp only [ho,Instr.buildSlice,Sem.run_bind,run_underlying hd,Result.andThen_ok,run_sizeOf hi1,hsz,hnot,if_false]
  by_cases hl0:len * size k=0
  ·have hl:len=0:=by
    rcases Nat.mul_eq_zero.1 hl0 with h | h
    ·exact h
    ·omega
   subst hl
   simp only [Nat.zero_mul,if_true,Sem.run_bind,Sem.run_pure,Result.andThen_ok]
   have e0:(Array.range 0).map (fun x=>(#[]:Array Value)[x % (#[]:Array Value).size]!)=#[]:=by simp
   rw [e0]
   simp only [List.replicate_zero,List.flatten_nil] at h2
   rw [Array.toList_map,h2]
   simp only [newRow,Sem.run_bind,run_newObj,Result.andThen_ok,Sem.run_pure]
   rfl
  ·simp only [hl0,if_false,zeroValue,typeInfo,Sem.run_bind,run_program,Result.andThen_ok,hi1,hi4,Sem.run_pure,hz2,hmade]
   rw [Array.toList_map,h2]
   simp only [newRow,Sem.run_bind,run_newObj,Result.andThen_ok,Sem.run_pure]
   rfl
 ·rw [h4]
  have:=World.ownsRow_lit w vs'.toArray (size:=size k) (base:=0) (e:=e) len (Nat.zero_le _) (by
   unfold maxLen
   have:len * 1 ≤ len * ei.sz:=Nat.mul_le_mul_left _ (by rw [← hs1]; exact hs3)
   omega) (by simpa using hvl)
  simpa using this
 ·simp [blk] at hb
  omega
end
end Go.Ev
