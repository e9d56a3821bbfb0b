/- A checked evaluator, part T: rows in rows: made, lengthened, frozen. -/
import Derived.Test.YtjdlancjbdmkhaaQEvS
namespace Go.Ev
open Go.RowKit
set_option linter.unusedVariables false
section
variable {ρ:Type}
def nestTy:Ty→Option (Ty×TypeId×Ty)
 | .seq e k=>some (.unit,e,k)
 | .pair k0 (.seq e k)=>some (k0,e,k)
 | _=>none
theorem nestTy_size {k k0 k1:Ty} {e1:TypeId} (h:nestTy k=some (k0,e1,k1)):size k=size k0 + 1:=by
 unfold nestTy at h
 split at h
 ·cases h; rfl
 ·cases h; rfl
 ·cases h
def opBuildSliceN (T:List (TypeId×TI)) (o:Oper) (base:Nat) (t:TypeId) (len:Nat) (parts:List (Nat×Operand)) (σ:LS) (kk:Rec→Option ρ):Option ρ :=
 match T.lookup t,partsE σ parts with
 | some ti,some ([(0,_,cs)],tl)=>match ti.kind with
  | .slice e=>match T.lookup e with
   | some ei=>match ei.ty with
    | some k=>match nestTy k with
     | some (k0,e1,k1)=>if len=1∧cs.length=size k0 + 1∧cs.all okCV=true∧ei.sz ≤ 16777216 then (match cs.getLast? with
      | some c=>cnd (isNil c) (match quoteAll false σ k0 (cs.take (size k0)) with
       | some (x0,hp)=>kk ⟨o.dst,some (.sv false [.own base]),tl,hp,[(base,some (.nest e k0 e1 k1 [(x0,[])] (base + 1))),(base + 1,some (.lock base 0 none))],[base,base + 1]⟩
       | none=>none) none
      | none=>none) else none
     | none=>none
    | none=>none
   | none=>none
  | _=>none
 | _,_=>none
theorem opBuildSliceN_ok {P:Program} {T:List (TypeId×TI)} (hT:TOK P T) {o:Oper} {t:TypeId} {len:Nat} {parts:Array (Nat×Operand)} {base:Nat} (ho:o.op=.buildSlice t len parts) (σ:LS) (kk:Rec→Option ρ) (z:ρ) (h:opBuildSliceN T o base t len parts.toList σ kk=some z):∃ r,Good P o σ base r∧kk r=some z:=by
 unfold opBuildSliceN at h
 split at h
 case h_2=>cases h
 case h_1 ti g cs tl hti hps =>
 split at h
 case h_2=>cases h
 case h_1 e hkind =>
 split at h
 case h_2=>cases h
 case h_1 ei hei =>
 split at h
 case h_2=>cases h
 case h_1 k hk =>
 split at h
 case h_2=>cases h
 case h_1 k0 e1 k1 hnt =>
 have h0:=ite_some h rfl
 clear h
 obtain ⟨⟨rfl,hcl,hok,hfit⟩,h⟩:=h0
 split at h
 case h_2=>cases h
 case h_1 c hlast =>
 cases hnil:isNil c with
 | false=>rw [hnil] at h; cases h
 | true =>
 rw [hnil] at h
 simp only [cnd] at h
 split at h
 case h_2=>cases h
 case h_1 x0 hp hq =>
 obtain ⟨dd,hd,hkd⟩:=(hT t ti hti).under
 rw [hkind] at hkd
 simp only [TK.ok] at hkd
 subst hkd
 obtain ⟨it,zv,hi1,hi2,hi3,hi4,hi5⟩:=(hT e ei hei).info
 obtain ⟨hs1,hs2,hs3⟩:=(hT e ei hei).ty k hk
 have hsz:it.size=size k:=by rw [hi2,hs1]
 have hk1:=nestTy_size hnt
 refine ⟨_,⟨rfl,partsE_temps hps,quoteAll_hp hq,?_,?_⟩,h⟩
 ·intro id hid
  simp only [List.mem_cons,List.not_mem_nil,or_false] at hid
  rcases hid with rfl | rfl <;> omega
 intro fr σ' φ I a w K Q hR hv hdn hK
 have h1:=partsE_eval hR hps hv.1
 match hparts:parts.toList,h1 with
 | [],h1=>exact h1.elim
 | _ :: _ :: _,h1=>exact h1.2.elim
 | [(i0,x)],⟨⟨hi0,hrv⟩,_⟩ =>
 simp only at hi0
 subst hi0
 obtain ⟨us,q3,q4,q5⟩:=cells_of_pack hok hrv
 simp only at q3
 have hul:us.length=size k0 + 1:=by rw [← q4.length,hcl]
 have hzl:(zeros k).length=size k:=(zeros_rd (I:=fun _=>False) (w:=w) k).length
 have hz2:zv.cells=(zeros k).toArray:=by apply Array.ext'; rw [hi5,← hs2]
 have hmade:(Array.range (1 * size k)).map (fun i=>(zeros k).toArray[i % (zeros k).toArray.size]!)=((List.replicate 1 (zeros k)).flatten).toArray:=by
  apply Array.ext'
  have:=made_eq (zeros k) (by rw [hzl]; exact hs3) 1
  rw [hzl] at this
  rw [← this]
  rfl
 have hfill:Instr.fill (fun i=>some (i * size k,size k)) ((List.replicate 1 (zeros k)).flatten).toArray [(0,a.eval x)]=some us.toArray:=by
  rw [fill_cons (off:=0) (sz:=size k) (vs:=us) (by simp) q3 (by omega) (by simp; omega)]
  simp only [Instr.fill]
  congr 2
  unfold splc
  simp
  omega
 have hrun:(execOp a.eval o).run P w=.ok (.value (.slice (some ⟨w.heap.size,0,none⟩) 1 1)) (w.alloc (.cells us.toArray e)):=by
  have hnot:¬ (1 * size k > 2 ^ 24):=by
   rw [hs1]
   have:(2:Nat) ^ 24=16777216:=by decide
   omega
  unfold execOp
  simp only [ho,Instr.buildSlice,Sem.run_bind,run_underlying hd,Result.andThen_ok,run_sizeOf hi1,hsz,hnot,if_false]
  have hl0:¬ 1 * size k=0:=by omega
  simp only [hl0,if_false,zeroValue,typeInfo,Sem.run_bind,run_program,Result.andThen_ok,hi1,hi4,Sem.run_pure,hz2,hmade]
  rw [Array.toList_map,hparts]
  simp only [List.map_cons,List.map_nil]
  rw [hfill]
  simp only [newRow,Sem.run_bind,run_newObj,Result.andThen_ok,Sem.run_pure]
  rfl
 have hhead:=quoteAll_ok hq hR hv.2.1 ⟨fun _ h=>h,fun h=>by cases h⟩ (q4.take (size k0))
 have hend:us[size k0]?=some (.slice none 0 0):=by
  have h3:cs[size k0]?=some c:=by
   rw [List.getLast?_eq_getElem?,hcl] at hlast
   simpa using hlast
  obtain ⟨u,h4,h5⟩:=q4.get h3
  rw [h4]
  rw [isNil_ok hnil] at h5
  exact congrArg some h5
 have hrow:(w.alloc (.cells us.toArray e)).ownsRow 0 e (size k0 + 1) (.slice (some ⟨w.heap.size,0,none⟩) 1 1) 1 us:=by
  have:=World.ownsRow_lit w us.toArray (size:=size k0 + 1) (base:=0) (e:=e) 1 (Nat.zero_le _) (by unfold maxLen; omega) (by simp [hul])
  simpa using this
 have hf:σ'.fresh base:=hv.2.2 base (by simp)
 have hf2:σ'.fresh (base + 1):=hv.2.2 (base + 1) (by simp)
 have hIw:∀ b,I b→(w.alloc (.cells us.toArray e)).heap[b]?=w.heap[b]?:=fun b hb=>(OnlyP.alloc w _).block b (hR.lt b (.inl hb)) id
 have hφb:ext (ext φ base (.slice (some ⟨w.heap.size,0,none⟩) 1 1)) (base + 1) undef base=some (.slice (some ⟨w.heap.size,0,none⟩) 1 1):=by
  unfold ext; rw [if_neg (by omega),if_pos rfl]
 unfold Oper.wp
 rw [hrun,Oper.upon_value]
 refine hK _ I _ _ (hR.nestMk _ (id:=base) (lk:=base + 1) (olds:=[]) (u:=.slice (some ⟨w.heap.size,0,none⟩) 1 1) (e:=e) (k0:=k0) (e1:=e1) (k1:=k1) (xs:=[(x0,[])]) hdn rfl rfl hf hf2 (by omega) (fun _ h=>by cases h) ((OnlyP.alloc w _).mono fun _ h=>h.elim) (fun b hb=>.inr ?_) ⟨us,hrow⟩ ?_ ?_ ?_)
 ·simp [blk] at hb; omega
 ·intro av ea
  simp only [Option.some.injEq] at ea
  subst ea
  exact ⟨hφb,rfl⟩
 ·intro i hi
  simp only [List.length_cons,List.length_nil] at hi
  have:i=0:=by omega
  subst this
  refine ⟨us.take (size k0),hhead.mono (fun _ h=>h) hIw,fun o' u' hu'=>?_⟩
  rw [List.getElem?_take] at hu'
  split at hu'
  ·rename_i hlt
   rw [rowcell hφb hrow (by omega),Nat.zero_mul,Nat.zero_add]; exact hu'
  ·cases hu'
 ·intro E _
  constructor
  ·intro i hi _
   simp only [List.length_cons,List.length_nil] at hi
   have:i=0:=by omega
   subst this
   refine ⟨.slice none 0 0,[],?_,World.ownsRow_nil _ _ _ _,rfl,fun b hb=>by cases hb⟩
   rw [rowcell hφb hrow (by omega),Nat.zero_mul,Nat.zero_add]; exact hend
  ·intro i j u u' b hi hj _ _ hne
   simp only [List.length_cons,List.length_nil] at hi hj
   omega
def nestAs (σ:LS) (id:Nat) (e:TypeId) (k0:Ty) (e1:TypeId) (k1:Ty):Option (List (D k0×List (D k1))×Nat):=match σ.at id with
 | some (.nest e' k0' e1' k1' xs lk)=>if h:e'=e∧k0'=k0∧e1'=e1∧k1'=k1 then some (h.2.1 ▸ h.2.2.2 ▸ xs,lk) else none
 | _=>none
theorem nestAs_eq {σ:LS} {id:Nat} {e:TypeId} {k0:Ty} {e1:TypeId} {k1:Ty} {xs:List (D k0×List (D k1))} {lk:Nat} (h:nestAs σ id e k0 e1 k1=some (xs,lk)):σ.at id=some (.nest e k0 e1 k1 xs lk):=by
 unfold nestAs at h
 split at h
 ·rename_i e' k0' e1' k1' xs' lk' hh
  split at h
  ·rename_i hq
   obtain ⟨rfl,rfl,rfl,rfl⟩:=hq
   cases h; exact hh
  ·cases h
 ·cases h
def opAppendN (T:List (TypeId×TI)) (o:Oper) (σ:LS) (base:Nat) (t:TypeId) (x y:Operand) (kk:Rec→Option ρ):Option ρ :=
 match T.lookup t,opd2 σ x y with
 | some ti,some (.sv false [.own id],.sv false [.own id2],tl)=>match ti.kind with
  | .slice e'=>match T.lookup e',nestAt σ id with
   | some ei,some ⟨e,k0,e1,k1,xs,lk⟩=>match nestAs σ id2 e k0 e1 k1 with
    | some (ys,lk2)=>match lockAt σ lk id,lockAt σ lk2 id2 with
     | some ver,some ver2=>if e'=e∧ei.sz=size k0 + 1∧id ≠ id2∧ei.zero.length=ei.sz then (if (xs.length + ys.length) * ei.bytes ≤ 140737488355328∧0 < ei.bytes then
       kk ⟨o.dst,some (.sv false [.own base]),tl,[(id,some (.nest e k0 e1 k1 xs lk)),(lk,some (.lock id ver none)),(id2,some (.nest e k0 e1 k1 ys lk2)),(lk2,some (.lock id2 ver2 none))],
        [(id,none),(id2,none),(base,some (.nest e k0 e1 k1 (xs ++ ys) (base + 1))),(base + 1,some (.lock base 0 none))],[base,base + 1]⟩ else none) else none
     | _,_=>none
    | none=>none
   | _,_=>none
  | _=>none
 | _,_=>none
theorem opAppendN_ok {P:Program} {T:List (TypeId×TI)} (hT:TOK P T) {o:Oper} {σ:LS} {t:TypeId} {x y:Operand} {base:Nat} {kk:Rec→Option ρ} {z:ρ} (ho:o.op=.call { callee:=.builtin .append,args:=#[x,y],argTypes:=#[t,t] }) (h:opAppendN T o σ base t x y kk=some z):∃ r,Good P o σ base r∧kk r=some z:=by
 unfold opAppendN at h
 split at h
 case h_2=>cases h
 case h_1 ti id id2 tl hti hx =>
 split at h
 case h_2=>cases h
 case h_1 e' hkind =>
 split at h
 case h_2=>cases h
 case h_1 ei e k0 e1 k1 xs lk hei hat =>
 split at h
 case h_2=>cases h
 case h_1 ys lk2 hat2 =>
 split at h
 case h_2=>cases h
 case h_1 ver ver2 hlk hlk2 =>
 have h0:=ite_some h rfl
 clear h
 obtain ⟨⟨rfl,hesz,hne,hzl⟩,h⟩:=h0
 have h0:=ite_some h rfl
 clear h
 obtain ⟨⟨hfit,hpos⟩,h⟩:=h0
 have hat:=nestAt_eq hat
 have hat2:=nestAs_eq hat2
 have hlk:=lockAt_eq hlk
 have hlk2:=lockAt_eq hlk2
 obtain ⟨dd,hd,hkd⟩:=(hT t ti hti).under
 rw [hkind] at hkd
 simp only [TK.ok] at hkd
 subst hkd
 obtain ⟨it,zv,hi1,hi2,hi3,hi4,hi5⟩:=(hT e' ei hei).info
 have hsz:it.size=size k0 + 1:=by rw [hi2,hesz]
 have hzz:zv.cells.size=size k0 + 1:=by rw [← Array.length_toList,hi5,hzl,hesz]
 refine ⟨_,⟨rfl,opd2_temps hx,?_,?_,?_⟩,h⟩
 ·intro p hp0
  simp only [List.mem_cons,List.not_mem_nil,or_false] at hp0
  rcases hp0 with rfl | rfl | rfl | rfl
  ·exact hat
  ·exact hlk
  ·exact hat2
  ·exact hlk2
 ·intro i hi
  simp only [List.mem_cons,List.not_mem_nil,or_false] at hi
  rcases hi with rfl | rfl <;> omega
 intro fr σ' φ I a w K Q hR hv hdn hK
 obtain ⟨⟨h1,_⟩,⟨h2,_⟩⟩:=opd2_eval hx hR hv.1
 have hh:σ'.heap id=some (.nest e' k0 e1 k1 xs lk):=hv.2.1 _ List.mem_cons_self
 have hhl:σ'.heap lk=some (.lock id ver none):=hv.2.1 _ (List.mem_cons_of_mem _ List.mem_cons_self)
 have hh2:σ'.heap id2=some (.nest e' k0 e1 k1 ys lk2):=hv.2.1 _ (List.mem_cons_of_mem _ (List.mem_cons_of_mem _ List.mem_cons_self))
 have hhl2:σ'.heap lk2=some (.lock id2 ver2 none):=hv.2.1 _ (List.mem_cons_of_mem _ (List.mem_cons_of_mem _ (List.mem_cons_of_mem _ List.mem_cons_self)))
 have hf:σ'.fresh base:=hv.2.2 base (by simp)
 have hf2:σ'.fresh (base + 1):=hv.2.2 (base + 1) (by simp)
 obtain ⟨vs,hrow⟩:=nest_slice hR hh h1
 obtain ⟨us,hrow2⟩:=nest_slice hR hh2 h2
 have hb:(xs.length + ys.length) ≤ 140737488355328:=Nat.le_trans (Nat.le_mul_of_pos_right _ hpos) hfit
 have fin:∀ (v':Value) (w':World),(Builtin.append_ #[t,t] o.type #[a.eval x,a.eval y]).run P w=.ok v' w'→w'.ownsRow 0 e' (size k0 + 1) v' (xs.length + ys.length) (vs ++ us)→w.grownBy w' (a.eval x).ownBlock→(v'.ownBlock=(a.eval x).ownBlock ∨ v'.ownBlock=some w.heap.size)→Oper.wp P o a w K Q:=by
  intro v' w' hr hown hgr hat'
  have hbv:=blk_own v' w' hown
  have hbx:=blk_own (a.eval x) w hrow
  have honly:OnlyP (fun b=>blk (a.eval x)=some b) w w':=by rw [hbx]; exact OnlyP.of_grown hgr
  have hφb:ext (ext φ base v') (base + 1) undef base=some v':=by
   unfold ext; rw [if_neg (by omega),if_pos rfl]
  have hIw:∀ b,I b→w'.heap[b]?=w.heap[b]?:=fun b hb=>honly.block b (hR.lt b (.inl hb)) fun hg=>(hR.own id _ _ b hh rfl h1 hg).1 hb
  have hcell:∀ c,c < (xs.length + ys.length) * (size k0 + 1)→cellN (ext (ext φ base v') (base + 1) undef) w' base c=(vs ++ us)[c]?:=fun c hc=>rowcell hφb hown hc
  have hvl:vs.length=xs.length * (size k0 + 1):=hrow.1
  have hcx:∀ i o',i < xs.length→o' < size k0 + 1→cellN (ext (ext φ base v') (base + 1) undef) w' base (i * (size k0 + 1) + o')=cellN φ w id (i * (size k0 + 1) + o'):=by
   intro i o' hi ho'
   have:i * (size k0 + 1) + (size k0 + 1) ≤ xs.length * (size k0 + 1):=by rw [← Nat.succ_mul]; exact Nat.mul_le_mul_right _ hi
   rw [hcell _ (by rw [Nat.add_mul]; omega),rowcell h1 hrow (by omega),List.getElem?_append_left (by omega)]
  have hcy:∀ i o',i < ys.length→o' < size k0 + 1→cellN (ext (ext φ base v') (base + 1) undef) w' base ((xs.length + i) * (size k0 + 1) + o')=cellN φ w id2 (i * (size k0 + 1) + o'):=by
   intro i o' hi ho'
   have:i * (size k0 + 1) + (size k0 + 1) ≤ ys.length * (size k0 + 1):=by rw [← Nat.succ_mul]; exact Nat.mul_le_mul_right _ hi
   rw [hcell _ (by rw [Nat.add_mul,Nat.add_mul]; omega),rowcell h2 hrow2 (by omega),List.getElem?_append_right (by rw [hvl,Nat.add_mul]; omega)]
   congr 1
   rw [hvl,Nat.add_mul]; omega
  have hin:∀ i,i < (xs ++ ys).length→(∃ h:i < xs.length,True) ∨ ∃ j,j < ys.length∧i=xs.length + j:=by
   intro i hi
   rw [List.length_append] at hi
   by_cases c:i < xs.length
   ·exact .inl ⟨c,trivial⟩
   ·exact .inr ⟨i - xs.length,by omega,by omega⟩
  unfold Oper.wp
  have hrun:(execOp a.eval o).run P w=.ok (.value v') w':=by
   unfold execOp
   simp only [ho,resolve,invoke,builtin,Sem.run_bind,Sem.run_pure,Result.andThen_ok,List.map_toArray,List.map_cons,List.map_nil,hr]
  rw [hrun,Oper.upon_value]
  refine hK _ I _ _ (hR.nestMk _ (id:=base) (lk:=base + 1) (olds:=[id,id2]) (u:=v') (e:=e') (k0:=k0) (e1:=e1) (k1:=k1) (xs:=xs ++ ys) hdn rfl rfl hf hf2 (by omega) ?_ (honly.mono fun b hb=>.inl ⟨id,by simp,_,h1,hb⟩) ?_ ⟨vs ++ us,by rw [List.length_append]; exact hown⟩ ?_ ?_ ?_)
  ·intro o' ho'
   simp only [List.mem_cons,List.not_mem_nil,or_false] at ho'
   rcases ho' with rfl | rfl
   ·exact ⟨_,_,hh,rfl,h1⟩
   ·exact ⟨_,_,hh2,rfl,h2⟩
  ·intro b hb
   rw [hbv] at hb
   rcases hat' with h | h
   ·left; exact ⟨id,by simp,_,h1,by rw [hbx,← h]; exact hb⟩
   ·right; rw [h] at hb; cases hb; exact Nat.le_refl _
  ·intro av ea
   simp only [Option.some.injEq] at ea
   subst ea
   exact ⟨hφb,ownsRow_one hown⟩
  ·obtain ⟨E,hE⟩:=hR.deep
   intro i hi
   rcases hin i hi with ⟨c,_⟩ | ⟨j,hj,rfl⟩
   ·obtain ⟨vs0,p1,p2⟩:=hE.head id _ _ _ _ _ _ hh i c
    rw [List.getElem_append_left c]
    refine ⟨vs0,p1.mono (fun _ h=>h) hIw,fun o' u' hu'=>?_⟩
    have hlo:o' < size k0:=by
     have:=(List.getElem?_eq_some_iff.1 hu').1
     rwa [p1.length] at this
    rw [hcx i o' c (by omega)]; exact p2 o' u' hu'
   ·obtain ⟨vs0,p1,p2⟩:=hE.head id2 _ _ _ _ _ _ hh2 j hj
    rw [List.getElem_append_right (by omega)]
    simp only [Nat.add_sub_cancel_left]
    refine ⟨vs0,p1.mono (fun _ h=>h) hIw,fun o' u' hu'=>?_⟩
    have hlo:o' < size k0:=by
     have:=(List.getElem?_eq_some_iff.1 hu').1
     rwa [p1.length] at this
    rw [hcy j o' hj (by omega)]; exact p2 o' u' hu'
  ·intro E hE
   have noX:∀ j,¬ holeX none j:=by rintro j ⟨_,_,h,_⟩; cases h
   have hN:=hE.nest id _ _ _ _ _ _ _ _ hh hhl
   have hN2:=hE.nest id2 _ _ _ _ _ _ _ _ hh2 hhl2
   have hEw:∀ i' b,E i' b→w'.heap[b]?=w.heap[b]?:=fun i' b hb=>honly.block b (hE.priv i' b hb).2.2.2 fun hg=>hE.sep1 i' b hb id _ _ hh rfl h1 hg
   constructor
   ·intro i hi _
    rcases hin i hi with ⟨c,_⟩ | ⟨j,hj,rfl⟩
    ·obtain ⟨uj,usj,p1,p2,p3,p4⟩:=hN.elem i c (noX _)
     rw [List.getElem_append_left c]
     exact ⟨uj,usj,by rw [hcx i _ c (by omega)]; exact p1,ownsRow_frame p2 fun b hb=>hEw id b (p4 b hb),p3.mono fun _ _ h=>h.mono (fun _ h=>h) hIw,fun b hb=>⟨id,by simp,p4 b hb⟩⟩
    ·obtain ⟨uj,usj,p1,p2,p3,p4⟩:=hN2.elem j hj (noX _)
     rw [List.getElem_append_right (by omega)]
     simp only [Nat.add_sub_cancel_left]
     exact ⟨uj,usj,by rw [hcy j _ hj (by omega)]; exact p1,ownsRow_frame p2 fun b hb=>hEw id2 b (p4 b hb),p3.mono fun _ _ h=>h.mono (fun _ h=>h) hIw,fun b hb=>⟨id2,by simp,p4 b hb⟩⟩
   ·intro i j u u' b hi hj _ _ hij p1 p2 hb hb'
    rcases hin i hi with ⟨c,_⟩ | ⟨i',hi',rfl⟩ <;> rcases hin j hj with ⟨c',_⟩ | ⟨j',hj',rfl⟩
    ·rw [hcx i _ c (by omega)] at p1
     rw [hcx j _ c' (by omega)] at p2
     exact hN.dist i j u u' b c c' (noX _) (noX _) hij p1 p2 hb hb'
    ·rw [hcx i _ c (by omega)] at p1
     rw [hcy j' _ hj' (by omega)] at p2
     obtain ⟨t1,t2,t3,t4,t5,t6⟩:=hN.elem i c (noX _)
     obtain ⟨s1,s2,s3,s4,s5,s6⟩:=hN2.elem j' hj' (noX _)
     rw [p1] at t3; cases t3
     rw [p2] at s3; cases s3
     exact hE.sep2 id id2 b hne (t6 b hb) (s6 b hb')
    ·rw [hcy i' _ hi' (by omega)] at p1
     rw [hcx j _ c' (by omega)] at p2
     obtain ⟨t1,t2,t3,t4,t5,t6⟩:=hN2.elem i' hi' (noX _)
     obtain ⟨s1,s2,s3,s4,s5,s6⟩:=hN.elem j c' (noX _)
     rw [p1] at t3; cases t3
     rw [p2] at s3; cases s3
     exact hE.sep2 id id2 b hne (s6 b hb') (t6 b hb)
    ·rw [hcy i' _ hi' (by omega)] at p1
     rw [hcy j' _ hj' (by omega)] at p2
     exact hN2.dist i' j' u u' b hi' hj' (noX _) (noX _) (by omega) p1 p2 hb hb'
 rcases hrow2.2 with ⟨e0,h0⟩ | ⟨g2,cap2,cur2,e0,_,hg2,hn2,_,hcs2,htk2⟩
 ·have:ys=[]:=List.eq_nil_of_length_eq_zero h0
  subst this
  have hus:us=[]:=by
   have:=hrow2.1
   simpa using this
  subst hus
  refine fin (a.eval x) w ?_ (by simpa using hrow) ⟨rfl,rfl,rfl,Nat.le_refl _,fun _ _ _=>rfl⟩ (.inl rfl)
  rw [e0]
  exact run_append_nothing hd hi1 hrow none 0
 ·have hcells:∀ j u,us[j]?=some u→w.cell? ((⟨g2,0,none⟩:Addr).add j)=some u:=by
   intro j u hu
   have:(⟨g2,0,none⟩:Addr).add j=⟨g2,0 + j,none⟩:=by unfold Addr.add; split <;> simp_all
   rw [this,Nat.zero_add,cell_of_row w g2 j cur2 e' (0,0) hg2]
   rw [← htk2,List.getElem?_take] at hu
   split at hu
   ·simpa using hu
   ·cases hu
  have hone:∀ u ∈ us,u.oneCell'=true:=by
   obtain ⟨E,hE⟩:=hR.deep
   intro u hu
   obtain ⟨c,hc,rfl⟩:=List.getElem_of_mem hu
   have hcl:c < ys.length * (size k0 + 1):=by rw [← hrow2.1]; exact hc
   have hdm:=Nat.div_add_mod c (size k0 + 1)
   have hml:=Nat.mod_lt c (show 0 < size k0 + 1 by omega)
   have hil:c / (size k0 + 1) < ys.length:=(Nat.div_lt_iff_lt_mul (by omega)).2 hcl
   have hce:cellN φ w id2 (c / (size k0 + 1) * (size k0 + 1) + c % (size k0 + 1))=some us[c]:=by
    rw [Nat.mul_comm,hdm,rowcell h2 hrow2 hcl,List.getElem?_eq_getElem hc]
   by_cases c1:c % (size k0 + 1) < size k0
   ·obtain ⟨vs0,p1,p2⟩:=hE.head id2 _ _ _ _ _ _ hh2 _ hil
    have hv:vs0[c % (size k0 + 1)]?=some (vs0[c % (size k0 + 1)]'(by rw [p1.length]; exact c1)):=List.getElem?_eq_getElem _
    have:=p2 _ _ hv
    rw [hce] at this
    rw [Option.some.inj this]
    exact p1.one _ (List.getElem_mem _)
   ·have c2:c % (size k0 + 1)=size k0:=by omega
    obtain ⟨uj,usj,p1,p2,-⟩:=(hE.nest id2 _ _ _ _ _ _ _ _ hh2 hhl2).elem _ hil (by rintro ⟨_,_,h,_⟩; cases h)
    rw [c2] at hce
    rw [hce] at p1
    rw [Option.some.inj p1]
    exact ownsRow_one p2
  obtain ⟨v',w',hr,h10,h11,_,h12⟩:=run_append_own_at (P:=P) w 0 t o.type e' it zv (size k0 + 1) ei.bytes hd hi1 hi4 hsz hi3 hzz (by omega) (a.eval x) xs.length vs hrow ⟨g2,0,none⟩ ys.length cap2 us hrow2.1 hcells hone (by unfold maxLen; omega) hfit (Nat.zero_le _)
  rw [← e0] at hr
  exact fin v' w' hr h10 h11 h12
def opAppendN0 (T:List (TypeId×TI)) (o:Oper) (σ:LS) (base:Nat) (t:TypeId) (x y:Operand) (kk:Rec→Option ρ):Option ρ :=
 match T.lookup t,opd2 σ x y with
 | some ti,some (.sv false [c],.sv false [.own id2],tl)=>match ti.kind with
  | .slice e'=>match T.lookup e',nestAt σ id2 with
   | some ei,some ⟨e,k0,e1,k1,ys,lk2⟩=>match lockAt σ lk2 id2 with
     | some ver2=>if isNil c=true∧e'=e∧ei.sz=size k0 + 1∧ei.zero.length=ei.sz then (if ys.length * ei.bytes ≤ 140737488355328∧0 < ei.bytes then
       kk ⟨o.dst,some (.sv false [.own base]),tl,[(id2,some (.nest e k0 e1 k1 ys lk2)),(lk2,some (.lock id2 ver2 none))],
        [(id2,none),(base,some (.nest e k0 e1 k1 ys (base + 1))),(base + 1,some (.lock base 0 none))],[base,base + 1]⟩ else none) else none
     | _=>none
   | _,_=>none
  | _=>none
 | _,_=>none
theorem opAppendN0_ok {P:Program} {T:List (TypeId×TI)} (hT:TOK P T) {o:Oper} {σ:LS} {t:TypeId} {x y:Operand} {base:Nat} {kk:Rec→Option ρ} {z:ρ} (ho:o.op=.call { callee:=.builtin .append,args:=#[x,y],argTypes:=#[t,t] }) (h:opAppendN0 T o σ base t x y kk=some z):∃ r,Good P o σ base r∧kk r=some z:=by
 unfold opAppendN0 at h
 split at h
 case h_2=>cases h
 case h_1 ti c id2 tl hti hx =>
 split at h
 case h_2=>cases h
 case h_1 e' hkind =>
 split at h
 case h_2=>cases h
 case h_1 ei e k0 e1 k1 ys lk2 hei hat2 =>
 split at h
 case h_2=>cases h
 case h_1 ver2 hlk2 =>
 have h0:=ite_some h rfl
 clear h
 obtain ⟨⟨hc,rfl,hesz,hzl⟩,h⟩:=h0
 have h0:=ite_some h rfl
 clear h
 obtain ⟨⟨hfit,hpos⟩,h⟩:=h0
 have hat2:=nestAt_eq hat2
 have hlk2:=lockAt_eq hlk2
 obtain ⟨dd,hd,hkd⟩:=(hT t ti hti).under
 rw [hkind] at hkd
 simp only [TK.ok] at hkd
 subst hkd
 obtain ⟨it,zv,hi1,hi2,hi3,hi4,hi5⟩:=(hT e' ei hei).info
 have hsz:it.size=size k0 + 1:=by rw [hi2,hesz]
 have hzz:zv.cells.size=size k0 + 1:=by rw [← Array.length_toList,hi5,hzl,hesz]
 refine ⟨_,⟨rfl,opd2_temps hx,?_,?_,?_⟩,h⟩
 ·intro p hp0
  simp only [List.mem_cons,List.not_mem_nil,or_false] at hp0
  rcases hp0 with rfl | rfl
  ·exact hat2
  ·exact hlk2
 ·intro i hi
  simp only [List.mem_cons,List.not_mem_nil,or_false] at hi
  rcases hi with rfl | rfl <;> omega
 intro fr σ' φ I a w K Q hR hv hdn hK
 obtain ⟨h1,⟨h2,_⟩⟩:=opd2_eval hx hR hv.1
 replace h1:a.eval x=.slice none 0 0:=by
  have h1:RV fr.J φ I w c (a.eval x):=h1
  rw [isNil_ok hc] at h1
  exact h1
 have hh2:σ'.heap id2=some (.nest e' k0 e1 k1 ys lk2):=hv.2.1 _ List.mem_cons_self
 have hhl2:σ'.heap lk2=some (.lock id2 ver2 none):=hv.2.1 _ (List.mem_cons_of_mem _ List.mem_cons_self)
 have hf:σ'.fresh base:=hv.2.2 base (by simp)
 have hf2:σ'.fresh (base + 1):=hv.2.2 (base + 1) (by simp)
 have hrow:w.ownsRow 0 e' (size k0 + 1) (a.eval x) 0 []:=by rw [h1]; exact World.ownsRow_nil _ _ _ _
 obtain ⟨us,hrow2⟩:=nest_slice hR hh2 h2
 have hb:ys.length ≤ 140737488355328:=Nat.le_trans (Nat.le_mul_of_pos_right _ hpos) hfit
 have fin:∀ (v':Value) (w':World),(Builtin.append_ #[t,t] o.type #[a.eval x,a.eval y]).run P w=.ok v' w'→w'.ownsRow 0 e' (size k0 + 1) v' ys.length us→w.grownBy w' (a.eval x).ownBlock→(v'.ownBlock=(a.eval x).ownBlock ∨ v'.ownBlock=some w.heap.size)→Oper.wp P o a w K Q:=by
  intro v' w' hr hown hgr hat'
  have hbv:=blk_own v' w' hown
  have hbx:(a.eval x).ownBlock=none:=by rw [h1]; rfl
  have honly:OnlyP (fun _=>False) w w':=(OnlyP.of_grown hgr).mono fun b hb=>by rw [hbx] at hb; cases hb
  have hφb:ext (ext φ base v') (base + 1) undef base=some v':=by
   unfold ext; rw [if_neg (by omega),if_pos rfl]
  have hIw:∀ b,I b→w'.heap[b]?=w.heap[b]?:=fun b hb=>honly.block b (hR.lt b (.inl hb)) fun hg=>hg
  have hcell:∀ c,c < ys.length * (size k0 + 1)→cellN (ext (ext φ base v') (base + 1) undef) w' base c=us[c]?:=fun c hc=>rowcell hφb hown hc
  have hcy:∀ i o',i < ys.length→o' < size k0 + 1→cellN (ext (ext φ base v') (base + 1) undef) w' base (i * (size k0 + 1) + o')=cellN φ w id2 (i * (size k0 + 1) + o'):=by
   intro i o' hi ho'
   have:i * (size k0 + 1) + (size k0 + 1) ≤ ys.length * (size k0 + 1):=by rw [← Nat.succ_mul]; exact Nat.mul_le_mul_right _ hi
   rw [hcell _ (by omega),rowcell h2 hrow2 (by omega)]
  unfold Oper.wp
  have hrun:(execOp a.eval o).run P w=.ok (.value v') w':=by
   unfold execOp
   simp only [ho,resolve,invoke,builtin,Sem.run_bind,Sem.run_pure,Result.andThen_ok,List.map_toArray,List.map_cons,List.map_nil,hr]
  rw [hrun,Oper.upon_value]
  refine hK _ I _ _ (hR.nestMk _ (id:=base) (lk:=base + 1) (olds:=[id2]) (u:=v') (e:=e') (k0:=k0) (e1:=e1) (k1:=k1) (xs:=ys) hdn rfl rfl hf hf2 (by omega) ?_ (honly.mono fun b hb=>hb.elim) ?_ ⟨us,hown⟩ ?_ ?_ ?_)
  ·intro o' ho'
   simp only [List.mem_cons,List.not_mem_nil,or_false] at ho'
   subst ho'
   exact ⟨_,_,hh2,rfl,h2⟩
  ·intro b hb
   rw [hbv] at hb
   rcases hat' with h | h
   ·rw [h,hbx] at hb; cases hb
   ·right; rw [h] at hb; cases hb; exact Nat.le_refl _
  ·intro av ea
   simp only [Option.some.injEq] at ea
   subst ea
   exact ⟨hφb,ownsRow_one hown⟩
  ·obtain ⟨E,hE⟩:=hR.deep
   intro i hi
   obtain ⟨vs0,p1,p2⟩:=hE.head id2 _ _ _ _ _ _ hh2 i hi
   refine ⟨vs0,p1.mono (fun _ h=>h) hIw,fun o' u' hu'=>?_⟩
   have hlo:o' < size k0:=by
    have:=(List.getElem?_eq_some_iff.1 hu').1
    rwa [p1.length] at this
   rw [hcy i o' hi (by omega)]; exact p2 o' u' hu'
  ·intro E hE
   have noX:∀ j,¬ holeX none j:=by rintro j ⟨_,_,h,_⟩; cases h
   have hN2:=hE.nest id2 _ _ _ _ _ _ _ _ hh2 hhl2
   have hEw:∀ i' b,E i' b→w'.heap[b]?=w.heap[b]?:=fun i' b hb=>honly.block b (hE.priv i' b hb).2.2.2 fun hg=>hg
   constructor
   ·intro i hi _
    obtain ⟨uj,usj,p1,p2,p3,p4⟩:=hN2.elem i hi (noX _)
    exact ⟨uj,usj,by rw [hcy i _ hi (by omega)]; exact p1,ownsRow_frame p2 fun b hb=>hEw id2 b (p4 b hb),p3.mono fun _ _ h=>h.mono (fun _ h=>h) hIw,fun b hb=>⟨id2,by simp,p4 b hb⟩⟩
   ·intro i j u u' b hi hj _ _ hij p1 p2 hb hb'
    rw [hcy i _ hi (by omega)] at p1
    rw [hcy j _ hj (by omega)] at p2
    exact hN2.dist i j u u' b hi hj (noX _) (noX _) hij p1 p2 hb hb'
 rcases hrow2.2 with ⟨e0,h0⟩ | ⟨g2,cap2,cur2,e0,_,hg2,hn2,_,hcs2,htk2⟩
 ·have:ys=[]:=List.eq_nil_of_length_eq_zero h0
  subst this
  have hus:us=[]:=by
   have:=hrow2.1
   simpa using this
  subst hus
  refine fin (a.eval x) w ?_ hrow ⟨rfl,rfl,rfl,Nat.le_refl _,fun _ _ _=>rfl⟩ (.inl rfl)
  rw [e0]
  exact run_append_nothing hd hi1 hrow none 0
 ·have hcells:∀ j u,us[j]?=some u→w.cell? ((⟨g2,0,none⟩:Addr).add j)=some u:=by
   intro j u hu
   have:(⟨g2,0,none⟩:Addr).add j=⟨g2,0 + j,none⟩:=by unfold Addr.add; split <;> simp_all
   rw [this,Nat.zero_add,cell_of_row w g2 j cur2 e' (0,0) hg2]
   rw [← htk2,List.getElem?_take] at hu
   split at hu
   ·simpa using hu
   ·cases hu
  have hone:∀ u ∈ us,u.oneCell'=true:=by
   obtain ⟨E,hE⟩:=hR.deep
   intro u hu
   obtain ⟨c,hc,rfl⟩:=List.getElem_of_mem hu
   have hcl:c < ys.length * (size k0 + 1):=by rw [← hrow2.1]; exact hc
   have hdm:=Nat.div_add_mod c (size k0 + 1)
   have hml:=Nat.mod_lt c (show 0 < size k0 + 1 by omega)
   have hil:c / (size k0 + 1) < ys.length:=(Nat.div_lt_iff_lt_mul (by omega)).2 hcl
   have hce:cellN φ w id2 (c / (size k0 + 1) * (size k0 + 1) + c % (size k0 + 1))=some us[c]:=by
    rw [Nat.mul_comm,hdm,rowcell h2 hrow2 hcl,List.getElem?_eq_getElem hc]
   by_cases c1:c % (size k0 + 1) < size k0
   ·obtain ⟨vs0,p1,p2⟩:=hE.head id2 _ _ _ _ _ _ hh2 _ hil
    have hv:vs0[c % (size k0 + 1)]?=some (vs0[c % (size k0 + 1)]'(by rw [p1.length]; exact c1)):=List.getElem?_eq_getElem _
    have:=p2 _ _ hv
    rw [hce] at this
    rw [Option.some.inj this]
    exact p1.one _ (List.getElem_mem _)
   ·have c2:c % (size k0 + 1)=size k0:=by omega
    obtain ⟨uj,usj,p1,p2,-⟩:=(hE.nest id2 _ _ _ _ _ _ _ _ hh2 hhl2).elem _ hil (by rintro ⟨_,_,h,_⟩; cases h)
    rw [c2] at hce
    rw [hce] at p1
    rw [Option.some.inj p1]
    exact ownsRow_one p2
  obtain ⟨v',w',hr,h10,h11,_,h12⟩:=run_append_own_at (P:=P) w 0 t o.type e' it zv (size k0 + 1) ei.bytes hd hi1 hi4 hsz hi3 hzz (by omega) (a.eval x) 0 [] hrow ⟨g2,0,none⟩ ys.length cap2 us hrow2.1 hcells hone (by unfold maxLen; omega) (by rw [Nat.zero_add]; exact hfit) (Nat.zero_le _)
  rw [← e0] at hr
  exact fin v' w' hr (by simpa using h10) h11 h12
end
end Go.Ev
