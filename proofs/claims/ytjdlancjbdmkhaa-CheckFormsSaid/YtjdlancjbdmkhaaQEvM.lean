/- A checked evaluator, part M: rows that are made and lengthened; parts of slices. -/
import Derived.Test.YtjdlancjbdmkhaaQEvL
namespace Go.Ev
open Go.RowKit
set_option linter.unusedVariables false
section
variable {ρ:Type}
def isZs:CV→Bool
 | .lit (.slice _ n _)=>n == 0
 | _=>false
theorem isZs_ok {c:CV} (h:isZs c=true):∃ ad cap,c=.lit (.slice ad 0 cap):=by
 unfold isZs at h
 split at h
 ·rename_i ad n cap
  have:n=0:=by simpa using h
  subst this
  exact ⟨ad,cap,rfl⟩
 ·cases h
def rowRec (o:Oper) (tl:List (Tmp×AV)) (hp:List (Nat×Option HV)) (old:Option Nat) (base:Nat) (e:TypeId) (k:Ty) (xs:List (D k)):Rec :=
 ⟨o.dst,some (.sv false [.own base]),tl,hp,(match old with
  | some id=>[(id,none)]
  | none=>[]) ++ [(base,some (.row e k xs))],[base]⟩
def rowOf (σ:LS) (e:TypeId) (k:Ty) (c:CV):Option (List (D k)×List (Nat×Option HV)×Option Nat) :=
 match c with
 | .own id=>match σ.at id with
  | some (.row e' k' xs)=>if h:e'=e∧k'=k then some (h.2 ▸ xs,[(id,some (.row e' k' xs))],some id) else none
  | _=>none
 | c=>if isNil c then some ([],[],none) else none
def opAppend (T:List (TypeId×TI)) (o:Oper) (σ:LS) (base:Nat) (t:TypeId) (x y:Operand) (kk:Rec→Option ρ):Option ρ :=
 match T.lookup t,opd2 σ x y with
 | some ti,some (.sv false [c],.sv false [d],tl)=>match ti.kind with
  | .slice e=>match T.lookup e with
   | some ei=>match ei.ty with
    | some k=>match rowOf σ e k c with
     | some (xs,hp,old)=>match qAny σ e k d with
      | some (ys,hp')=>if (xs.length + ys.length) * ei.bytes ≤ 140737488355328∧0 < ei.bytes then kk (rowRec o tl (hp ++ hp') old base e k (xs ++ ys)) else none
      | none=>none
     | none=>none
    | none=>none
   | none=>none
  | _=>none
 | _,_=>none
where
 qAny (σ:LS) (e:TypeId) (k:Ty) (c:CV):Option (List (D k)×List (Nat×Option HV)) :=
  match sliceOf σ c with
  | some ⟨e',k',xs,hp,_⟩=>if h:e'=e∧k'=k then some (h.2 ▸ xs,hp) else none
  | none=>if isZs c then some ([],[]) else none
theorem qAny_hp {σ:LS} {e:TypeId} {k:Ty} {c:CV} {xs:List (D k)} {hp:List (Nat×Option HV)} (h:opAppend.qAny σ e k c=some (xs,hp)):∀ p ∈ hp,σ.at p.1=p.2:=by
 unfold opAppend.qAny at h
 split at h
 ·rename_i hs
  split at h
  ·cases h
   exact sliceOf_hp hs
  ·cases h
 ·obtain ⟨_,h⟩:=ite_some h rfl
  cases h; simp
theorem qAny_ok {σ:LS} {e:TypeId} {k:Ty} {c:CV} {xs:List (D k)} {hp:List (Nat×Option HV)} (h:opAppend.qAny σ e k c=some (xs,hp)) {fr:Fr} {σ':FS} {φ:Nat→Option Value} {I:Nat→Prop} {a:Act} {w:World} (hR:R fr σ' φ I a w)
  (hv:∀ p ∈ hp,σ'.heap p.1=p.2) {v:Value} (h1:RV fr.J φ I w c v):∃ ad cap us,v=.slice ad xs.length cap∧lst (RdC I w k) xs us∧xs.length ≤ cap∧(xs=[] ∨ ∃ b o,ad=some ⟨b,o,none⟩∧∀ j v,us[j]?=some v→w.cell? ⟨b,o + j,none⟩=some v):=by
 unfold opAppend.qAny at h
 split at h
 ·rename_i e' k' xs' hp' oi hs
  split at h
  ·rename_i hek
   obtain ⟨rfl,rfl⟩:=hek
   cases h
   obtain ⟨ad,cap,us,h3,h4,h5,h6⟩:=sliceOf_ok hs hR hv h1
   exact ⟨ad,cap,us,h3,h5,h4,h6.imp (fun h=>h) fun ⟨b,o,h7,h8,_⟩=>⟨b,o,h7,h8⟩⟩
  ·cases h
 ·obtain ⟨hn,h⟩:=ite_some h rfl
  cases h
  obtain ⟨ad,cap,e1⟩:=isZs_ok hn
  rw [e1] at h1
  exact ⟨ad,cap,[],h1,rfl,Nat.zero_le _,.inl rfl⟩
theorem rowOf_cases {σ:LS} {e:TypeId} {k:Ty} {c:CV} {xs:List (D k)} {hp:List (Nat×Option HV)} {old:Option Nat} (h:rowOf σ e k c=some (xs,hp,old)) :
  (∃ id,c=.own id∧σ.at id=some (.row e k xs)∧hp=[(id,some (.row e k xs))]∧old=some id) ∨ (c=.lit (.slice none 0 0)∧xs=[]∧hp=[]∧old=none):=by
 cases c with
 | own id =>
  left
  simp only [rowOf] at h
  cases hh:σ.at id with
  | none=>rw [hh] at h; cases h
  | some hv =>
   rw [hh] at h
   cases hv with
   | row e' k' xs' =>
    simp only at h
    split at h
    ·rename_i hek
     obtain ⟨rfl,rfl⟩:=hek
     cases h
     exact ⟨id,rfl,hh,rfl,rfl⟩
    ·cases h
   | cells cs=>cases h
   | buf e k bs=>cases h
   | nest e k0 e1 k1 xs lk=>cases h
   | lock r ver st=>cases h
   | peek r i ver=>cases h
   | pend r e1 k1 ys=>cases h
   | map xs=>cases h
   | frozen e' k' xs'=>cases h
 | lit v =>
  right
  simp only [rowOf] at h
  obtain ⟨hn,h⟩:=ite_some h rfl
  cases h
  exact ⟨isNil_ok hn,rfl,rfl,rfl⟩
 | ptr id off=>simp [rowOf,isNil] at h
 | iptr k x off=>simp [rowOf,isNil] at h
 | eptr id sz i off=>simp [rowOf,isNil] at h
 | imm e k xs=>simp [rowOf,isNil] at h
 | clo f caps=>simp [rowOf,isNil] at h
 | view id sz lo n=>simp [rowOf,isNil] at h
 | dyn g=>simp [rowOf,isNil] at h
 | immm xs=>simp [rowOf,isNil] at h
theorem rowOf_hp {σ:LS} {e:TypeId} {k:Ty} {c:CV} {xs:List (D k)} {hp:List (Nat×Option HV)} {old:Option Nat} (h:rowOf σ e k c=some (xs,hp,old)):∀ p ∈ hp,σ.at p.1=p.2:=by
 rcases rowOf_cases h with ⟨id,rfl,h1,rfl,rfl⟩ | ⟨rfl,rfl,rfl,rfl⟩
 ·simpa using h1
 ·simp
def WasRow (σ:FS) (φ:Nat→Option Value) (e:TypeId) (k:Ty) (xs:List (D k)) (v:Value):Option Nat→Prop
 | some id=>σ.heap id=some (.row e k xs)∧φ id=some v
 | none=>v=.slice none 0 0
theorem rowOf_ok {σ:LS} {e:TypeId} {k:Ty} {c:CV} {xs:List (D k)} {hp:List (Nat×Option HV)} {old:Option Nat} (h:rowOf σ e k c=some (xs,hp,old)) {fr:Fr} {σ':FS} {φ:Nat→Option Value} {I:Nat→Prop} {a:Act} {w:World} (hR:R fr σ' φ I a w)
  (hv:∀ p ∈ hp,σ'.heap p.1=p.2) {v:Value} (h1:RV fr.J φ I w c v):∃ vs,w.ownsRow 0 e (size k) v xs.length vs∧lst (RdC I w k) xs vs∧WasRow σ' φ e k xs v old:=by
 rcases rowOf_cases h with ⟨id,rfl,h2,rfl,rfl⟩ | ⟨rfl,rfl,rfl,rfl⟩
 ·have h2:=hv _ List.mem_cons_self
  obtain ⟨v',vs,h3,h4,h5⟩:=hR.heap id _ h2
  have h1:φ id=some v:=h1.1
  rw [h1] at h3; cases h3
  exact ⟨vs,h4,h5,h2,h1⟩
 ·rw [show v=_ from h1]
  exact ⟨[],World.ownsRow_nil _ _ _ _,rfl,rfl⟩
def OldOK (σ:FS) (φ:Nat→Option Value) (w w':World) (v:Value):Option Nat→Prop
 | some id=>∃ hv u,σ.heap id=some hv∧hv.owned=true∧φ id=some u∧OnlyP (fun b=>blk u=some b) w w'∧∀ b,blk v=some b→blk u=some b ∨ w.heap.size ≤ b
 | none=>OnlyP (fun _=>False) w w'∧∀ b,blk v=some b→w.heap.size ≤ b
theorem rowRec_ok {P:Program} {o:Oper} {tl:List (Tmp×AV)} {hp:List (Nat×Option HV)} {old:Option Nat} {base:Nat} {e:TypeId} {k:Ty} {xs:List (D k)}
  (h:∀ (fr:Fr) (σ:FS) (φ:Nat→Option Value) (I:Nat→Prop) (a:Act) (w:World),R fr σ φ I a w→(rowRec o tl hp old base e k xs).valid σ →
   ∃ v w',(execOp a.eval o).run P w=.ok (.value v) w'∧(∃ vs,w'.ownsRow 0 e (size k) v xs.length vs∧lst (RdC I w k) xs vs)∧OldOK σ φ w w' v old):OpOK P o (rowRec o tl hp old base e k xs):=by
 intro fr σ φ I a w K Q hR hv hdn hK
 obtain ⟨v,w',h1,⟨vs,h2,h3⟩,h4⟩:=h fr σ φ I a w hR hv
 have hf:σ.fresh base:=hv.2.2 base (by simp [rowRec])
 have hone:v.oneCell'=true:=by
  rcases h2.2 with ⟨rfl,_⟩ | ⟨g,cap,cur,rfl,_⟩ <;> rfl
 unfold Oper.wp
 rw [h1,Oper.upon_value]
 have hval:∀ av,(rowRec o tl hp old base e k xs).val=some av→RA fr.J (ext φ base v) I w' av v:=by
  intro av e
  simp only [rowRec,Option.some.injEq] at e
  subst e
  exact ⟨ext_same,hone⟩
 cases old with
 | none =>
  obtain ⟨h5,h6⟩:=h4
  refine hK (ext φ base v) I v w' (hR.new (rowRec o tl hp none base e k xs) (id:=base) (u:=v) (by exact hdn) rfl rfl hf h5 h6 ⟨v,vs,ext_same,h2,?_⟩ hval)
  exact h3.mono fun _ _ h=>h.mono (fun _ h=>h) (fun b hb=>h5.block b (hR.lt b (.inl hb)) id)
 | some id =>
  obtain ⟨hv0,u,h5,h6,h7,h8,h9⟩:=h4
  refine hK (ext φ base v) I v w' (hR.move (rowRec o tl hp (some id) base e k xs) (id:=base) (u:=v) (by exact hdn) rfl rfl hf h5 h6 h7 h8 h9 ⟨v,vs,ext_same,h2,?_⟩ hval)
  exact h3.mono fun _ _ h=>h.mono (fun _ h=>h) (fun b hb=>h8.block b (hR.lt b (.inl hb)) fun h10=>(hR.own id hv0 u b h5 h6 h7 h10).1 hb)
theorem blk_own (v:Value) (w:World) {base:Nat} {e:TypeId} {size n:Nat} {xs:List Value} (h:w.ownsRow base e size v n xs):blk v=v.ownBlock:=by
 rcases h.2 with ⟨rfl,_⟩ | ⟨g,cap,cur,rfl,_⟩ <;> rfl
theorem run_append_nothing {P:Program} {w:World} {t ty e:TypeId} {i:TypeInfo} (ht:P.underlying t=some (.slice e)) (hi:P.info? e=some i) {base size n:Nat} {v:Value} {xs:List Value} (hown:w.ownsRow base e size v n xs) (ad:Option Addr) (c:Nat) :
  (Builtin.append_ #[t,t] ty #[v,.slice ad 0 c]).run P w=.ok v w:=by
 rcases hown.2 with ⟨rfl,rfl⟩ | ⟨g,cap,cur,rfl,_,_,hnc,_⟩
 ·cases ad <;> simp [Builtin.append_,run_underlying ht,sizeOf,typeInfo,hi,Builtin.lenOf,Builtin.firstCells,loadCells,loadCellsFrom]
 ·cases ad <;> simp [Builtin.append_,run_underlying ht,sizeOf,typeInfo,hi,Builtin.lenOf,Builtin.firstCells,loadCells,loadCellsFrom,hnc,storeCells]
theorem opAppend_ok {P:Program} {T:List (TypeId×TI)} (hT:TOK P T) {o:Oper} {σ:LS} {t t':TypeId} {x y:Operand} {base:Nat} {kk:Rec→Option ρ} {z:ρ} (ho:o.op=.call { callee:=.builtin .append,args:=#[x,y],argTypes:=#[t,t] }) (h:opAppend T o σ base t x y kk=some z):∃ r,Good P o σ base r∧kk r=some z:=by
 unfold opAppend at h
 split at h
 case h_2=>cases h
 case h_1 ti c d tl hti hx =>
 split at h
 case h_2=>cases h
 case h_1 e hkind =>
 split at h
 case h_2=>cases h
 case h_1 ei hei =>
 split at h
 case h_2=>cases h
 case h_1 k hk =>
 split at h
 case h_2=>cases h
 case h_1 xs hp old hrow =>
 split at h
 case h_2=>cases h
 case h_1 ys hp' hq =>
 have h0:=ite_some h rfl
 clear h
 obtain ⟨⟨hfit,hpos⟩,h⟩:=h0
 obtain ⟨dd,hd,hkd⟩:=(hT t ti hti).under
 rw [hkind] at hkd
 simp only [TK.ok] at hkd
 subst hkd
 obtain ⟨it,zv,hi1,hi2,hi3,hi4,hi5⟩:=(hT e ei hei).info
 obtain ⟨hs1,hs2,hs3⟩:=(hT e ei hei).ty k hk
 have hsz:it.size=size k:=by rw [hi2,hs1]
 refine ⟨_,⟨rfl,opd2_temps hx,?_,by simp [rowRec],rowRec_ok fun fr σ' φ I a w hR hv=>?_⟩,h⟩
 ·intro p hp0
  rcases List.mem_append.1 hp0 with hp0 | hp0
  ·exact rowOf_hp hrow p hp0
  ·exact qAny_hp hq p hp0
 ·obtain ⟨h1,h2⟩:=opd2_eval hx hR hv.1
  obtain ⟨vs,h3,h4,h5⟩:=rowOf_ok hrow hR (fun p hp=>hv.2.1 p (List.mem_append_left _ hp)) (show RV fr.J φ I w c (a.eval x) from h1)
  obtain ⟨ad,cap,us,h6,h7,_,h8⟩:=qAny_ok hq hR (fun p hp=>hv.2.1 p (List.mem_append_right _ hp)) (show RV fr.J φ I w d (a.eval y) from h2)
  have hul:us.length=ys.length * size k:=lst.length (fun _ _ h=>h.length) h7
  have hu1:∀ u ∈ us,u.oneCell'=true:=lst.all (p:=fun u=>u.oneCell'=true) (fun _ _ h=>h.one) h7
  have hall:lst (RdC I w k) (xs ++ ys) (vs ++ us):=h4.append h7
  have hzz:zv.cells.size=size k:=by rw [← Array.length_toList,hi5,← hs2]; exact (zeros_rd (I:=fun _=>False) (w:=w) k).length
  have hb:(xs.length + ys.length) ≤ 140737488355328:=Nat.le_trans (Nat.le_mul_of_pos_right _ hpos) hfit
  have fin:∀ (v':Value) (w':World),(Builtin.append_ #[t,t] o.type #[a.eval x,a.eval y]).run P w=.ok v' w'→w'.ownsRow 0 e (size k) v' (xs.length + ys.length) (vs ++ us)→w.grownBy w' (a.eval x).ownBlock→(v'.ownBlock=(a.eval x).ownBlock ∨ v'.ownBlock=some w.heap.size) →
    ∃ v w',(execOp a.eval o).run P w=.ok (.value v) w'∧(∃ vs,w'.ownsRow 0 e (size k) v (xs ++ ys).length vs∧lst (RdC I w k) (xs ++ ys) vs)∧OldOK σ' φ w w' v old:=by
   intro v' w' hr hown hgr hat
   refine ⟨v',w',?_,⟨vs ++ us,by rw [List.length_append]; exact hown,hall⟩,?_⟩
   ·unfold execOp
    simp only [ho,resolve,invoke,builtin,Sem.run_bind,Sem.run_pure,Result.andThen_ok,List.map_toArray,List.map_cons,List.map_nil,hr]
   ·have hbv:=blk_own v' w' hown
    have hbx:=blk_own (a.eval x) w h3
    cases old with
    | some id =>
     obtain ⟨h9,h10⟩:=h5
     refine ⟨_,_,h9,rfl,h10,?_,?_⟩
     ·rw [hbx]; exact OnlyP.of_grown hgr
     ·intro b hb
      rw [hbv] at hb
      rcases hat with h | h
      ·left; rw [hbx,← h]; exact hb
      ·right; rw [h] at hb; cases hb; exact Nat.le_refl _
    | none =>
     have h5:a.eval x=.slice none 0 0:=h5
     refine ⟨(OnlyP.of_grown hgr).mono fun b hb=>?_,?_⟩
     ·rw [h5] at hb; cases hb
     ·intro b hb
      rw [hbv] at hb
      rcases hat with h | h
      ·rw [h,h5] at hb; cases hb
      ·rw [h] at hb; cases hb; exact Nat.le_refl _
  rcases h8 with h8 | ⟨b,off,rfl,h9⟩
  ·subst h8
   have hus:us=[]:=by simpa [lst] using h7
   subst hus
   refine fin (a.eval x) w ?_ (by simpa using h3) ⟨rfl,rfl,rfl,Nat.le_refl _,fun _ _ _=>rfl⟩ (.inl rfl)
   rw [h6]
   exact run_append_nothing hd hi1 h3 ad cap
  ·have hcells:∀ j u,us[j]?=some u→w.cell? ((⟨b,off,none⟩:Addr).add j)=some u:=by
    intro j u hu
    have:(⟨b,off,none⟩:Addr).add j=⟨b,off + j,none⟩:=by unfold Addr.add; split <;> simp_all
    rw [this]
    exact h9 j u hu
   obtain ⟨v',w',hr,h10,h11,_,h12⟩:=run_append_own_at (P:=P) w 0 t o.type e it zv (size k) ei.bytes hd hi1 hi4 hsz hi3 hzz hs3 (a.eval x) xs.length vs h3 ⟨b,off,none⟩ ys.length cap us hul hcells hu1 (by unfold maxLen; omega) hfit (Nat.zero_le _)
   rw [← h6] at hr
   exact fin v' w' hr h10 h11 h12
def opMake (T:List (TypeId×TI)) (o:Oper) (σ:LS) (base:Nat) (t:TypeId) (x y:Operand) (kk:Rec→Option ρ):Option ρ :=
 match T.lookup t,opd2 σ x y with
 | some ti,some (u,v,tl)=>match ti.kind,intLit u,intLit v with
  | .slice e,some n,some m=>match T.lookup e with
   | some ei=>match ei.ty with
    | some k=>if n=m then (if 0 ≤ n∧ei.bytes * n.toNat ≤ 140737488355328∧0 < ei.bytes then kk (rowRec o tl [] none base e k (List.replicate n.toNat (dflt k))) else none) else none
    | none=>none
   | none=>none
  | _,_,_=>none
 | _,_=>none
theorem lst_replicate {I:Nat→Prop} {w:World} (k:Ty):∀ n,lst (RdC I w k) (List.replicate n (dflt k)) ((List.replicate n (zeros k)).flatten)
 | 0=>rfl
 | n + 1=>by
  rw [List.replicate_succ,List.replicate_succ,List.flatten_cons]
  exact ⟨_,_,rfl,zeros_rd k,lst_replicate k n⟩
theorem made_eq (z:List Value) (hz:0 < z.length):∀ n,(madeCells z.toArray (n * z.length)).toList=(List.replicate n z).flatten:=by
 intro n
 apply List.ext_getElem?
 intro j
 have key:∀ (n j:Nat),((List.replicate n z).flatten)[j]?=if j < n * z.length then z[j % z.length]? else none:=by
  intro n
  induction n with
  | zero=>intro j; simp
  | succ n ih =>
   intro j
   rw [List.replicate_succ,List.flatten_cons]
   by_cases hj:j < z.length
   ·rw [List.getElem?_append_left hj,Nat.mod_eq_of_lt hj,if_pos (by rw [Nat.add_mul]; omega)]
   ·rw [List.getElem?_append_right (by omega),ih,Nat.add_mul,Nat.one_mul]
    have hm:(j - z.length) % z.length=j % z.length:=by
     conv=>rhs; rw [show j=(j - z.length) + z.length by omega,Nat.add_mod_right]
    rw [hm]
    by_cases hj2:j - z.length < n * z.length
    ·rw [if_pos hj2,if_pos (by omega)]
    ·rw [if_neg hj2,if_neg (by omega)]
 rw [key]
 unfold madeCells
 rw [Array.toList_map,List.getElem?_map]
 by_cases hj:j < n * z.length
 ·rw [if_pos hj]
  have hm:=Nat.mod_lt j hz
  simp [hj,List.getElem?_eq_getElem hm]
 ·rw [if_neg hj]
  simp [hj]
theorem opMake_ok {P:Program} {T:List (TypeId×TI)} (hT:TOK P T) {o:Oper} {σ:LS} {t:TypeId} {x y:Operand} {base:Nat} {kk:Rec→Option ρ} {z:ρ} (ho:o.op=.makeSlice t x y) (h:opMake T o σ base t x y kk=some z):∃ r,Good P o σ base r∧kk r=some z:=by
 unfold opMake at h
 split at h
 case h_2=>cases h
 case h_1 ti u v tl hti hx =>
 split at h
 case h_2=>cases h
 case h_1 e n m hkind hu hv =>
 split at h
 case h_2=>cases h
 case h_1 ei hei =>
 split at h
 case h_2=>cases h
 case h_1 k hk =>
 have h0:=ite_some h rfl
 clear h
 obtain ⟨hnm,h⟩:=h0
 subst hnm
 have h0:=ite_some h rfl
 clear h
 obtain ⟨⟨hn0,hfit,hpos⟩,h⟩:=h0
 obtain ⟨dd,hd,hkd⟩:=(hT t ti hti).under
 rw [hkind] at hkd
 simp only [TK.ok] at hkd
 subst hkd
 obtain ⟨it,zv,hi1,hi2,hi3,hi4,hi5⟩:=(hT e ei hei).info
 obtain ⟨hs1,hs2,hs3⟩:=(hT e ei hei).ty k hk
 have hsz:it.size=size k:=by rw [hi2,hs1]
 obtain ⟨ku,rfl⟩:=intLit_eq hu
 obtain ⟨kv,rfl⟩:=intLit_eq hv
 refine ⟨_,⟨rfl,opd2_temps hx,by simp [rowRec],by simp [rowRec],rowRec_ok fun fr σ' φ I a w hR hv=>?_⟩,h⟩
 obtain ⟨h1,h2⟩:=opd2_eval hx hR hv.1
 have h1:a.eval x=.int ku n:=h1
 have h2:a.eval y=.int kv n:=h2
 have hnn:((n.toNat:Nat):Int)=n:=Int.toNat_of_nonneg hn0
 have hle:n.toNat ≤ 140737488355328:=Nat.le_trans (Nat.le_mul_of_pos_left _ hpos) hfit
 obtain ⟨w',hr,h3,h4⟩:=run_make_full (P:=P) w 0 t e it zv (size k) hd hi1 hi4 hsz ku kv n.toNat (by rw [hi3]; omega) (by unfold maxLen; omega) (Nat.zero_le _)
 rw [hnn] at hr
 refine ⟨_,w',?_,⟨_,by rw [List.length_replicate]; exact h3,?_⟩,?_⟩
 ·unfold execOp
  simp only [ho,h1,h2,Sem.run_bind,hr,Result.andThen_ok,Sem.run_pure]
 ·have hz2:zv.cells=(zeros k).toArray:=by apply Array.ext'; rw [hi5,← hs2]
  have hzl:(zeros k).length=size k:=(zeros_rd (I:=fun _=>False) (w:=w) k).length
  rw [hz2]
  have:=made_eq (zeros k) (by rw [hzl]; exact hs3) n.toNat
  rw [hzl] at this
  rw [this]
  exact lst_replicate k n.toNat
 ·refine ⟨(OnlyP.of_grown h4).mono fun b hb=>(by cases hb),fun b hb=>?_⟩
  simp [blk] at hb
  omega
def opSlice (T:List (TypeId×TI)) (o:Oper) (σ:LS) (t:TypeId) (x:Operand) (lo hi:Option Operand) (kk:Rec→Option ρ):Option ρ :=
 match T.lookup t,opd σ x,opdO σ lo,opdO σ hi with
 | some ti,some (.sv false [.lit (.string s)],tl),some (l,tl1),some (h,tl2)=>match ti.kind with
  | .str=>if 0 ≤ l.getD 0∧l.getD 0 ≤ h.getD (s.size:Nat)∧h.getD (s.size:Nat) ≤ (s.size:Nat) then kk (valK o (tl ++ (tl1 ++ tl2)) [] (.sv false [.lit (.string (s.extract (l.getD 0).toNat (h.getD (s.size:Nat)).toNat))])) else none
  | _=>none
 | some ti,some (.sv false [c],tl),some (l,tl1),some (h,tl2)=>match ti.kind,sliceOf σ c with
  | .slice e',some ⟨e,k,xs,hp,none⟩=>if e'=e∧(T.lookup e).map (·.sz)=some (size k) then (if 0 ≤ l.getD 0∧l.getD 0 ≤ h.getD (xs.length:Nat)∧h.getD (xs.length:Nat) ≤ (xs.length:Nat) then
    kk (valK o (tl ++ (tl1 ++ tl2)) hp (.sv false [.imm e k ((xs.take (h.getD (xs.length:Nat)).toNat).drop (l.getD 0).toNat)])) else none) else none
  | _,_=>none
 | _,_,_,_=>none
where
 opdO (σ:LS):Option Operand→Option (Option Int×List (Tmp×AV))
  | none=>some (none,[])
  | some x=>match opd σ x with
   | some (av,tl)=>match intLit av with
    | some n=>some (some n,tl)
    | none=>none
   | none=>none
theorem opdO_temps {σ:LS} {x:Option Operand} {n:Option Int} {tl:List (Tmp×AV)} (h:opSlice.opdO σ x=some (n,tl)):∀ p ∈ tl,σ.get p.1=some p.2:=by
 cases x with
 | none=>cases h; simp
 | some x =>
  simp only [opSlice.opdO] at h
  split at h
  ·rename_i hx
   split at h
   ·cases h; exact opd_temps hx
   ·cases h
  ·cases h
theorem opdO_eval {σ:LS} {x:Option Operand} {n:Option Int} {tl:List (Tmp×AV)} (h:opSlice.opdO σ x=some (n,tl)) {fr:Fr} {σ':FS} {φ:Nat→Option Value} {I:Nat→Prop} {a:Act} {w:World}
  (hR:R fr σ' φ I a w) (hv:∀ p ∈ tl,σ'.env p.1=some p.2):(x=none∧n=none) ∨ ∃ k m,n=some m∧x.map a.eval=some (.int k m):=by
 cases x with
 | none=>cases h; exact .inl ⟨rfl,rfl⟩
 | some x =>
  simp only [opSlice.opdO] at h
  split at h
  ·rename_i av tl' hx
   split at h
   ·rename_i m hm
    cases h
    obtain ⟨k,rfl⟩:=intLit_eq hm
    have h1:a.eval x=.int k m:=opd_eval hx hR hv
    exact .inr ⟨k,m,rfl,by simp [h1]⟩
   ·cases h
  ·cases h
theorem run_bounds {P:Program} {w:World} {isS:Bool} {len cap:Nat} {lo hi:Option Value} {l h:Option Int} (hl:(lo=none∧l=none) ∨ ∃ k m,l=some m∧lo=some (.int k m)) (hh:(hi=none∧h=none) ∨ ∃ k m,h=some m∧hi=some (.int k m)) (hcap:len ≤ cap)
  (h1:0 ≤ l.getD 0) (h2:l.getD 0 ≤ h.getD (len:Nat)) (h3:h.getD (len:Nat) ≤ (len:Nat)):(Instr.sliceBounds isS len cap lo hi none).run P w=.ok ((l.getD 0).toNat,(h.getD (len:Nat)).toNat,cap) w:=by
 have h4:0 ≤ h.getD (len:Nat):=Int.le_trans h1 h2
 unfold Instr.sliceBounds
 rcases hl with ⟨rfl,rfl⟩ | ⟨kl,ml,rfl,rfl⟩ <;> rcases hh with ⟨rfl,rfl⟩ | ⟨kh,mh,rfl,rfl⟩
 ·simp
 ·simp only [Option.getD_some,Option.getD_none] at *
  have e1:mh ≤ (cap:Int):=by omega
  simp [Instr.sliceBound,asIntOf,h4,e1]
 ·simp only [Option.getD_some,Option.getD_none] at *
  simp [Instr.sliceBound,asIntOf,h1,h2]
 ·simp only [Option.getD_some] at *
  have e1:mh ≤ (cap:Int):=by omega
  have e2:ml ≤ ((mh.toNat:Nat):Int):=by omega
  simp only [Sem.run_bind,Instr.sliceBound,asIntOf,Sem.run_pure,Result.andThen_ok,h4,e1,and_self,if_true,h1,e2]
theorem opSlice_ok {P:Program} {T:List (TypeId×TI)} (hT:TOK P T) {o:Oper} {σ:LS} {t:TypeId} {x:Operand} {lo hi:Option Operand} {base:Nat} {kk:Rec→Option ρ} {z:ρ} (ho:o.op=.slice t x lo hi none) (h:opSlice T o σ t x lo hi kk=some z):∃ r,Good P o σ base r∧kk r=some z:=by
 unfold opSlice at h
 have temps:∀ {av:AV} {tl tl1 tl2:List (Tmp×AV)} {l h:Option Int},opd σ x=some (av,tl)→opSlice.opdO σ lo=some (l,tl1)→opSlice.opdO σ hi=some (h,tl2)→∀ p ∈ tl ++ (tl1 ++ tl2),σ.get p.1=some p.2:=by
  intro av tl tl1 tl2 l h h1 h2 h3 p hp
  rcases List.mem_append.1 hp with hp | hp
  ·exact opd_temps h1 p hp
  ·rcases List.mem_append.1 hp with hp | hp
   ·exact opdO_temps h2 p hp
   ·exact opdO_temps h3 p hp
 split at h
 case h_3=>cases h
 case h_1 ti s tl l tl1 hh tl2 hti hx hlo hhi =>
  split at h
  case h_2=>cases h
  case h_1 hkind =>
  have h0:=ite_some h rfl
  clear h
  obtain ⟨⟨hb1,hb2,hb3⟩,h⟩:=h0
  obtain ⟨d,hd,hkd⟩:=(hT t ti hti).under
  rw [hkind] at hkd
  simp only [TK.ok] at hkd
  subst hkd
  refine ⟨_,valK_ok (temps hx hlo hhi) (by simp) fun fr σ' φ I a w hR hv _=>?_,h⟩
  have e1:a.eval x=.string s:=opd_eval hx hR fun p hp=>hv p (List.mem_append_left _ hp)
  have e2:=opdO_eval hlo hR fun p hp=>hv p (List.mem_append_right _ (List.mem_append_left _ hp))
  have e3:=opdO_eval hhi hR fun p hp=>hv p (List.mem_append_right _ (List.mem_append_right _ hp))
  have hbd:=run_bounds (P:=P) (w:=w) (isS:=false) (len:=s.size) (cap:=s.size) (lo:=lo.map a.eval) (hi:=hi.map a.eval) (by rcases e2 with ⟨rfl,rfl⟩ | ⟨k,m,rfl,e⟩; exact .inl ⟨rfl,rfl⟩; exact .inr ⟨k,m,rfl,e⟩) (by rcases e3 with ⟨rfl,rfl⟩ | ⟨k,m,rfl,e⟩; exact .inl ⟨rfl,rfl⟩; exact .inr ⟨k,m,rfl,e⟩) (Nat.le_refl _) hb1 hb2 hb3
  refine ⟨.string (s.extract (l.getD 0).toNat (hh.getD (s.size:Nat)).toNat),?_,rfl⟩
  unfold execOp
  simp only [ho,e1,Instr.sliceAt,Sem.run_bind,run_underlying hd,Result.andThen_ok,Instr.slice,Option.map_none,Option.isSome_none,Bool.false_eq_true,if_false,hbd,Sem.run_pure]
 case h_2 ti c tl l tl1 hh tl2 hne hti hx hlo hhi =>
  split at h
  case h_2=>cases h
  case h_1 e' e k xs hp hkind hsl =>
  have h0:=ite_some h rfl
  clear h
  obtain ⟨⟨rfl,hsz⟩,h⟩:=h0
  have h0:=ite_some h rfl
  clear h
  obtain ⟨⟨hb1,hb2,hb3⟩,h⟩:=h0
  obtain ⟨d,hd,hkd⟩:=(hT t ti hti).under
  rw [hkind] at hkd
  simp only [TK.ok] at hkd
  subst hkd
  obtain ⟨ei,hei,hei2⟩:=Option.map_eq_some_iff.1 hsz
  obtain ⟨it,zv,hi1,hi2,_⟩:=(hT e' ei hei).info
  refine ⟨_,valK_ok (temps hx hlo hhi) (sliceOf_hp hsl) fun fr σ' φ I a w hR hv hvh=>?_,h⟩
  have e1:RV fr.J φ I w c (a.eval x):=opd_eval hx hR fun p hp=>hv p (List.mem_append_left _ hp)
  have e2:=opdO_eval hlo hR fun p hp=>hv p (List.mem_append_right _ (List.mem_append_left _ hp))
  have e3:=opdO_eval hhi hR fun p hp=>hv p (List.mem_append_right _ (List.mem_append_right _ hp))
  obtain ⟨ad,cap,us,h3,h4,h5,h6⟩:=sliceOf_ok hsl hR hvh e1
  have hbd:=run_bounds (P:=P) (w:=w) (isS:=true) (len:=xs.length) (cap:=cap) (lo:=lo.map a.eval) (hi:=hi.map a.eval) (by rcases e2 with ⟨rfl,rfl⟩ | ⟨k,m,rfl,e⟩; exact .inl ⟨rfl,rfl⟩; exact .inr ⟨k,m,rfl,e⟩) (by rcases e3 with ⟨rfl,rfl⟩ | ⟨k,m,rfl,e⟩; exact .inl ⟨rfl,rfl⟩; exact .inr ⟨k,m,rfl,e⟩) h4 hb1 hb2 hb3
  generalize hL:(l.getD 0).toNat=L at *
  generalize hH:(hh.getD (xs.length:Nat)).toNat=H at *
  have hLH:L ≤ H:=by omega
  have hHx:H ≤ xs.length:=by omega
  have hlen:((xs.take H).drop L).length=H - L:=by rw [List.length_drop,List.length_take]; omega
  refine ⟨.slice (if cap=L then ad else ad.map (·.add (L * size k))) (H - L) (cap - L),?_,?_⟩
  ·unfold execOp
   simp only [ho,h3,Instr.sliceAt,Sem.run_bind,run_underlying hd,Result.andThen_ok,Instr.slice,Option.map_none,hbd,run_sizeOf hi1,hi2,hei2,Sem.run_pure]
  ·refine ⟨_,_,by rw [hlen],by rw [hlen]; omega,?_⟩
   by_cases hnil:(xs.take H).drop L=[]
   ·exact .inl hnil
   ·right
    have hlt:L < H:=by
     rcases Nat.lt_or_ge L H with h | h
     ·exact h
     ·exact absurd (List.eq_nil_of_length_eq_zero (by rw [hlen]; omega)) hnil
    rcases h6 with h6 | ⟨b,o',h7,h8,h9,_⟩
    ·subst h6; simp at hHx; omega
    ·have hne:cap ≠ L:=by omega
     rw [if_neg hne,h7]
     refine ⟨b,o' + L * size k,(us.take (H * size k)).drop (L * size k),?_,h9 rfl,?_,?_⟩
     ·simp only [Option.map_some]
      congr 1
      unfold Addr.add
      split <;> simp_all
     ·exact lst.drop (n:=size k) (fun _ _ h=>h.length) L (lst.take (n:=size k) (fun _ _ h=>h.length) H h5)
     ·intro j v hj
      rw [List.getElem?_drop,List.getElem?_take] at hj
      split at hj
      ·have:=h8 _ _ hj
       rwa [Nat.add_assoc]
      ·cases hj
end
end Go.Ev
