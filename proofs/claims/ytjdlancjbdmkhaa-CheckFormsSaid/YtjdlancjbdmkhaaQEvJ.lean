/- A checked evaluator, part J: functions: from the code to the contract. -/
import Derived.Test.YtjdlancjbdmkhaaQEvI
import Derived.Test.YtjdlancjbdmkhaaQEvY
import Derived.Test.YtjdlancjbdmkhaaQEvN
namespace Go.Ev
open Go.RowKit
set_option linter.unusedVariables false
def capL:(ks:List Ty)→DTs ks→List Cp
 | [],_=>[]
 | k :: ks,x=>.ip k x.1 0 :: capL ks x.2
def pcount:PK→Nat
 | .own _ o=>ocount o
 | .inout o=>ocount (.obj o)
 | .ownc _ _=>1
 | .iov _ _=>1
 | _=>0
def pcounts:List PK→Nat
 | []=>0
 | p :: ps=>pcount p + pcounts ps
def parOne:(p:PK)→DP p→Nat→AV×List (Nat×Option HV)×List Nat
 | .val g k,x,_=>(.sv g (cellsOf k x),[],[])
 | .iref k,x,_=>(.sv false [.iptr k x 0],[],[])
 | .clo f ks,x,_=>(.sv false [.clo f (capL ks x)],[],[])
 | .own g o,x,n=>match unq o x n with
  | (c,h)=>(.sv g c,h,[])
 | .inout o,x,n=>match unq (.obj o) x n with
  | (c,h)=>(.sv false c,h,[n])
 | .slit,x,_=>(.sv false [.lit (.slice x.1 0 x.2)],[],[])
 | .ownc e k,x,n=>(.sv false [.view n (size k) 0 x.2],[(n,some (.buf e k x.1))],[])
 | .iov e k,x,n=>(.sv false [.own n],[(n,some (.row e k x))],[n])
def parL:(ps:List PK)→DPs ps→Nat→Nat→List (Nat×Option AV)×List (Nat×Option HV)×List Nat
 | [],_,_,_=>([],[],[])
 | p :: ps,x,i,n=>match parOne p x.1 n,parL ps x.2 (i + 1) (n + pcount p) with
  | (av,h,q),(e,h',q')=>((i,some av) :: e,h ++ h',q ++ q')
theorem capL_ok {J I:Nat→Prop} {w:World} (φ:Nat→Option Value):∀ {ks:List Ty} {x:DTs ks} {vs:List Value},PreC J I w ks x vs→all2 (RC J φ I w) (capL ks x) vs
 | [],_,_,h=>by rw [show _=[] from h]; exact trivial
 | k :: ks,x,vs,⟨v,vs',e,h1,h2⟩=>by subst e; exact ⟨h1,capL_ok φ h2⟩
theorem parOne_ok {J I:Nat→Prop} {w:World}:∀ {p:PK} {x:DP p} {v:Value} {B:List Nat} (n:Nat),PreP J I w p x v B →
  ∃ ψ,Unq I w (fun id=>n ≤ id∧id < n + pcount p) (parOne p x n).2.1 ψ B∧∀ (φ':Nat→Option Value),(∀ id u,ψ id=some u→φ' id=some u)→RA J φ' I w (parOne p x n).1 v ∧
   ∀ (ids:List Nat) (ps:List PK) (vs:List Value),all2 (fun id u=>φ' id=some u) ids (outVals ps vs)→all2 (fun id u=>φ' id=some u) ((parOne p x n).2.2 ++ ids) (outVals (p :: ps) (v :: vs))
 | .val g k,x,v,B,n,⟨⟨vs,h1,h2⟩,e⟩=>by
  subst e
  exact ⟨nowhere,Unq.none _ _ _,fun φ' _=>⟨RSV.mk h1.cells h2,fun ids ps vs h=>h⟩⟩
 | .iref k,x,v,B,n,⟨h,e⟩=>by
  subst e
  exact ⟨nowhere,Unq.none _ _ _,fun φ' _=>⟨h,fun ids ps vs h=>h⟩⟩
 | .clo f ks,x,v,B,n,⟨⟨vs,h1,h2⟩,e⟩=>by
  subst e
  exact ⟨nowhere,Unq.none _ _ _,fun φ' _=>⟨⟨vs,h1,capL_ok φ' h2⟩,fun ids ps vs h=>h⟩⟩
 | .slit,x,v,B,n,⟨h,e⟩=>by
  subst e
  exact ⟨nowhere,Unq.none _ _ _,fun φ' _=>⟨h,fun ids ps vs h=>h⟩⟩
 | .ownc e k,x,v,B,n,⟨hB,hbuf0,h⟩=>by
  obtain ⟨u0,hb0,hbuf,hview⟩:∃ u0,blk u0=blk v∧BufOK I w e k x.1 u0∧∀ φ',φ' n=some u0→ViewOK φ' n (size k) 0 x.2 v:=by
   rcases h with ⟨rfl,h1⟩ | ⟨g,rfl,h1,h2⟩
   ·exact ⟨.slice none 0 0,rfl,hbuf0,fun φ' h=>.inr ⟨h,rfl,rfl,h1⟩⟩
   ·exact ⟨.slice (some ⟨g,0,none⟩) x.1.length x.1.length,rfl,hbuf0,fun φ' h=>.inl ⟨g,_,_,0,h,rfl,by omega,h1,by omega,fun _=>(Nat.zero_mul _).symm⟩⟩
  refine ⟨fun i=>if i=n then some u0 else none,⟨fun id v' h=>?_,fun id v' b h1 h2=>?_,fun _ id id' v1 v2 b hne h1 h2=>?_,fun φ' J hφ id y hy=>?_⟩,fun φ' hφ=>⟨hview φ' (hφ n u0 (by simp)),fun ids ps vs h=>h⟩⟩
  ·by_cases e1:id=n
   ·subst e1; simp [pcount]
   ·simp [e1] at h
  ·by_cases e1:id=n
   ·simp [e1] at h1
    subst h1
    rw [hB,← hb0,h2]; simp
   ·simp [e1] at h1
  ·by_cases e1:id=n
   ·by_cases e2:id'=n
    ·exact absurd (e1.trans e2.symm) hne
    ·simp [e2] at h2
   ·simp [e1] at h1
  ·simp only [parOne,List.lookup] at hy
   by_cases e1:id=n
   ·subst e1
    simp only [BEq.rfl,Option.some.injEq] at hy
    exact ⟨_,u0,hy.symm,⟨rfl,rfl⟩,⟨u0,hφ id u0 (by simp),hbuf⟩,by simp⟩
   ·have:(id == n)=false:=by simpa using e1
    rw [this] at hy
    cases hy
 | .own g o,x,v,B,n,⟨vs,h1,h2⟩=>by
  obtain ⟨ψ,u,k⟩:=unq_ok n h1
  exact ⟨ψ,u,fun φ' hφ=>⟨RSV.mk (k φ' J hφ) h2,fun ids ps vs h=>h⟩⟩
 | .iov e k,x,v,B,n,h=>by
  obtain ⟨ψ,u,k⟩:=unq_ok (o:=.vec e k) n h
  exact ⟨ψ,u,fun φ' hφ=>⟨RSV.mk (k φ' J hφ) (show Go.Ev.pack false [v] v from rfl),fun ids ps vs h1=>⟨(k φ' J hφ).1.1,h1⟩⟩⟩
 | .inout o,x,v,B,n,h=>by
  obtain ⟨ψ,u,k⟩:=unq_ok (o:=.obj o) n h
  refine ⟨ψ,u,fun φ' hφ=>⟨RSV.mk (k φ' J hφ) (show Go.Ev.pack false [v] v from rfl),fun ids ps vs h1=>⟨?_,h1⟩⟩⟩
  obtain ⟨b,us,B',t,h2,_⟩:=h
  simp only [List.cons.injEq,and_true] at h2
  have h3:pv φ' n 0=some v:=(k φ' J hφ).1
  simp only [pv] at h3
  split at h3
  ·rename_i ad h4
   obtain ⟨hv,v',e1,e2,e3,e4⟩:=u.hs φ' J hφ n (some (.cells (unq o x (n + 1)).1)) (by simp [unq])
   cases e1
   obtain ⟨b',us',t',e5,_⟩:=e3
   rw [e5] at h4
   cases h4
   rw [show φ' n=_ from e5]
   exact h3
  ·cases h3
theorem parL_ok {J I:Nat→Prop} {w:World}:∀ {ps:List PK} {x:DPs ps} {vs:List Value} {B:List Nat} (i n:Nat),PrePs J I w ps x vs B →
  vs.length=ps.length∧∃ ψ,Unq I w (fun id=>n ≤ id∧id < n + pcounts ps) (parL ps x i n).2.1 ψ B∧∀ (φ':Nat→Option Value),(∀ id u,ψ id=some u→φ' id=some u) →
   (∀ t av,(parL ps x i n).1.lookup t=some (some av)→∃ j v,t=i + j∧vs[j]?=some v∧RA J φ' I w av v)∧all2 (fun id u=>φ' id=some u) (parL ps x i n).2.2 (outVals ps vs)
 | [],_,_,_,i,n,⟨h1,h2⟩=>by
  subst h1 h2
  refine ⟨rfl,nowhere,Unq.none _ _ _,fun φ' _=>⟨?_,trivial⟩⟩
  intro t av h
  cases h
 | p :: ps,x,vs,B,i,n,⟨v,vs',B1,B2,h1,h2,h3,h4⟩=>by
  subst h1 h2
  obtain ⟨ψ1,u1,k1⟩:=parOne_ok n h3
  obtain ⟨hlen,ψ2,u2,k2⟩:=parL_ok (i + 1) (n + pcount p) h4
  obtain ⟨u3,k3⟩:=u1.app u2 (fun id h h'=>by omega)
  refine ⟨by simp [hlen],bothψ ψ1 ψ2,u3.dm fun id h=>?_,fun φ' hφ=>?_⟩
  ·simp only [pcounts]
   rcases h with h | h <;> omega
  ·obtain ⟨h5,h6⟩:=k1 φ' fun id u h=>hφ id u (bothψ_l h)
   obtain ⟨h7,h8⟩:=k2 φ' fun id u h=>hφ id u (k3 id u h)
   refine ⟨fun t av h=>?_,h6 _ ps vs' h8⟩
   simp only [parL,List.lookup] at h
   cases he:t == i with
   | true =>
    rw [he] at h
    simp only [Option.some.injEq] at h
    subst h
    exact ⟨0,v,by simpa using he,rfl,h5⟩
   | false =>
    rw [he] at h
    obtain ⟨j,v',h9,h10,h11⟩:=h7 t av h
    exact ⟨j + 1,v',by omega,by simpa using h10,h11⟩
def initLS (ps:List PK) (x:DPs ps):LS:=match parL ps x 0 0 with
 | (e,h,q)=>⟨e,h,pcounts ps,q⟩
def retV (T:List (TypeId×TI)) (σ:LS):ResultVar→Option (Bool×List CV)
 | .tmp t=>match σ.get t with
  | some (.sv g cs)=>some (g,cs)
  | _=>none
 | .cell t ty=>match T.lookup ty,σ.get t with
  | some ti,some (.sv false [c])=>match readAt σ c ti.sz with
   | some (cs,_)=>if cs.length=ti.sz then (if ti.agg then some (true,cs) else if ti.sz=1 then some (false,cs) else none) else none
   | none=>none
  | _,_=>none
def retL (T:List (TypeId×TI)) (σ:LS):List ResultVar→Option (List (Bool×List CV))
 | []=>some []
 | r :: rs=>match retV T σ r,retL T σ rs with
  | some p,some l=>some (p :: l)
  | _,_=>none
def quoteRs (σ:LS):(rs:List (Bool×OK))→List (Bool×List CV)→Option (DRs rs×List Nat)
 | [],[]=>some ((),[])
 | [r],[p]=>if p.1=r.1 then (match quoAll σ r.2 p.2 with
  | some (x,ids,_)=>some (x,ids)
  | none=>none) else none
 | r :: s :: rs,p :: l=>if p.1=r.1 then (match quoAll σ r.2 p.2,quoteRs σ (s :: rs) l with
  | some (x,ids,_),some (y,ids')=>some ((x,y),ids ++ ids')
  | _,_=>none) else none
 | _,_=>none
theorem loadVar_ok {P:Program} {T:List (TypeId×TI)} (hT:TOK P T) {t:TypeId} {ti:TI} (hti:T.lookup t=some ti) {w:World} {b o:Nat} {vs:List Value} (hvl:vs.length=ti.sz) (hc:∀ j v,vs[j]?=some v→w.cell? ⟨b,o + j,none⟩=some v) (h1:ti.agg=false→ti.sz=1) :
  ∃ v,(loadVar t ⟨b,o,none⟩).run P w=.ok v w∧pack ti.agg vs v:=by
 have hok:=hT t ti hti
 obtain ⟨it,zz,hi1,hi2,_⟩:=hok.info
 obtain ⟨d,hd,_⟩:=hok.under
 have hag:=hok.agg
 have hrun:=run_load_cells (P:=P) hvl hc
 cases hg:ti.agg with
 | true =>
  refine ⟨.agg vs.toArray,?_,rfl⟩
  simp only [loadVar,Sem.run_bind,run_isAgg hd,hag,hg,Result.andThen_ok,if_true,run_sizeOf hi1,hi2,hrun,Sem.run_pure]
 | false =>
  have h4:=h1 hg
  match vs,hvl with
  | [v1],hvl =>
   refine ⟨v1,?_,rfl⟩
   have:=hc 0 v1 rfl
   rw [Nat.add_zero] at this
   simp only [loadVar,Sem.run_bind,run_isAgg hd,hag,hg,Result.andThen_ok,Bool.false_eq_true,if_false,run_load,this]
  | [],hvl=>simp at hvl; omega
  | _ :: _ :: _,hvl=>simp at hvl; omega
def resV (tmps:Array Value):ResultVar→Sem Value
 | .tmp t=>pure (tmps.getD t undef)
 | .cell a t=>do loadVar t (← asAddr (tmps.getD a undef))
theorem results_eq (fn:Func) (tmps:Array Value):results fn tmps=(fn.results.mapM (resV tmps) >>= fun vs=>pure (if h:vs.size=1 then vs[0] else .tuple vs)):=rfl
theorem retV_ok {P:Program} {T:List (TypeId×TI)} (hT:TOK P T) {σ:LS} {r:ResultVar} {p:Bool×List CV} (h:retV T σ r=some p) {fr:Fr} {φ:Nat→Option Value} {I:Nat→Prop} {a:Act} {w:World} (hR:R fr σ.toF φ I a w) :
  ∃ v,(resV a.tmps r).run P w=.ok v w∧RSV fr.J φ I w p.1 p.2 v:=by
 cases r with
 | tmp t =>
  simp only [retV] at h
  split at h
  case h_2=>cases h
  case h_1 g cs hg =>
  cases h
  obtain ⟨v,h1,h2⟩:=hR.env t _ hg
  exact ⟨v,by simp [resV,Array.getD_eq_getD_getElem?,h1],h2⟩
 | cell t ty =>
  simp only [retV] at h
  split at h
  case h_2=>cases h
  case h_1 ti c hti hg =>
  split at h
  case h_2=>cases h
  case h_1 cs hp hrd =>
  have h0:=ite_some h rfl
  clear h
  obtain ⟨hlen,h⟩:=h0
  obtain ⟨v,h1,h2⟩:=hR.env t _ hg
  have h2:RV fr.J φ I w c v:=h2
  obtain ⟨b,off,vs,e1,h3,h4,_⟩:=readAt_ok hrd hR (readAt_hp hrd) h2
  have hvl:vs.length=ti.sz:=by rw [← h3.length]; exact hlen
  have fin:∀ g,ti.agg=g→(g=false→ti.sz=1)→p=(g,cs)→∃ v,(resV a.tmps (.cell t ty)).run P w=.ok v w∧RSV fr.J φ I w p.1 p.2 v:=by
   rintro g hg1 hs rfl
   obtain ⟨v',h5,h6⟩:=loadVar_ok hT hti hvl h4 (fun e=>hs (by rw [← hg1]; exact e))
   refine ⟨v',?_,RSV.mk h3 (by rw [hg1] at h6; exact h6)⟩
   have:a.tmps.getD t undef=.pointer (some ⟨b,off,none⟩):=by simp [Array.getD_eq_getD_getElem?,h1,e1]
   simp only [resV,this,asAddr,Sem.run_bind,Sem.run_pure,Result.andThen_ok,h5]
  split at h
  ·rename_i hg1
   cases h
   exact fin true hg1 (by simp) rfl
  ·rename_i hg1
   split at h
   ·rename_i hs
    cases h
    exact fin false (by simpa using hg1) (fun _=>hs) rfl
   ·cases h
theorem retL_ok {P:Program} {T:List (TypeId×TI)} (hT:TOK P T) {σ:LS} {fr:Fr} {φ:Nat→Option Value} {I:Nat→Prop} {a:Act} {w:World} (hR:R fr σ.toF φ I a w):∀ {rs:List ResultVar} {l:List (Bool×List CV)},retL T σ rs=some l →
  ∃ vs,(rs.mapM (resV a.tmps)).run P w=.ok vs w∧all2 (fun p u=>RSV fr.J φ I w p.1 p.2 u) l vs
 | [],_,h=>by cases h; exact ⟨[],by simp,trivial⟩
 | r :: rs,l,h=>by
  simp only [retL] at h
  split at h
  case h_2=>cases h
  case h_1 p l' h1 h2 =>
  cases h
  obtain ⟨v,h3,h4⟩:=retV_ok hT h1 hR
  obtain ⟨vs,h5,h6⟩:=retL_ok hT hR h2
  refine ⟨v :: vs,?_,h4,h6⟩
  rw [List.mapM_cons,Sem.run_bind,h3]
  simp only [Result.andThen_ok,Sem.run_bind,h5,Sem.run_pure]
theorem quoteRs_ok {σ:LS} {fr:Fr} {φ:Nat→Option Value} {I:Nat→Prop} {a:Act} {w:World} (hR:R fr σ.toF φ I a w):∀ {rs:List (Bool×OK)} {l:List (Bool×List CV)} {y:DRs rs} {ids:List Nat},quoteRs σ rs l=some (y,ids)→∀ {us:List Value},all2 (fun p u=>RSV fr.J φ I w p.1 p.2 u) l us→PostL I w rs y us (blks φ ids)∧Has σ.toF ids
 | [],[],y,ids,h,[],_=>by cases h; exact ⟨⟨rfl,rfl⟩,by simp [Has]⟩
 | [],[],y,ids,h,_ :: _,hu=>hu.elim
 | [],_ :: _,y,ids,h,us,hu=>by cases h
 | [r],[],y,ids,h,us,hu=>by cases h
 | [r],[p],y,ids,h,[],hu=>hu.elim
 | [r],[p],y,ids,h,[u],hu=>by
  simp only [quoteRs] at h
  have h0:=ite_some h rfl
  clear h
  obtain ⟨hg,h⟩:=h0
  split at h
  case h_2=>cases h
  case h_1 x ids' hp h1 =>
  cases h
  obtain ⟨vs,h2,h3⟩:=RSV.pack hu.1
  obtain ⟨h4,h5⟩:=quoAll_ok h1 hR (quoAll_hp h1) h2
  exact ⟨⟨u,vs,rfl,h4,by rw [← hg]; exact h3⟩,h5⟩
 | [r],[p],y,ids,h,u :: v :: us,hu=>hu.2.elim
 | [r],p :: q :: l,y,ids,h,us,hu=>by cases h
 | r :: s :: rs,[],y,ids,h,us,hu=>by cases h
 | r :: s :: rs,p :: l,y,ids,h,[],hu=>hu.elim
 | r :: s :: rs,p :: l,y,ids,h,u :: us,⟨hu1,hu2⟩=>by
  simp only [quoteRs] at h
  have h0:=ite_some h rfl
  clear h
  obtain ⟨hg,h⟩:=h0
  split at h
  case h_2=>cases h
  case h_1 x ids1 hp y' ids2 h1 h2 =>
  cases h
  obtain ⟨vs,h3,h4⟩:=RSV.pack hu1
  obtain ⟨h5,h6⟩:=quoAll_ok h1 hR (quoAll_hp h1) h3
  obtain ⟨h7,h8⟩:=quoteRs_ok hR h2 hu2
  refine ⟨⟨u,vs,us,_,_,rfl,blks_append _ _ _,⟨h5,by rw [← hg]; exact h4⟩,h7⟩,fun id hid=>?_⟩
  rcases List.mem_append.1 hid with hid | hid
  ·exact h6 id hid
  ·exact h8 id hid
def valPos (σ:LS):OK→List CV→List CV
 | .val k,cs=>cs.take (size k)
 | .vec _ _,_=>[]
 | .pair a b,cs=>valPos σ a cs ++ valPos σ b (cs.drop (osize a))
 | .obj o,cs=>match cs with
  | c :: _=>(match objOf σ c with
   | some (_,cs')=>valPos σ o cs'
   | none=>[])
  | []=>[]
 | .any,_=>[]
def posL (σ:LS):List (Bool×OK)→List (Bool×List CV)→List CV
 | r :: rs,p :: l=>valPos σ r.2 p.2 ++ posL σ rs l
 | _,_=>[]
def pinCV (σ:LS) (id:Nat):CV:=match σ.at id with
 | some (.row ..)=>.own id
 | _=>.ptr id 0
def pinL (σ:LS):List (Bool×List CV):=σ.pins.map fun id=>(false,[pinCV σ id])
def retE (T:List (TypeId×TI)) (ps:List PK) (rs:List (Bool×OK)) (res:List ResultVar) (σ0:LS):Option (DRO rs (outs ps)) :=
 (retL T σ0 res).bind fun l0=>match σ0.frzL (posL σ0 rs l0 ++ posL σ0 (outs ps) (pinL σ0)) with
  | σ=>(retL T σ res).bind fun l=>settleE σ l fun σ l=>match quoteRs σ rs l,quoteRs σ (outs ps) (pinL σ) with
   | some (y,ids),some (z,ids')=>if nodupB (ids ++ ids')=true then some (joinR rs (outs ps) y z) else none
   | _,_=>none
def kRet (T:List (TypeId×TI)) (ps:List PK) (rs:List (Bool×OK)) (res:List ResultVar) (e:Exit) (σ:LS):Option (DRO rs (outs ps)):=match e with
 | .normal=>retE T ps rs res σ
 | .ret=>retE T ps rs res σ
 | _=>none
def funE (T:List (TypeId×TI)) (ps:List PK) (rs:List (Bool×OK)) (ev:Oper→LS→Nat→(Rec→Option (DRO rs (outs ps)))→Option (DRO rs (outs ps))) (H:HL) (N:Nat) (res:List ResultVar) (body:Code) (n:Nat) (x:DPs ps):Option (DRO rs (outs ps)) :=
 codeE ev N H n body (initLS ps x) (kRet T ps rs res)
theorem pinL_ok {fr:Fr} {σ:LS} {φ:Nat→Option Value} {I:Nat→Prop} {a:Act} {w:World} (hR:R fr σ.toF φ I a w) {l:List (Bool×OK)} {y:DRs l} {ids:List Nat} (hq:quoteRs σ l (pinL σ)=some (y,ids)) (hl:∀ r ∈ l,∃ o,r.2=.obj o ∨ ∃ e k,r.2=.vec e k):all2 (fun p u=>RSV fr.J φ I w p.1 p.2 u) (pinL σ) fr.pins:=by
 have key:∀ (l:List (Bool×OK)) (is:List Nat) (us:List Value) (y:DRs l) (ids:List Nat),(∀ r ∈ l,∃ o,r.2=.obj o ∨ ∃ e k,r.2=.vec e k)→quoteRs σ l (is.map fun id=>(false,[pinCV σ id]))=some (y,ids)→all2 (fun id u=>φ id=some u) is us→all2 (fun p u=>RSV fr.J φ I w p.1 p.2 u) (is.map fun id=>(false,[pinCV σ id])) us:=by
  intro l is
  induction is generalizing l with
  | nil=>intro us y ids _ _ h; cases us with
   | nil=>trivial
   | cons u us=>exact h.elim
  | cons x is ih =>
   intro us y ids hl hq h
   cases us with
   | nil=>exact h.elim
   | cons u us =>
    cases l with
    | nil=>cases hq
    | cons r l =>
     obtain ⟨rg,ro⟩:=r
     have one:∀ (z:OD ro) (ids:List Nat) (hp:List (Nat×Option HV)),quoAll σ ro [pinCV σ x]=some (z,ids,hp)→RSV fr.J φ I w false [pinCV σ x] u:=by
      intro z ids hp hz
      show RV fr.J φ I w (pinCV σ x) u
      have hu:φ x=some u:=h.1
      unfold pinCV at hz ⊢
      split at hz
      ·rename_i e k xs hx
       obtain ⟨v,vs,e1,e2,_⟩:=hR.heap x _ (show σ.toF.heap x=_ from hx)
       rw [hu] at e1; cases e1
       refine ⟨hu,?_⟩
       rcases e2.2 with ⟨rfl,_⟩ | ⟨g,cap,cur,rfl,_⟩ <;> rfl
      ·rename_i hx
       obtain ⟨o,ho⟩:=hl _ List.mem_cons_self
       rcases ho with ho | ⟨e,k,ho⟩
       ·simp only at ho
        subst ho
        unfold quoAll quo at hz
        simp only at hz
        cases hob:objOf σ (.ptr x 0) with
        | none=>rw [hob] at hz; cases hz
        | some q =>
         obtain ⟨id',cs'⟩:=q
         obtain ⟨e3,e4⟩:=objOf_ok hob
         cases e3
         obtain ⟨b,vs,t,e1,_⟩:=hR.heap x _ (show σ.toF.heap x=_ from e4)
         rw [hu] at e1; cases e1
         show pv φ x 0=_
         simp [pv,hu]
       ·simp only at ho
        subst ho
        unfold quoAll quo at hz
        simp only [quoV,isNil] at hz
        cases hz
     cases l with
     | nil =>
      cases is with
      | nil =>
       simp only [List.map_cons,List.map_nil,quoteRs] at hq
       have h0:=ite_some hq rfl
       clear hq
       obtain ⟨hg,hq⟩:=h0
       split at hq
       case h_2=>cases hq
       case h_1 z ids' hp h1 =>
       refine ⟨one z ids' hp h1,?_⟩
       cases us with
       | nil=>trivial
       | cons _ _=>exact h.2.elim
      | cons _ _=>cases hq
     | cons s l =>
      simp only [List.map_cons,quoteRs] at hq
      have h0:=ite_some hq rfl
      clear hq
      obtain ⟨hg,hq⟩:=h0
      split at hq
      case h_2=>cases hq
      case h_1 z ids1 hp y' ids2 h1 h2 =>
      exact ⟨one z ids1 hp h1,ih (s :: l) us y' ids2 (fun r hr=>hl r (List.mem_cons_of_mem _ hr)) h2 h.2⟩
 exact key l σ.pins fr.pins y ids hl hq hR.pin
theorem outs_kind:∀ (ps:List PK),∀ r ∈ outs ps,∃ o,r.2=.obj o ∨ ∃ e k,r.2=.vec e k
 | [],r,h=>by cases h
 | p :: ps,r,h=>by
  cases p <;> simp only [outs] at h <;> first
   | exact outs_kind ps r h
   | exact (List.mem_cons.1 h).elim (fun e=>by subst e; exact ⟨_,.inl rfl⟩) (outs_kind ps r)
   | exact (List.mem_cons.1 h).elim (fun e=>by subst e; exact ⟨.val .unit,.inr ⟨_,_,rfl⟩⟩) (outs_kind ps r)
theorem funE_ok {P : Program} {T : List (TypeId × TI)} (hT : TOK P T) (hm : P.follows .mixedOrders = true) {f : FuncId} {fn : Func} {body : Code} (hf : P.funcs[f]? = some fn) (hb : fn.body = some body) (hname : (fn.name == "runtime.NumGoroutine") = false)
  {ps:List PK} {rs:List (Bool×OK)} (hN:ps.length ≤ fn.ntmps) {ev:Nat→Oper→LS→Nat→(Rec→Option (DRO rs (outs ps)))→Option (DRO rs (outs ps))} (hev:∀ n,EvOK P (ev n)) {H:HL} {F:Nat→DPs ps→Option (DRO rs (outs ps))}
  (hF:∀ n x y,F n x=some y→funE T ps rs (ev n) H fn.ntmps fn.results.toList body n x=some y):ConOK P f ⟨ps,rs,F⟩:=by
 refine ⟨fun args w=>?_,fun n x y hy w J I vals B hlt hBn hBs hpre=>?_⟩
 ·unfold callFunc
  simp only [Sem.run_bind,run_program,Result.andThen_ok,hf,hname,hb,Option.isNone_some,Bool.false_eq_true,if_false,Sem.run_pure]
 ·have hE:=hF n x y hy
  obtain ⟨hl,ψ,hu,hpar⟩:=parL_ok 0 0 hpre
  obtain ⟨henv,hpin⟩:=hpar ψ fun _ _ h=>h
  refine calls_of_wp hf hb ?_
  have hat:∀ id hv,(initLS ps x).toF.heap id=some hv→(parL ps x 0 0).2.1.lookup id=some (some hv):=by
   intro id hv he
   have he:(match (parL ps x 0 0).2.1.lookup id with
    | some x=>x
    | none=>none)=some hv:=he
   cases hq:(parL ps x 0 0).2.1.lookup id with
   | none=>rw [hq] at he; cases he
   | some q=>rw [hq] at he; simp only at he; rw [he]
  have hR:R ⟨w,(· ∈ B),I,J,fn.ntmps,outVals ps vals⟩ (initLS ps x).toF ψ I { tmps:=vals.toArray ++ Array.replicate (fn.ntmps - vals.toArray.size) undef,defers:=[] } w:=by
   constructor
   ·simp [hl]; omega
   ·rfl
   ·intro t av he
    have he:(match (parL ps x 0 0).1.lookup t with
     | some x=>x
     | none=>none)=some av:=he
    cases hq:(parL ps x 0 0).1.lookup t with
    | none=>rw [hq] at he; cases he
    | some q =>
     rw [hq] at he
     simp only at he
     subst he
     obtain ⟨j,v,h1,h2,h3⟩:=henv t av hq
     rw [Nat.zero_add] at h1
     subst h1
     have hj:t < vals.length:=by
      rcases Nat.lt_or_ge t vals.length with h | h
      ·exact h
      ·rw [List.getElem?_eq_none h] at h2; cases h2
     refine ⟨v,?_,h3⟩
     rw [Array.getElem?_append_left (by simpa using hj)]
     simpa using h2
   ·intro id hv he
    obtain ⟨hv',v,e1,e2,e3,e4⟩:=hu.hs ψ J (fun _ _ h=>h) id _ (hat id hv he)
    cases e1
    exact e3
   ·intro id hid
    have hid:pcounts ps ≤ id:=hid
    cases hx:ψ id with
    | none=>rfl
    | some v =>
     have h3:id < 0 + pcounts ps:=(hu.dom id v hx).2
     omega
   ·intro id hv v b he ho hv' hb'
    have hm:=hu.mem id v b hv' hb'
    obtain ⟨h1,h2,h3⟩:=hBs b hm
    exact ⟨h1,h2,.inl hm⟩
   ·intro id id' hv hv' v v' b hne he he' ho ho' hv1 hv2 hb1
    exact hu.inj hBn id id' v v' b hne hv1 hv2 hb1
   ·exact OnlyP.refl _ _
   ·intro b hb; exact .inl hb
   ·exact hlt
   ·exact hpin
   ·have npl:∀ id hv,(initLS ps x).toF.heap id=some hv→hv.plain=true:=fun id hv he=>by
     obtain ⟨hv',v,e1,e2,e3,e4⟩:=hu.hs ψ J (fun _ _ h=>h) id _ (hat id hv he)
     cases e1
     exact e2.2
    refine ⟨fun _ _=>False,?_,?_,?_,?_,?_,?_,?_,fun _ _ h=>h.elim,fun _ _ h=>h.elim,fun _ _ _ _ h=>h.elim⟩
    ·intro id e k0 e1 k1 xs lk he
     have:=npl id _ he
     simp [HV.plain] at this
    ·intro id e k0 e1 k1 xs lk ver st he
     have:=npl id _ he
     simp [HV.plain] at this
    ·intro n r i ver he
     have:=npl n _ he
     simp [HV.plain] at this
    ·intro n r i e1 k1 ys he
     have:=npl n _ he
     simp [HV.plain] at this
    ·intro n r i ver he
     have:=npl n _ he
     simp [HV.plain] at this
    ·intro n r e1 k1 ys he
     have:=npl n _ he
     simp [HV.plain] at this
    ·intro n r i ver he
     have:=npl n _ he
     simp [HV.plain] at this
  refine wp_mono (codeE_ok hm (hev n) (fr:=⟨w,(· ∈ B),I,J,fn.ntmps,outVals ps vals⟩) body _ _ hE ψ I _ w hR) ?_
  rintro e a' w' ⟨σ,φ,I',h1,h2⟩
  have fin:retE T ps rs fn.results.toList σ=some y→a'.defers=[]∧∃ v,(results fn a'.tmps).run P w'=.ok v w'∧Post ⟨ps,rs,F⟩ y I vals B w (.returned v) w':=by
   intro h1
   obtain ⟨l0,_,h1⟩:=Option.bind_eq_some_iff.1 h1
   simp only at h1
   generalize hσ:σ.frzL (posL σ rs l0 ++ posL σ (outs ps) (pinL σ))=σ1 at h1
   obtain ⟨I',h2⟩:=R.frzL (posL σ rs l0 ++ posL σ (outs ps) (pinL σ)) σ I' h2
   rw [hσ] at h2
   obtain ⟨l,h3,h4⟩:=Option.bind_eq_some_iff.1 h1
   obtain ⟨us,h5,h6⟩:=retL_ok hT h2 h3
   obtain ⟨σ1,l,φ,h2,h6,_,h4⟩:=settleE_ok l σ1 φ I' us _ h2 h6 h4
   split at h4
   case h_2=>cases h4
   case h_1 y1 ids1 z1 ids2 hq1 hq2 =>
   have h0:=ite_some h4 rfl
   clear h4
   obtain ⟨hnd,h4⟩:=h0
   cases h4
   obtain ⟨h7,h8⟩:=quoteRs_ok h2 hq1 h6
   obtain ⟨h9,h10⟩:=quoteRs_ok h2 hq2 (pinL_ok h2 hq2 (outs_kind ps))
   have hhas:Has σ1.toF (ids1 ++ ids2):=fun id hid=>by
    rcases List.mem_append.1 hid with hid | hid
    ·exact h8 id hid
    ·exact h10 id hid
   refine ⟨h2.dfr,single us,?_,us,fun b=>I b ∨ I' b,blks φ ids1,blks φ ids2,rfl,?_,?_,h2.only,fun b=>.inl,?_,?_,?_⟩
   ·rw [results_eq,Sem.run_bind,Array.mapM_eq_mapM_toList,Sem.run_map,h5]
    simp only [Result.andThen_ok,Sem.run_pure]
    congr 1
    match us with
    | []=>rfl
    | [u]=>rfl
    | u :: v :: us=>simp [single]
   ·show PostL _ w' rs (splitR rs (outs ps) (joinR rs (outs ps) y1 z1)).1 us _
    rw [split_join]
    exact h7.grow fun b=>.inr
   ·show PostL _ w' (outs ps) (splitR rs (outs ps) (joinR rs (outs ps) y1 z1)).2 (outVals ps vals) _
    rw [split_join]
    exact h9.grow fun b=>.inr
   ·rintro b (hb | hb)
    ·exact ⟨.inl hb,Nat.lt_of_lt_of_le (hlt b (.inl hb)) h2.only.size⟩
    ·exact ⟨h2.imm b hb,h2.lt b (.inl hb)⟩
   ·rw [← blks_append]
    exact h2.nodup (nodupB_ok hnd) hhas
   ·intro b hb
    rw [← blks_append] at hb
    obtain ⟨id,h11,v,h12,h13⟩:=mem_blks hb
    obtain ⟨hv,h14,h15⟩:=hhas id h11
    obtain ⟨h16,_,h17⟩:=h2.own id hv v b h14 h15 h12 h13
    refine ⟨?_,h17⟩
    rintro (hb' | hb')
    ·rcases h17 with h18 | h18
     ·exact (hBs b h18).1 hb'
     ·have h18:w.heap.size ≤ b:=h18
      have:=hlt b (.inl hb')
      omega
    ·exact h16 hb'
  cases e with
  | normal=>exact fin h1
  | ret=>exact fin h1
  | exit id=>cases h1
  | goto l=>cases h1
  | panic ch=>cases h1
  | outgrown=>cases h1
end Go.Ev
