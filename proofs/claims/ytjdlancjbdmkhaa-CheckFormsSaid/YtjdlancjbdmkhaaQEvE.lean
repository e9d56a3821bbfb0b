/- A checked evaluator, part E: addresses, fields, elements, lengths. -/
import Derived.Test.YtjdlancjbdmkhaaQEvD
namespace Go.Ev
open Go.RowKit
set_option linter.unusedVariables false
section
variable {ρ:Type}
def unV (op:UnOp) (v:Value):Option Value :=
 match op,v with
 | .neg,.int k n=>some (.int k (k.wrap (0 - n)))
 | .not,.bool b=>some (.bool (!b))
 | _,_=>none
def opUn (o:Oper) (σ:LS) (op:UnOp) (x:Operand) (k:Rec→Option ρ):Option ρ :=
 match opd σ x with
 | some (.sv false [.lit u],tl)=>match unV op u with
  | some r=>k (valK o tl [] (.sv false [.lit r]))
  | none=>none
 | _=>none
theorem opUn_ok {P:Program} {o:Oper} {σ:LS} {op:UnOp} {t:TypeId} {x:Operand} {base:Nat} {k:Rec→Option ρ} {z:ρ} (ho:o.op=.unOp op t x) (h:opUn o σ op x k=some z):∃ r,Good P o σ base r∧k r=some z:=by
 unfold opUn at h
 split at h
 case h_2=>cases h
 case h_1 u tl hx =>
 split at h
 case h_2=>cases h
 case h_1 r hr =>
 refine ⟨_,valK_ok (opd_temps hx) (by simp) fun fr σ' φ I act w hR hv _=>?_,h⟩
 have h1:act.eval x=u:=opd_eval hx hR hv
 refine ⟨r,?_,rfl⟩
 unfold execOp
 simp only [ho,h1]
 unfold unV at hr
 split at hr
 ·simp only [Option.some.injEq] at hr; subst hr; simp [Op.unary,Op.intArith]
 ·simp only [Option.some.injEq] at hr; subst hr; simp [Op.unary]
 ·cases hr
def opConv (T:List (TypeId×TI)) (o:Oper) (σ:LS) (s d:TypeId) (x:Operand) (k:Rec→Option ρ):Option ρ :=
 match T.lookup s,T.lookup d,opd σ x with
 | some si,some di,some (.sv false [.lit (.int _ n)],tl)=>match di.kind with
  | .int kk=>k (valK o tl [] (.sv false [.lit (.int kk (kk.wrap n))]))
  | _=>none
 | _,_,_=>none
theorem opConv_ok {P:Program} {T:List (TypeId×TI)} (hT:TOK P T) {o:Oper} {σ:LS} {s d:TypeId} {x:Operand} {base:Nat} {k:Rec→Option ρ} {z:ρ} (ho:o.op=.convert s d x) (h:opConv T o σ s d x k=some z):∃ r,Good P o σ base r∧k r=some z:=by
 unfold opConv at h
 split at h
 case h_2=>cases h
 case h_1 si di kn n tl hsi hdi hx =>
 split at h
 case h_2=>cases h
 case h_1 kk hkk =>
 obtain ⟨ds,hds,_⟩:=(hT s si hsi).under
 obtain ⟨dd,hdd,hk⟩:=(hT d di hdi).under
 rw [hkk] at hk
 simp only [TK.ok] at hk
 subst hk
 refine ⟨_,valK_ok (opd_temps hx) (by simp) fun fr σ' φ I act w hR hv _=>?_,h⟩
 have h1:act.eval x=.int kn n:=opd_eval hx hR hv
 refine ⟨.int kk (kk.wrap n),?_,rfl⟩
 unfold execOp
 simp only [ho,h1,convert,Sem.run_bind,run_underlying hds,run_underlying hdd,Result.andThen_ok]
 cases ds <;> rfl
def opNil (o:Oper) (σ:LS) (x:Operand) (k:Rec→Option ρ):Option ρ :=
 match opd σ x with
 | some (.sv false [c],tl)=>if isPtr c then k (valK o tl [] (.sv false [c])) else none
 | _=>none
theorem opNil_ok {P:Program} {o:Oper} {σ:LS} {x:Operand} {base:Nat} {k:Rec→Option ρ} {z:ρ} (ho:o.op=.nilCheck x) (h:opNil o σ x k=some z):∃ r,Good P o σ base r∧k r=some z:=by
 unfold opNil at h
 split at h
 case h_2=>cases h
 case h_1 c tl hx =>
 obtain ⟨hc,h⟩:=ite_some h rfl
 refine ⟨_,valK_ok (opd_temps hx) (by simp) fun fr σ' φ I act w hR hv _=>?_,h⟩
 have h1:RV fr.J φ I w c (act.eval x):=opd_eval hx hR hv
 obtain ⟨q,h2⟩:=isPtr_some hc h1
 refine ⟨act.eval x,?_,h1⟩
 unfold execOp
 simp only [ho,h2]
 rfl
def moved (c:CV) (n:Nat):Option CV :=
 match c with
 | .ptr id off=>some (.ptr id (off + n))
 | .iptr k x off=>some (.iptr k x (off + n))
 | .eptr id sz i off=>some (.eptr id sz i (off + n))
 | _=>none
theorem moved_ok {J I:Nat→Prop} {φ:Nat→Option Value} {w:World} {c c':CV} {n:Nat} (h:moved c n=some c') {v:Value} (hv:RV J φ I w c v):∃ b o,v=.pointer (some ⟨b,o,none⟩)∧RV J φ I w c' (.pointer (some ⟨b,o + n,none⟩)):=by
 cases c <;> simp only [moved,Option.some.injEq] at h <;> try (cases h; done)
 case ptr id off =>
  subst h
  simp only [RV,RC,pv] at hv ⊢
  split at hv
  ·rename_i a ha
   simp only [Option.some.injEq] at hv
   subst hv
   exact ⟨a.block,off,rfl,rfl⟩
  ·cases hv
 case iptr k x off =>
  subst h
  obtain ⟨b,o,vs,rfl,h1,h2,h3⟩:=hv
  exact ⟨b,o + off,rfl,b,o,vs,by rw [Nat.add_assoc],h1,h2,h3⟩
 case eptr id sz i off =>
  subst h
  obtain ⟨b,m,c,h1,rfl,h2,h3⟩:=hv
  exact ⟨b,_,rfl,b,m,c,h1,by rw [Nat.add_assoc],h2,h3⟩
def opFieldAddr (T:List (TypeId×TI)) (o:Oper) (σ:LS) (t:TypeId) (x:Operand) (f:Nat) (k:Rec→Option ρ):Option ρ :=
 match T.lookup t,opd σ x with
 | some ti,some (.sv false [c],tl)=>match ti.kind with
  | .struct fl=>match fl[f]? with
   | some (off,sz,_)=>if sz=0 then none else match moved c off with
    | some c'=>k (valK o tl [] (.sv false [c']))
    | none=>none
   | none=>none
  | _=>none
 | _,_=>none
theorem field_at {P:Program} {fl:List (Nat×Nat×Bool)} {d:TypeDesc} (hk:TK.ok P (.struct fl) d) {f off sz:Nat} {g:Bool} (hf:fl[f]?=some (off,sz,g)) :
  ∃ fs fd it ft,d=.struct fs∧fs[f]?=some fd∧fd.offset=off∧P.info? fd.type=some it∧it.size=sz∧P.underlying fd.type=some ft∧aggB P fd.type=g:=by
 obtain ⟨fs,rfl,h⟩:=hk
 have h1:=congrArg (fun l=>l[f]?) h
 simp only [List.getElem?_map,hf,Option.map_some] at h1
 cases hq:fs.toList[f]? with
 | none=>rw [hq] at h1; cases h1
 | some fd =>
  rw [hq] at h1
  simp only [Option.map_some,Option.some.injEq,Prod.mk.injEq] at h1
  obtain ⟨h2,h3,h4,h5⟩:=h1
  cases hi:P.info? fd.type with
  | none=>rw [hi] at h3; cases h3
  | some it =>
   rw [hi] at h3
   simp only [Option.map_some,Option.some.injEq] at h3
   obtain ⟨ft,hft⟩:=Option.isSome_iff_exists.1 h4
   exact ⟨fs,fd,it,ft,rfl,by simpa using hq,h2,hi,h3,hft,h5⟩
theorem opFieldAddr_ok {P:Program} {T:List (TypeId×TI)} (hT:TOK P T) {o:Oper} {σ:LS} {t:TypeId} {x:Operand} {f base:Nat} {k:Rec→Option ρ} {z:ρ} (ho:o.op=.fieldAddr t x f) (h:opFieldAddr T o σ t x f k=some z):∃ r,Good P o σ base r∧k r=some z:=by
 unfold opFieldAddr at h
 split at h
 case h_2=>cases h
 case h_1 ti c tl hti hx =>
 split at h
 case h_2=>cases h
 case h_1 fl hfl =>
 split at h
 case h_2=>cases h
 case h_1 off sz g hf =>
 by_cases hs:sz=0
 ·rw [if_pos hs] at h; cases h
 rw [if_neg hs] at h
 split at h
 case h_2=>cases h
 case h_1 c' hc' =>
 obtain ⟨d,hd,hk⟩:=(hT t ti hti).under
 rw [hfl] at hk
 obtain ⟨fs,fd,it,ft,rfl,hfd,hoff,hit,hsz,_,_⟩:=field_at hk hf
 refine ⟨_,valK_ok (opd_temps hx) (by simp) fun fr σ' φ I act w hR hv _=>?_,h⟩
 have h1:RV fr.J φ I w c (act.eval x):=opd_eval hx hR hv
 obtain ⟨b,q,h2,h3⟩:=moved_ok hc' h1
 refine ⟨_,?_,h3⟩
 have hadd:(⟨b,q,none⟩:Addr).add off=⟨b,q + off,none⟩:=by unfold Addr.add; split <;> simp_all
 unfold execOp
 simp only [ho,h2,Instr.fieldAt,Sem.run_bind,run_underlying hd,Result.andThen_ok,hfd,Instr.sureAddr,Sem.run_pure,fieldPlace,run_sizeOf hit,hsz,hs,if_false,hoff,hadd]
def opField (T:List (TypeId×TI)) (o:Oper) (σ:LS) (t:TypeId) (x:Operand) (f:Nat) (k:Rec→Option ρ):Option ρ :=
 match T.lookup t,opd σ x with
 | some ti,some (.sv true cs,tl)=>match ti.kind with
  | .struct fl=>match fl[f]? with
   | some (off,sz,true)=>k (valK o tl [] (.sv true ((cs.drop off).take sz)))
   | some (off,_,false)=>match cs[off]? with
    | some c=>k (valK o tl [] (.sv false [c]))
    | none=>none
   | none=>none
  | _=>none
 | _,_=>none
theorem extract_toArray (vs:List Value) (a n:Nat):vs.toArray.extract a (a + n)=((vs.drop a).take n).toArray:=by
 simp
theorem opField_ok {P:Program} {T:List (TypeId×TI)} (hT:TOK P T) {o:Oper} {σ:LS} {t:TypeId} {x:Operand} {f base:Nat} {k:Rec→Option ρ} {z:ρ} (ho:o.op=.field t x f) (h:opField T o σ t x f k=some z):∃ r,Good P o σ base r∧k r=some z:=by
 unfold opField at h
 split at h
 case h_2=>cases h
 case h_1 ti cs tl hti hx =>
 split at h
 case h_2=>cases h
 case h_1 fl hfl =>
 obtain ⟨d,hd,hk⟩:=(hT t ti hti).under
 rw [hfl] at hk
 split at h
 case h_3=>cases h
 case h_1 off sz hf =>
  obtain ⟨fs,fd,it,ft,rfl,hfd,hoff,hit,hsz,hft,hg⟩:=field_at hk hf
  refine ⟨_,valK_ok (opd_temps hx) (by simp) fun fr σ' φ I act w hR hv _=>?_,h⟩
  obtain ⟨vs,h1,h2⟩:RA fr.J φ I w (.sv true cs) (act.eval x):=opd_eval hx hR hv
  refine ⟨.agg ((vs.drop off).take sz).toArray,?_,_,rfl,(h2.drop off).take sz⟩
  unfold execOp
  simp only [ho,h1,Instr.field,Sem.run_bind,run_underlying hd,Result.andThen_ok,hfd,asAgg,Sem.run_pure,part,run_isAgg hft,hg,if_true,run_sizeOf hit,hsz,hoff,extract_toArray]
 case h_2 off sz hf =>
  obtain ⟨fs,fd,it,ft,rfl,hfd,hoff,hit,hsz,hft,hg⟩:=field_at hk hf
  split at h
  case h_2=>cases h
  case h_1 c hc =>
  refine ⟨_,valK_ok (opd_temps hx) (by simp) fun fr σ' φ I act w hR hv _=>?_,h⟩
  obtain ⟨vs,h1,h2⟩:RA fr.J φ I w (.sv true cs) (act.eval x):=opd_eval hx hR hv
  obtain ⟨v,hv1,hv2⟩:=h2.get hc
  refine ⟨v,?_,hv2⟩
  have:vs.toArray[off]?=some v:=by simpa using hv1
  unfold execOp
  simp only [ho,h1,Instr.field,Sem.run_bind,run_underlying hd,Result.andThen_ok,hfd,asAgg,Sem.run_pure,part,run_isAgg hft,hg,hoff,this,Bool.false_eq_true,if_false]
def opExtract (o:Oper) (σ:LS) (x:Operand) (i:Nat) (k:Rec→Option ρ):Option ρ :=
 match opd σ x with
 | some (.tup l,tl)=>match l[i]? with
  | some (g,cs)=>k (valK o tl [] (.sv g cs))
  | none=>none
 | _=>none
theorem opExtract_ok {P:Program} {o:Oper} {σ:LS} {x:Operand} {i base:Nat} {k:Rec→Option ρ} {z:ρ} (ho:o.op=.extract x i) (h:opExtract o σ x i k=some z):∃ r,Good P o σ base r∧k r=some z:=by
 unfold opExtract at h
 split at h
 case h_2=>cases h
 case h_1 l tl hx =>
 split at h
 case h_2=>cases h
 case h_1 g cs hl =>
 refine ⟨_,valK_ok (opd_temps hx) (by simp) fun fr σ' φ I act w hR hv _=>?_,h⟩
 obtain ⟨vs,h1,h2⟩:RA fr.J φ I w (.tup l) (act.eval x):=opd_eval hx hR hv
 obtain ⟨v,hv1,hv2⟩:=h2.get hl
 refine ⟨v,?_,hv2⟩
 have:vs.toArray[i]?=some v:=by simpa using hv1
 unfold execOp
 simp only [ho,h1,Instr.extract,this]
 rfl
def sliceOf (σ:LS):CV→Option ((e:TypeId)×(k:Ty)×List (D k)×List (Nat×Option HV)×Option Nat)
 | .imm e k xs=>some ⟨e,k,xs,[],none⟩
 | .own id=>match σ.at id with
  | some (.row e k xs)=>some ⟨e,k,xs,[(id,some (.row e k xs))],some id⟩
  | some (.frozen e k xs)=>some ⟨e,k,xs,[(id,some (.frozen e k xs))],none⟩
  | _=>none
 | _=>none
theorem sliceOf_hp {σ:LS} {c:CV} {e:TypeId} {k:Ty} {xs:List (D k)} {hp:List (Nat×Option HV)} {oi:Option Nat} (h:sliceOf σ c=some ⟨e,k,xs,hp,oi⟩):∀ p ∈ hp,σ.at p.1=p.2:=by
 cases c <;> simp only [sliceOf] at h <;> try (cases h; done)
 case imm=>simp only [Option.some.injEq,Sigma.mk.injEq] at h; obtain ⟨rfl,h⟩:=h; cases h; simp
 case own id =>
  cases hh:σ.at id with
  | none=>rw [hh] at h; cases h
  | some hv =>
   rw [hh] at h
   cases hv with
   | cells cs=>cases h
   | buf e k bs=>cases h
   | nest e k0 e1 k1 xs lk=>cases h
   | lock r ver st=>cases h
   | peek r i ver=>cases h
   | pend r e1 k1 ys=>cases h
   | map xs=>cases h
   | row e k xs=>cases h; simpa using hh
   | frozen e k xs=>cases h; simpa using hh
theorem sliceOf_own {σ:LS} {c:CV} {e:TypeId} {k:Ty} {xs:List (D k)} {hp:List (Nat×Option HV)} {id:Nat} (h:sliceOf σ c=some ⟨e,k,xs,hp,some id⟩):(id,some (.row e k xs)) ∈ hp:=by
 cases c <;> simp only [sliceOf] at h <;> try (cases h; done)
 case own id =>
  cases hh:σ.at id with
  | none=>rw [hh] at h; cases h
  | some hv =>
   rw [hh] at h
   cases hv with
   | cells cs=>cases h
   | buf e k bs=>cases h
   | nest e k0 e1 k1 xs lk=>cases h
   | lock r ver st=>cases h
   | peek r i ver=>cases h
   | pend r e1 k1 ys=>cases h
   | map xs=>cases h
   | row e k xs=>cases h; exact List.mem_cons_self
   | frozen e k xs=>cases h
theorem sliceOf_ok {σ:LS} {c:CV} {e:TypeId} {k:Ty} {xs:List (D k)} {hp:List (Nat×Option HV)} {oi:Option Nat} (h:sliceOf σ c=some ⟨e,k,xs,hp,oi⟩) {fr:Fr} {σ':FS} {φ:Nat→Option Value} {I:Nat→Prop} {a:Act} {w:World}
  (hR:R fr σ' φ I a w) (hv:∀ p ∈ hp,σ'.heap p.1=p.2) {u:Value} (hu:RV fr.J φ I w c u) :
  ∃ ad cap us,u=.slice ad xs.length cap∧xs.length ≤ cap∧lst (RdC I w k) xs us∧(xs=[] ∨ ∃ b o,ad=some ⟨b,o,none⟩∧(∀ j v,us[j]?=some v→w.cell? ⟨b,o + j,none⟩=some v)∧(oi=none→I b)∧∀ id,oi=some id→o=0∧φ id=some u):=by
 have fin:∀ (hl:RdC I w (.seq e k) xs [u]) (q:Prop),∃ ad cap us,u=.slice ad xs.length cap∧xs.length ≤ cap∧lst (RdC I w k) xs us∧(xs=[] ∨ ∃ b o,ad=some ⟨b,o,none⟩∧(∀ j v,us[j]?=some v→w.cell? ⟨b,o + j,none⟩=some v)∧I b):=by
  intro hl _
  obtain ⟨ad,cap,e1,h1,h2⟩:=hl
  simp only [List.cons.injEq,and_true] at e1
  rcases h2 with h2 | ⟨b,o,us,e2,hb,h3,h4⟩
  ·exact ⟨ad,cap,[],e1,h1,by rw [show xs=[] from h2]; exact rfl,.inl h2⟩
  ·exact ⟨ad,cap,us,e1,h1,h3,.inr ⟨b,o,e2,h4,hb⟩⟩
 cases c <;> simp only [sliceOf] at h <;> try (cases h; done)
 case imm e' k' xs' =>
  cases h
  obtain ⟨ad,cap,us,h1,h2,h3,h4⟩:=fin hu True
  exact ⟨ad,cap,us,h1,h2,h3,h4.imp id fun ⟨b,o,h5,h6,h7⟩=>⟨b,o,h5,h6,fun _=>h7,fun _ h=>by cases h⟩⟩
 case own id =>
  cases hh:σ.at id with
  | none=>rw [hh] at h; cases h
  | some hv0 =>
   rw [hh] at h
   cases hv0 with
   | cells cs=>cases h
   | buf e k bs=>cases h
   | nest e k0 e1 k1 xs lk=>cases h
   | lock r ver st=>cases h
   | peek r i ver=>cases h
   | pend r e1 k1 ys=>cases h
   | map xs=>cases h
   | row e' k' xs' =>
    cases h
    obtain ⟨v,vs,h1,ho,hl⟩:=hR.heap id _ (hv _ List.mem_cons_self)
    have hu:φ id=some u:=hu.1
    rw [hu] at h1; cases h1
    rcases ho.2 with ⟨h1,h0⟩ | ⟨g,cap,cur,h1,_,hg,hn,_,hcs,htk⟩
    ·refine ⟨none,0,vs,by rw [h1,h0],by omega,hl,.inl (List.eq_nil_of_length_eq_zero h0)⟩
    ·refine ⟨_,cap,vs,h1,hn,hl,.inr ⟨g,0,rfl,fun j v hj=>?_,(fun h=>by cases h),fun id' h=>by cases h; exact ⟨rfl,hu⟩⟩⟩
     rw [Nat.zero_add,cell_of_row w g j cur _ (0,0) hg]
     rw [← htk,List.getElem?_take] at hj
     split at hj
     ·simpa using hj
     ·cases hj
   | frozen e' k' xs' =>
    cases h
    obtain ⟨v,h1,hl⟩:=hR.heap id _ (hv _ List.mem_cons_self)
    have hu:φ id=some u:=hu.1
    rw [hu] at h1; cases h1
    obtain ⟨ad,cap,us,h2,h3,h4,h5⟩:=fin hl True
    exact ⟨ad,cap,us,h2,h3,h4,h5.imp (fun h=>h) fun ⟨b,o,h6,h7,h8⟩=>⟨b,o,h6,h7,fun _=>h8,fun _ h=>by cases h⟩⟩
def intLit:AV→Option Int
 | .sv false [.lit (.int _ n)]=>some n
 | _=>none
theorem intLit_eq {av:AV} {n:Int} (h:intLit av=some n):∃ k,av=.sv false [.lit (.int k n)]:=by
 unfold intLit at h
 split at h
 ·simp only [Option.some.injEq] at h; subst h; exact ⟨_,rfl⟩
 ·cases h
def opIndexAddr (T:List (TypeId×TI)) (o:Oper) (σ:LS) (t:TypeId) (x y:Operand) (kk:Rec→Option ρ):Option ρ :=
 match T.lookup t,opd2 σ x y with
 | some ti,some (.sv false [c],iv,tl)=>match ti.kind,intLit iv,sliceOf σ c with
  | .slice e',some i,some ⟨e,k,xs,hp,oi⟩=>match T.lookup e with
   | some ei=>if e'=e∧ei.sz=size k then
     (if 0 ≤ i∧i < (xs.length:Int) then
      (match oi with
       | some id=>kk (valK o tl hp (.sv false [.eptr id (size k) i 0]))
       | none=>kk (valK o tl hp (.sv false [.iptr k (rd xs i) 0])))
     else none) else none
   | none=>none
  | _,_,_=>none
 | _,_=>none
theorem opIndexAddr_ok {P:Program} {T:List (TypeId×TI)} (hT:TOK P T) {o:Oper} {σ:LS} {t:TypeId} {x y:Operand} {base:Nat} {kk:Rec→Option ρ} {z:ρ} (ho:o.op=.indexAddr t x y) (h:opIndexAddr T o σ t x y kk=some z):∃ r,Good P o σ base r∧kk r=some z:=by
 unfold opIndexAddr at h
 split at h
 case h_2=>cases h
 case h_1 ti c iv tl hti hx =>
 split at h
 case h_2=>cases h
 case h_1 e' i e k xs hp oi hkind hi hsl =>
 split at h
 case h_2=>cases h
 case h_1 ei hei =>
 have h0:=ite_some h rfl
 clear h
 obtain ⟨⟨rfl,hsz⟩,h⟩:=h0
 have h0:=ite_some h rfl
 clear h
 obtain ⟨⟨hi0,hi1⟩,h⟩:=h0
 obtain ⟨d,hd,hk⟩:=(hT t ti hti).under
 rw [hkind] at hk
 simp only [TK.ok] at hk
 subst hk
 obtain ⟨it,zz,hinfo,hisz,_⟩:=(hT e' ei hei).info
 obtain ⟨ik,rfl⟩:=intLit_eq hi
 have hin:i.toNat < xs.length:=by omega
 have run:∀ (fr:Fr) (σ':FS) (φ:Nat→Option Value) (I:Nat→Prop) (act:Act) (w:World),R fr σ' φ I act w→(∀ p ∈ tl,σ'.env p.1=some p.2)→(∀ p ∈ hp,σ'.heap p.1=p.2) →
   ∃ b o' us u cap,(execOp act.eval o).run P w=.ok (.value (.pointer (some ⟨b,o' + i.toNat * size k,none⟩))) w∧act.eval x=u∧u=.slice (some ⟨b,o',none⟩) xs.length cap∧lst (RdC I w k) xs us∧(∀ j v,us[j]?=some v→w.cell? ⟨b,o' + j,none⟩=some v)∧(oi=none→I b)∧∀ id,oi=some id→o'=0∧φ id=some u:=by
  intro fr σ' φ I act w hR hv hh
  obtain ⟨h1,h2⟩:=opd2_eval hx hR hv
  obtain ⟨ad,cap,us,h3,h4,h5,h6⟩:=sliceOf_ok hsl hR hh (show RV fr.J φ I w c (act.eval x) from h1)
  have h2:act.eval y=.int ik i:=h2
  rcases h6 with h6 | ⟨b,o',rfl,h7,h8,h9⟩
  ·subst h6; simp at hin
  ·refine ⟨b,o',us,_,cap,?_,rfl,h3,h5,h7,h8,h9⟩
   have hadd:(⟨b,o',none⟩:Addr).add (i.toNat * size k)=⟨b,o' + i.toNat * size k,none⟩:=by unfold Addr.add; split <;> simp_all
   unfold execOp
   simp only [ho,h3,h2,Instr.indexAt,asIntOf,Sem.run_bind,run_underlying hd,Result.andThen_ok,Sem.run_pure,hi0,hi1,and_self,if_true,run_sizeOf hinfo,hisz,hsz,hadd]
 cases oi with
 | none =>
  refine ⟨_,valK_ok (opd2_temps hx) (sliceOf_hp hsl) fun fr σ' φ I act w hR hv hh=>?_,h⟩
  obtain ⟨b,o',us,u,cap,h1,h2,h3,h4,h5,h6,_⟩:=run fr σ' φ I act w hR hv hh
  refine ⟨_,h1,?_⟩
  obtain ⟨vs,h7,h8⟩:=lst.at (n:=size k) (fun _ _ h=>h.length) h4 i.toNat hin
  rw [← rd_eq hin] at h7
  refine ⟨b,o' + i.toNat * size k,vs,rfl,.inl (h6 rfl),h7,fun j u' hj=>?_⟩
  have hjl:j < size k:=by
   have:=h7.length
   rcases Nat.lt_or_ge j vs.length with h | h
   ·omega
   ·rw [List.getElem?_eq_none h] at hj; cases hj
  rw [Nat.add_assoc]
  exact h5 _ _ (by rw [h8 j hjl,hj])
 | some id =>
  refine ⟨_,valK_ok (opd2_temps hx) (sliceOf_hp hsl) fun fr σ' φ I act w hR hv hh=>?_,h⟩
  obtain ⟨b,o',us,u,cap,h1,h2,h3,h4,h5,_,h6⟩:=run fr σ' φ I act w hR hv hh
  obtain ⟨rfl,h7⟩:=h6 id rfl
  refine ⟨_,h1,?_⟩
  rw [h3] at h7
  exact ⟨b,_,cap,h7,by simp,hi0,hin⟩
def opIndex (T:List (TypeId×TI)) (o:Oper) (σ:LS) (t:TypeId) (x y:Operand) (kk:Rec→Option ρ):Option ρ :=
 match T.lookup t,opd2 σ x y with
 | some ti,some (.sv false [.lit (.string s)],iv,tl)=>match ti.kind,intLit iv with
  | .str,some i=>if 0 ≤ i∧i < (s.size:Int) then kk (valK o tl [] (.sv false [.lit (.int .u8 ((s.data.getD i.toNat 0).toNat:Nat))])) else none
  | _,_=>none
 | _,_=>none
theorem opIndex_ok {P:Program} {T:List (TypeId×TI)} (hT:TOK P T) {o:Oper} {σ:LS} {t:TypeId} {x y:Operand} {base:Nat} {kk:Rec→Option ρ} {z:ρ} (ho:o.op=.index t x y) (h:opIndex T o σ t x y kk=some z):∃ r,Good P o σ base r∧kk r=some z:=by
 unfold opIndex at h
 split at h
 case h_2=>cases h
 case h_1 ti s iv tl hti hx =>
 split at h
 case h_2=>cases h
 case h_1 i hkind hi =>
 have h0:=ite_some h rfl
 clear h
 obtain ⟨⟨hi0,hi1⟩,h⟩:=h0
 obtain ⟨d,hd,hk⟩:=(hT t ti hti).under
 rw [hkind] at hk
 simp only [TK.ok] at hk
 subst hk
 obtain ⟨ik,rfl⟩:=intLit_eq hi
 refine ⟨_,valK_ok (opd2_temps hx) (by simp) fun fr σ' φ I act w hR hv hh=>?_,h⟩
 obtain ⟨h1,h2⟩:=opd2_eval hx hR hv
 have h1:act.eval x=.string s:=h1
 have h2:act.eval y=.int ik i:=h2
 refine ⟨_,?_,rfl⟩
 have hin:i.toNat < s.size:=by omega
 have hin2:i.toNat < s.data.size:=hin
 have hget:s[i.toNat]?=some (s.data.getD i.toNat 0):=by
  rw [getElem?_pos s i.toNat hin]
  simp only [Array.getD,hin2,dite_true]
  rfl
 unfold execOp
 simp only [ho,h1,h2,Instr.index,asIntOf,Sem.run_bind,run_underlying hd,Result.andThen_ok,Sem.run_pure,hi0,if_true,hget]
def opLen (T:List (TypeId×TI)) (o:Oper) (σ:LS) (t:TypeId) (x:Operand) (kk:Rec→Option ρ):Option ρ :=
 match T.lookup t,opd σ x with
 | some ti,some (.sv false [.lit (.string s)],tl)=>match ti.kind with
  | .str=>kk (valK o tl [] (.sv false [.lit (.int .i64 (s.size:Nat))]))
  | _=>none
 | some ti,some (.sv false [.lit (.slice a 0 cp)],tl)=>match ti.kind with
  | .slice _=>kk (valK o tl [] (.sv false [.lit (.int .i64 0)]))
  | _=>none
 | some ti,some (.sv false [c],tl)=>match ti.kind,sliceOf σ c with
  | .slice _,some ⟨_,_,xs,hp,_⟩=>kk (valK o tl hp (.sv false [.lit (.int .i64 (xs.length:Nat))]))
  | _,_=>none
 | _,_=>none
theorem opLen_ok {P:Program} {T:List (TypeId×TI)} (hT:TOK P T) {o:Oper} {σ:LS} {t:TypeId} {x:Operand} {base:Nat} {kk:Rec→Option ρ} {z:ρ} (ho:o.op=.call { callee:=.builtin .len,args:=#[x],argTypes:=#[t] }) (h:opLen T o σ t x kk=some z):∃ r,Good P o σ base r∧kk r=some z:=by
 unfold opLen at h
 split at h
 case h_4=>cases h
 case h_1 ti s tl hti hx =>
  split at h
  case h_2=>cases h
  case h_1 hkind =>
  obtain ⟨d,hd,hk⟩:=(hT t ti hti).under
  rw [hkind] at hk
  simp only [TK.ok] at hk
  subst hk
  refine ⟨_,valK_ok (opd_temps hx) (by simp) fun fr σ' φ I act w hR hv hh=>?_,h⟩
  have h1:act.eval x=.string s:=opd_eval hx hR hv
  refine ⟨_,?_,rfl⟩
  unfold execOp
  simp [ho,resolve,h1,invoke,builtin,Builtin.len_,run_underlying hd,goInt]
 case h_2 ti ad cp tl hti hx =>
  split at h
  case h_2=>cases h
  case h_1 e hkind =>
  obtain ⟨d,hd,hk⟩:=(hT t ti hti).under
  rw [hkind] at hk
  simp only [TK.ok] at hk
  subst hk
  refine ⟨_,valK_ok (opd_temps hx) (by simp) fun fr σ' φ I act w hR hv hh=>?_,h⟩
  have h1:act.eval x=.slice ad 0 cp:=opd_eval hx hR hv
  refine ⟨.int .i64 0,?_,rfl⟩
  unfold execOp
  simp [ho,resolve,h1,invoke,builtin,Builtin.len_,run_underlying hd,goInt]
 case h_3 ti c tl h3 h4 hti hx =>
  split at h
  case h_2=>cases h
  case h_1 e e' k xs hp oi hkind hsl =>
  obtain ⟨d,hd,hk⟩:=(hT t ti hti).under
  rw [hkind] at hk
  simp only [TK.ok] at hk
  subst hk
  refine ⟨_,valK_ok (opd_temps hx) (sliceOf_hp hsl) fun fr σ' φ I act w hR hv hh=>?_,h⟩
  have h1:=opd_eval hx hR hv
  obtain ⟨ad,cap,us,h3,_⟩:=sliceOf_ok hsl hR hh (show RV fr.J φ I w c (act.eval x) from h1)
  refine ⟨.int .i64 xs.length,?_,rfl⟩
  unfold execOp
  simp [ho,resolve,h3,invoke,builtin,Builtin.len_,run_underlying hd,goInt]
def opMinMax (o:Oper) (σ:LS) (mx:Bool) (x y:Operand) (kk:Rec→Option ρ):Option ρ :=
 match opd2 σ x y with
 | some (.sv false [.lit (.int k a)],.sv false [.lit (.int _ b)],tl)=>kk (valK o tl [] (.sv false [.lit (.int k (if (if mx then a < b else b < a) then b else a))]))
 | _=>none
theorem opMinMax_ok {P:Program} {o:Oper} {σ:LS} {mx:Bool} {ts:Array TypeId} {x y:Operand} {base:Nat} {kk:Rec→Option ρ} {z:ρ} (ho:o.op=.call { callee:=.builtin (if mx then .max else .min),args:=#[x,y],argTypes:=ts }) (h:opMinMax o σ mx x y kk=some z):∃ r,Good P o σ base r∧kk r=some z:=by
 unfold opMinMax at h
 split at h
 case h_2=>cases h
 case h_1 k a k' b tl hx =>
 refine ⟨_,valK_ok (opd2_temps hx) (by simp) fun fr σ' φ I act w hR hv hh=>?_,h⟩
 obtain ⟨h1,h2⟩:=opd2_eval hx hR hv
 have h1:act.eval x=.int k a:=h1
 have h2:act.eval y=.int k' b:=h2
 refine ⟨_,?_,rfl⟩
 unfold execOp
 cases mx <;> simp [ho,resolve,h1,h2,invoke,builtin,Builtin.min_,Builtin.max_,Builtin.min2,Builtin.max2]
def opMakeFunc (o:Oper) (σ:LS) (f:FuncId) (caps:Array Operand) (kk:Rec→Option ρ):Option ρ :=
 match caps.toList with
 | []=>kk (valK o [] [] (.sv false [.clo f []]))
 | [a]=>match opd σ a with
  | some (.sv false [.ptr i m],tl)=>kk (valK o tl [] (.sv false [.clo f [.ptr i m]]))
  | _=>none
 | [a,b]=>match opd2 σ a b with
  | some (.sv false [.ptr i m],.sv false [.ptr j n],tl)=>kk (valK o tl [] (.sv false [.clo f [.ptr i m,.ptr j n]]))
  | _=>none
 | _=>none
theorem opMakeFunc_ok {P:Program} {o:Oper} {σ:LS} {f:FuncId} {caps:Array Operand} {base:Nat} {kk:Rec→Option ρ} {z:ρ} (ho:o.op=.makeFunc (.func f) #[] caps) (h:opMakeFunc o σ f caps kk=some z):∃ r,Good P o σ base r∧kk r=some z:=by
 unfold opMakeFunc at h
 have hrun:∀ (act:Act) (w:World),(execOp act.eval o).run P w=.ok (.value (.func (.func f) #[] (caps.map act.eval))) w:=by
  intro act w
  unfold execOp
  simp [ho,Instr.makeFunc]
 split at h
 case h_4=>cases h
 case h_1 hc =>
  refine ⟨_,valK_ok (av:=.sv false [.clo f []]) (by simp) (by simp) fun fr σ' φ I act w hR hv hh=>⟨_,hrun act w,([]:List Value),?_,trivial⟩,h⟩
  have:caps=#[]:=by apply Array.ext'; simpa using hc
  rw [this]; simp
 case h_2 a hc =>
  split at h
  case h_2=>cases h
  case h_1 i m tl hx =>
  refine ⟨_,valK_ok (av:=.sv false [.clo f [.ptr i m]]) (opd_temps hx) (by simp) fun fr σ' φ I act w hR hv hh=>⟨_,hrun act w,[act.eval a],?_,?_,trivial⟩,h⟩
  ·have:caps=#[a]:=by apply Array.ext'; simpa using hc
   rw [this]; simp
  ·exact opd_eval hx hR hv
 case h_3 a b hc =>
  split at h
  case h_2=>cases h
  case h_1 i m j n tl hx =>
  refine ⟨_,valK_ok (av:=.sv false [.clo f [.ptr i m,.ptr j n]]) (opd2_temps hx) (by simp) fun fr σ' φ I act w hR hv hh=>⟨_,hrun act w,[act.eval a,act.eval b],?_,?_,?_,trivial⟩,h⟩
  ·have:caps=#[a,b]:=by apply Array.ext'; simpa using hc
   rw [this]; simp
  ·exact (opd2_eval hx hR hv).1
  ·exact (opd2_eval hx hR hv).2
end
end Go.Ev
