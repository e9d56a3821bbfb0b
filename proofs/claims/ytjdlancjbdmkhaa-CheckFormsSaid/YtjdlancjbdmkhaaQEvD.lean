/- A checked evaluator, part D: operations that only compute. -/
import Derived.Test.YtjdlancjbdmkhaaQEvC
namespace Go.Ev
open Go.RowKit
set_option linter.unusedVariables false
theorem ite_some {α:Type} {c:Prop} [Decidable c] {x y:Option α} {z:α} (h:(if c then x else y)=some z) (hy:y=none):c∧x=some z:=by
  by_cases hc:c
  · rw [if_pos hc] at h; exact ⟨hc,h⟩
  · rw [if_neg hc,hy] at h; cases h
section
variable {ρ:Type}
def intOp (op:BinOp) (k:IntKind) (x y:Int):Option (Option Bool×Value) :=
  match op with
  | .add=>some (none,.int k (k.wrap (x + y)))
  | .sub=>some (none,.int k (k.wrap (x - y)))
  | .mul=>some (none,.int k (k.wrap (x * y)))
  | .quo=>some (some (decide (y ≠ 0)),.int k (k.wrap (x.tdiv y)))
  | .rem=>some (some (decide (y ≠ 0)),.int k (x.tmod y))
  | .and=>some (none,.int k (k.wrap ((BitVec.ofInt k.bits x &&& BitVec.ofInt k.bits y).toNat:Nat)))
  | .or=>some (none,.int k (k.wrap ((BitVec.ofInt k.bits x ||| BitVec.ofInt k.bits y).toNat:Nat)))
  | .xor=>some (none,.int k (k.wrap ((BitVec.ofInt k.bits x ^^^ BitVec.ofInt k.bits y).toNat:Nat)))
  | .andNot=>some (none,.int k (k.wrap ((BitVec.ofInt k.bits x &&& ~~~ BitVec.ofInt k.bits y).toNat:Nat)))
  | .eql=>some (none,.bool (x == y))
  | .neq=>some (none,.bool (x != y))
  | .lss=>some (none,.bool (decide (x < y)))
  | .leq=>some (none,.bool (decide (x ≤ y)))
  | .gtr=>some (none,.bool (decide (x > y)))
  | .geq=>some (none,.bool (decide (x ≥ y)))
  | .shl=>some (some (decide (0 ≤ y)),.int k (k.wrap (x * 2 ^ (min y.toNat k.bits))))
  | .shr=>some (some (decide (0 ≤ y)),.int k (x.fdiv (2 ^ (min y.toNat k.bits))))
def strOp (op:BinOp) (x y:ByteArray):Option (Option Bool×Value) :=
  match op with
  | .add=>some (some (decide (x.size + y.size ≤ 140737488355328)),.string (x ++ y))
  | .eql=>some (none,.bool (x.toList == y.toList))
  | .neq=>some (none,.bool (!(x.toList == y.toList)))
  | _=>none
def isShift:BinOp→Bool
  | .shl=>true
  | .shr=>true
  | _=>false
def binV (op:BinOp) (u v:Value):Option (Option Bool×Value) :=
  match u,v with
  | .int k x,.int k' y=>if isShift op then intOp op k x y else if k=k' then intOp op k x y else none
  | .string x,.string y=>strOp op x y
  | _,_=>none
def okB:Option Bool→Bool
  | none=>true
  | some b=>b
theorem run_intOp {P:Program} (w:World) {op:BinOp} {k k':IntKind} {x y:Int} {c:Option Bool} {v:Value} (t:TypeId) (h1:isShift op=true ∨ k=k') (h:intOp op k x y=some (c,v)) (hc:okB c=true):(binOp op t (.int k x) (.int k' y)).run P w=.ok v w:=by
  cases op <;> simp only [intOp,Option.some.injEq,Prod.mk.injEq] at h <;> first
    | (cases h; done)
    | (obtain ⟨rfl,rfl⟩:=h
       simp only [isShift,Bool.false_eq_true,false_or] at h1
       subst h1
       simp [binOp,Op.intArith,Op.intBits,Op.intCmp]
       done)
    | (obtain ⟨rfl,rfl⟩:=h
       simp only [isShift,Bool.false_eq_true,false_or] at h1
       subst h1
       simp only [okB,decide_eq_true_eq] at hc
       simp [binOp,Op.intDiv,hc]
       done)
    | (obtain ⟨rfl,rfl⟩:=h
       simp only [okB,decide_eq_true_eq] at hc
       have hc':¬ y < 0:=by omega
       simp [binOp,Op.shift,hc']
       done)
theorem run_strOp {P:Program} (w:World) {op:BinOp} {x y:ByteArray} {c:Option Bool} {v:Value} (t:TypeId) (h:strOp op x y=some (c,v)) (hc:okB c=true):(binOp op t (.string x) (.string y)).run P w=.ok v w:=by
  cases op <;> simp only [strOp,Option.some.injEq,Prod.mk.injEq] at h <;> first
    | (cases h; done)
    | (obtain ⟨rfl,rfl⟩:=h; simp [binOp,Op.stringOp]; done)
    | skip
  obtain ⟨rfl,rfl⟩:=h
  simp only [okB,decide_eq_true_eq] at hc
  have h1:¬ (((x.size + y.size:Nat):Int) > IntKind.i64.max):=by
    have:IntKind.i64.max=9223372036854775807:=by decide
    omega
  simp only [binOp,Op.stringOp,h1,if_false,Sem.run_pure]
theorem run_binV {P:Program} (w:World) {op:BinOp} {u v:Value} {c:Option Bool} {r:Value} (t:TypeId) (h:binV op u v=some (c,r)) (hc:okB c=true):(binOp op t u v).run P w=.ok r w∧∀ x y,(eqGuard op t x y u v).run P w=.ok () w:=by
  unfold binV at h
  split at h
  case h_3=>cases h
  case h_2 x y=>exact ⟨run_strOp w t h hc,fun _ _=>by unfold eqGuard; split <;> rfl⟩
  case h_1 k x k' y =>
    refine ⟨?_,fun _ _=>by unfold eqGuard; split <;> rfl⟩
    split at h
    · rename_i h1
      exact run_intOp w t (.inl h1) h hc
    · obtain ⟨e,h⟩:=ite_some h rfl
      exact run_intOp w t (.inr e) h hc
def valK (o:Oper) (tl:List (Tmp×AV)) (hp:List (Nat×Option HV)) (av:AV):Rec:=⟨o.dst,some av,tl,hp,[],[]⟩
theorem valK_ok {P:Program} {o:Oper} {σ:LS} {base:Nat} {tl:List (Tmp×AV)} {hp:List (Nat×Option HV)} {av:AV} (h1:∀ p ∈ tl,σ.get p.1=some p.2) (h2:∀ p ∈ hp,σ.at p.1=p.2)
    (h:∀ (fr:Fr) (σ:FS) (φ:Nat→Option Value) (I:Nat→Prop) (a:Act) (w:World),R fr σ φ I a w→(∀ p ∈ tl,σ.env p.1=some p.2)→(∀ p ∈ hp,σ.heap p.1=p.2) →
      ∃ v,(execOp a.eval o).run P w=.ok (.value v) w∧RA fr.J φ I w av v):Good P o σ base (valK o tl hp av) :=
  ⟨rfl,h1,h2,by simp [valK],OpOK.value rfl rfl rfl fun fr σ φ I a w hR hv=>by
    obtain ⟨v,h3,h4⟩:=h fr σ φ I a w hR hv.1 hv.2.1
    exact ⟨v,h3,fun av' e=>by simp only [valK,Option.some.injEq] at e; subst e; exact h4⟩⟩
def opd2 (σ:LS) (x y:Operand):Option (AV×AV×List (Tmp×AV)) :=
  match opd σ x,opd σ y with
  | some (u,tl),some (v,tl')=>some (u,v,tl ++ tl')
  | _,_=>none
theorem opd2_temps {σ:LS} {x y:Operand} {u v:AV} {tl:List (Tmp×AV)} (h:opd2 σ x y=some (u,v,tl)):∀ p ∈ tl,σ.get p.1=some p.2:=by
  unfold opd2 at h
  split at h
  · rename_i hx hy
    simp only [Option.some.injEq,Prod.mk.injEq] at h
    obtain ⟨rfl,rfl,rfl⟩:=h
    intro p hp
    rcases List.mem_append.1 hp with hp | hp
    · exact opd_temps hx p hp
    · exact opd_temps hy p hp
  · cases h
theorem opd2_eval {σ:LS} {x y:Operand} {u v:AV} {tl:List (Tmp×AV)} (h:opd2 σ x y=some (u,v,tl)) {fr:Fr} {σ':FS} {φ:Nat→Option Value} {I:Nat→Prop} {a:Act} {w:World}
    (hR:R fr σ' φ I a w) (hv:∀ p ∈ tl,σ'.env p.1=some p.2):RA fr.J φ I w u (a.eval x)∧RA fr.J φ I w v (a.eval y):=by
  unfold opd2 at h
  split at h
  · rename_i hx hy
    simp only [Option.some.injEq,Prod.mk.injEq] at h
    obtain ⟨rfl,rfl,rfl⟩:=h
    exact ⟨opd_eval hx hR fun p hp=>hv p (List.mem_append_left _ hp),opd_eval hy hR fun p hp=>hv p (List.mem_append_right _ hp)⟩
  · cases h
def isPtr:CV→Bool
  | .ptr ..=>true
  | .iptr ..=>true
  | .eptr ..=>true
  | _=>false
def opBin (T:List (TypeId×TI)) (o:Oper) (σ:LS) (op:BinOp) (t:TypeId) (x y:Operand) (k:Rec→Option ρ):Option ρ :=
  match opd2 σ x y with
  | some (.sv false [.lit (.bool a)],.sv false [.lit (.bool b)],tl)=>match T.lookup t with
    | some ti=>match ti.kind,op with
      | .bool,.eql=>k (valK o tl [] (.sv false [.lit (.bool (a == b))]))
      | .bool,.neq=>k (valK o tl [] (.sv false [.lit (.bool (!(a == b)))]))
      | _,_=>none
    | none=>none
  | some (.sv false [.lit (.pointer none)],.sv false [.lit (.pointer none)],tl)=>match T.lookup t with
    | some ti=>match ti.kind,op with
      | .ptr _,.eql=>k (valK o tl [] (.sv false [.lit (.bool true)]))
      | .ptr _,.neq=>k (valK o tl [] (.sv false [.lit (.bool false)]))
      | _,_=>none
    | none=>none
  | some (.sv false [.lit u],.sv false [.lit v],tl)=>match binV op u v with
    | some (none,r)=>k (valK o tl [] (.sv false [.lit r]))
    | some (some c,r)=>cnd c (k (valK o tl [] (.sv false [.lit r]))) none
    | none=>none
  | some (.sv false [c],.sv false [.lit (.pointer none)],tl)=>if isPtr c then (match T.lookup t with
    | some ti=>match ti.kind,op with
      | .ptr _,.eql=>k (valK o tl [] (.sv false [.lit (.bool false)]))
      | .ptr _,.neq=>k (valK o tl [] (.sv false [.lit (.bool true)]))
      | _,_=>none
    | none=>none) else none
  | _=>none
theorem isPtr_some {J I:Nat→Prop} {φ:Nat→Option Value} {w:World}:∀ {c:CV} {v:Value},isPtr c=true→RV J φ I w c v→∃ a,v=.pointer (some a)
  | .ptr id off,v,_,h=>by
    simp only [RV,RC,pv] at h
    split at h
    · simp only [Option.some.injEq] at h; exact ⟨_,h.symm⟩
    · cases h
  | .iptr _ _ _,_,_,⟨_,_,_,e,_⟩=>⟨_,e⟩
  | .eptr _ _ _ _,_,_,⟨_,_,_,_,e,_⟩=>⟨_,e⟩
theorem opBin_ok {P:Program} {T:List (TypeId×TI)} (hT:TOK P T) {o:Oper} {σ:LS} {op:BinOp} {t yt:TypeId} {x y:Operand} {base:Nat} {k:Rec→Option ρ} {z:ρ} (ho:o.op=.binOp op t x y yt) (h:opBin T o σ op t x y k=some z):∃ r,Good P o σ base r∧k r=some z:=by
  unfold opBin at h
  have hrun:∀ (a:Act) (w:World) (r:Value),(∀ x' y',(eqGuard op t x' y' (a.eval x) (a.eval y)).run P w=.ok () w)→(binOp op t (a.eval x) (a.eval y)).run P w=.ok r w→(execOp a.eval o).run P w=.ok (.value r) w:=by
    intro a w r h1 h2
    unfold execOp
    simp only [ho,Sem.run_bind,h1,h2,Result.andThen_ok,Sem.run_pure]
  split at h
  case h_5=>cases h
  case h_1 a b tl hx =>
    split at h
    case h_2=>cases h
    case h_1 ti hti =>
    obtain ⟨d,hd,hk⟩:=(hT t ti hti).under
    have hg:∀ (u v:Operand) (w:World),(eqGuard op t u v (.bool a) (.bool b)).run P w=.ok () w:=fun _ _ _=>by unfold eqGuard; split <;> rfl
    split at h
    case h_3=>cases h
    case h_1 hkk =>
      rw [hkk] at hk
      simp only [TK.ok] at hk
      subst hk
      refine ⟨_,valK_ok (opd2_temps hx) (by simp) fun fr σ' φ I act w hR hv _=>?_,h⟩
      obtain ⟨h1,h2⟩:=opd2_eval hx hR hv
      have h1:act.eval x=.bool a:=h1
      have h2:act.eval y=.bool b:=h2
      refine ⟨.bool (a == b),?_,rfl⟩
      unfold execOp
      simp only [ho,h1,h2,Sem.run_bind,hg,Result.andThen_ok,binOp,Op.equal,Op.maxDepth,run_equalIn_bool w 9999 t a b hd,Sem.run_pure]
    case h_2 hkk =>
      rw [hkk] at hk
      simp only [TK.ok] at hk
      subst hk
      refine ⟨_,valK_ok (opd2_temps hx) (by simp) fun fr σ' φ I act w hR hv _=>?_,h⟩
      obtain ⟨h1,h2⟩:=opd2_eval hx hR hv
      have h1:act.eval x=.bool a:=h1
      have h2:act.eval y=.bool b:=h2
      refine ⟨.bool (!(a == b)),?_,rfl⟩
      unfold execOp
      simp only [ho,h1,h2,Sem.run_bind,hg,Result.andThen_ok,binOp,Op.equal,Op.maxDepth,run_equalIn_bool w 9999 t a b hd,Sem.run_pure]
  case h_2 tl hx =>
    split at h
    case h_2=>cases h
    case h_1 ti hti =>
    obtain ⟨d,hd,hk⟩:=(hT t ti hti).under
    have hg:∀ (u v:Operand) (w:World),(eqGuard op t u v (.pointer none) (.pointer none)).run P w=.ok () w:=fun _ _ _=>by unfold eqGuard; split <;> rfl
    have he:∀ (e:TypeId) (w:World),P.underlying t=some (.pointer e)→(Op.equalIn 10000 t (.pointer none) (.pointer none)).run P w=.ok true w:=by
      intro e w he
      rw [show (10000:Nat)=9999 + 1 from rfl]
      unfold Op.equalIn
      rw [Sem.run_bind,run_underlying he]
      rfl
    split at h
    case h_3=>cases h
    case h_1 hkk =>
      rw [hkk] at hk
      simp only [TK.ok] at hk
      subst hk
      refine ⟨_,valK_ok (opd2_temps hx) (by simp) fun fr σ' φ I act w hR hv _=>?_,h⟩
      obtain ⟨h1,h2⟩:=opd2_eval hx hR hv
      have h1:act.eval x=.pointer none:=h1
      have h2:act.eval y=.pointer none:=h2
      refine ⟨.bool true,?_,rfl⟩
      unfold execOp
      simp only [ho,h1,h2,Sem.run_bind,hg,Result.andThen_ok,binOp,Op.equal,Op.maxDepth,he _ w hd,Sem.run_pure]
    case h_2 hkk =>
      rw [hkk] at hk
      simp only [TK.ok] at hk
      subst hk
      refine ⟨_,valK_ok (opd2_temps hx) (by simp) fun fr σ' φ I act w hR hv _=>?_,h⟩
      obtain ⟨h1,h2⟩:=opd2_eval hx hR hv
      have h1:act.eval x=.pointer none:=h1
      have h2:act.eval y=.pointer none:=h2
      refine ⟨.bool false,?_,rfl⟩
      unfold execOp
      simp only [ho,h1,h2,Sem.run_bind,hg,Result.andThen_ok,binOp,Op.equal,Op.maxDepth,he _ w hd,Sem.run_pure]
      rfl
  case h_3 u v tl hx1 hx2 hx =>
    have main:∀ c r,binV op u v=some (c,r)→okB c=true→k (valK o tl [] (.sv false [.lit r]))=some z→∃ r,Good P o σ base r∧k r=some z:=by
      intro c r hb hc h
      refine ⟨_,valK_ok (opd2_temps hx) (by simp) fun fr σ' φ I act w hR hv _=>?_,h⟩
      obtain ⟨h3,h4⟩:=opd2_eval hx hR hv
      have h3:act.eval x=u:=h3
      have h4:act.eval y=v:=h4
      obtain ⟨h5,h6⟩:=run_binV (P:=P) w t hb hc
      refine ⟨r,hrun act w r ?_ ?_,rfl⟩
      · intro x' y'; rw [h3,h4]; exact h6 x' y'
      · rw [h3,h4]; exact h5
    split at h
    case h_1 r hb=>exact main none r hb rfl h
    case h_2 c r hb =>
      cases c with
      | true=>exact main _ r hb rfl h
      | false=>cases h
    case h_3=>cases h
  case h_4 c tl hx2 hx3 hx =>
    have h0:=ite_some h rfl
    clear h
    obtain ⟨hc,h⟩:=h0
    split at h
    case h_2=>cases h
    case h_1 ti hti =>
    obtain ⟨d,hd,hk⟩:=(hT t ti hti).under
    have hg:∀ (u v:Operand) (q:Addr) (w:World),(eqGuard op t u v (.pointer (some q)) (.pointer none)).run P w=.ok () w:=fun _ _ _ _=>by unfold eqGuard; split <;> rfl
    have he:∀ (e:TypeId) (q:Addr) (w:World),P.underlying t=some (.pointer e)→(Op.equalIn 10000 t (.pointer (some q)) (.pointer none)).run P w=.ok false w:=by
      intro e q w he
      rw [show (10000:Nat)=9999 + 1 from rfl]
      unfold Op.equalIn
      rw [Sem.run_bind,run_underlying he]
      rfl
    have main:∀ (b:Bool),((op=.eql∧b=false) ∨ (op=.neq∧b=true))→(∃ e,d=.pointer e)→Good P o σ base (valK o tl [] (.sv false [.lit (.bool b)])):=by
      rintro b hb ⟨e,rfl⟩
      refine valK_ok (opd2_temps hx) (by simp) fun fr σ' φ I act w hR hv _=>?_
      obtain ⟨h1,h2⟩:=opd2_eval hx hR hv
      obtain ⟨q,h1⟩:=isPtr_some hc (show RV fr.J φ I w c (act.eval x) from h1)
      have h2:act.eval y=.pointer none:=h2
      refine ⟨.bool b,?_,rfl⟩
      unfold execOp
      rcases hb with ⟨rfl,rfl⟩ | ⟨rfl,rfl⟩ <;> simp only [ho,h1,h2,Sem.run_bind,hg,Result.andThen_ok,binOp,Op.equal,Op.maxDepth,he _ q w hd,Sem.run_pure,Bool.not_false]
    split at h
    case h_1 hkk =>
      rw [hkk] at hk
      exact ⟨_,main false (.inl ⟨rfl,rfl⟩) ⟨_,hk⟩,h⟩
    case h_2 hkk =>
      rw [hkk] at hk
      exact ⟨_,main true (.inr ⟨rfl,rfl⟩) ⟨_,hk⟩,h⟩
    case h_3=>cases h
end
end Go.Ev
