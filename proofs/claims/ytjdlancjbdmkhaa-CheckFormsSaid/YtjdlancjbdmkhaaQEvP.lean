/- A checked evaluator, part P: is a slice nil. -/
import Derived.Test.YtjdlancjbdmkhaaQEvO
import Derived.Test.YtjdlancjbdmkhaaQEvE
namespace Go.Ev
open Go.RowKit
set_option linter.unusedVariables false
section
variable {ρ:Type}
def nilOf (σ:LS):CV→Option (Bool×Bool×List (Nat×Option HV))
 | .lit v=>match v with
  | .slice none _ _=>some (true,true,[])
  | .slice (some _) _ _=>some (false,true,[])
  | _=>none
 | c=>match sliceOf σ c with
  | some ⟨_,_,xs,hp,_⟩=>some (false,!xs.isEmpty,hp)
  | none=>none
theorem nilOf_hp {σ:LS} {c:CV} {b q:Bool} {hp:List (Nat×Option HV)} (h:nilOf σ c=some (b,q,hp)):∀ p ∈ hp,σ.at p.1=p.2:=by
 unfold nilOf at h
 split at h
 ·split at h
  ·cases h; simp
  ·cases h; simp
  ·cases h
 ·split at h
  ·rename_i hs
   cases h
   exact sliceOf_hp hs
  ·cases h
theorem nilOf_ok {σ:LS} {c:CV} {b:Bool} {hp:List (Nat×Option HV)} (h:nilOf σ c=some (b,true,hp)) {fr:Fr} {σ':FS} {φ:Nat→Option Value} {I:Nat→Prop} {a:Act} {w:World} (hR:R fr σ' φ I a w)
  (hv:∀ p ∈ hp,σ'.heap p.1=p.2) {u:Value} (hu:RV fr.J φ I w c u):∃ ad n cap,u=.slice ad n cap∧ad.isNone=b:=by
 unfold nilOf at h
 split at h
 ·split at h
  ·cases h; exact ⟨_,_,_,hu,rfl⟩
  ·cases h; exact ⟨_,_,_,hu,rfl⟩
  ·cases h
 ·split at h
  ·rename_i e k xs hp' oi hs
   simp only [Option.some.injEq,Prod.mk.injEq] at h
   obtain ⟨rfl,hne,rfl⟩:=h
   obtain ⟨ad,cap,us,h1,_,_,h2⟩:=sliceOf_ok hs hR hv hu
   rcases h2 with h2 | ⟨b,o,h2,_⟩
   ·rw [h2] at hne; simp at hne
   ·exact ⟨ad,_,cap,h1,by rw [h2]; rfl⟩
  ·cases h
def opBinN (T:List (TypeId×TI)) (o:Oper) (σ:LS) (op:BinOp) (t:TypeId) (x y:Operand) (k:Rec→Option ρ):Option ρ :=
 match opd2 σ x y with
 | some (.sv false [c],.sv false [.lit (.slice none 0 0)],tl)=>match T.lookup t with
  | some ti=>match ti.kind with
   | .slice _=>match nilOf σ c with
    | some (b,q,hp)=>match op with
     | .eql=>cnd q (k (valK o tl hp (.sv false [.lit (.bool b)]))) none
     | .neq=>cnd q (k (valK o tl hp (.sv false [.lit (.bool (!b))]))) none
     | _=>none
    | none=>none
   | _=>none
  | none=>none
 | _=>opBinS T o σ op t x y k
theorem opBinN_ok {P:Program} {T:List (TypeId×TI)} (hT:TOK P T) {o:Oper} {σ:LS} {op:BinOp} {t yt:TypeId} {x y:Operand} {base:Nat} {k:Rec→Option ρ} {z:ρ} (ho:o.op=.binOp op t x y yt) (h:opBinN T o σ op t x y k=some z):∃ r,Good P o σ base r∧k r=some z:=by
 unfold opBinN at h
 split at h
 case h_2=>exact opBinS_ok hT ho h
 case h_1 c tl hx =>
 split at h
 case h_2=>cases h
 case h_1 ti hti =>
 split at h
 case h_2=>cases h
 case h_1 e hkind =>
 obtain ⟨d,hd,hk⟩:=(hT t ti hti).under
 rw [hkind] at hk
 simp only [TK.ok] at hk
 subst hk
 split at h
 case h_2=>cases h
 case h_1 b q hp hn =>
 have hg:∀ (u v:Operand) (ad:Option Addr) (n cap:Nat) (w:World),(eqGuard op t u v (.slice ad n cap) (.slice none 0 0)).run P w=.ok () w:=fun _ _ _ _ _ _=>by unfold eqGuard; split <;> rfl
 have he:∀ (ad:Option Addr) (n cap:Nat) (w:World),(Op.equalIn 10000 t (.slice ad n cap) (.slice none 0 0)).run P w=.ok ad.isNone w:=by
  intro ad n cap w
  rw [show (10000:Nat)=9999 + 1 from rfl]
  unfold Op.equalIn
  rw [Sem.run_bind,run_underlying hd]
  cases ad <;> rfl
 have main:∀ r,q=true→((op=.eql∧r=b) ∨ (op=.neq∧r=!b))→Good P o σ base (valK o tl hp (.sv false [.lit (.bool r)])):=by
  intro r hq hr
  subst hq
  refine valK_ok (opd2_temps hx) (nilOf_hp hn) fun fr σ' φ I act w hR hv hh=>?_
  obtain ⟨h1,h2⟩:=opd2_eval hx hR hv
  obtain ⟨ad,n,cap,e1,e2⟩:=nilOf_ok hn hR hh (show RV fr.J φ I w c (act.eval x) from h1)
  have h2:act.eval y=.slice none 0 0:=h2
  refine ⟨.bool r,?_,rfl⟩
  unfold execOp
  rcases hr with ⟨rfl,rfl⟩ | ⟨rfl,rfl⟩ <;> simp only [ho,e1,h2,Sem.run_bind,hg,Result.andThen_ok,binOp,Op.equal,Op.maxDepth,he,e2,Sem.run_pure]
 split at h
 case h_1 =>
  cases q with
  | false=>cases h
  | true=>exact ⟨_,main b rfl (.inl ⟨rfl,rfl⟩),h⟩
 case h_2 =>
  cases q with
  | false=>cases h
  | true=>exact ⟨_,main (!b) rfl (.inr ⟨rfl,rfl⟩),h⟩
 case h_3=>cases h
end
end Go.Ev
