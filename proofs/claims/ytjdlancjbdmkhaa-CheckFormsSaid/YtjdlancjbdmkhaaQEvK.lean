/- A checked evaluator, part K: which operation is which. -/
import Derived.Test.YtjdlancjbdmkhaaQEvJ
import Derived.Test.YtjdlancjbdmkhaaQEvP
import Derived.Test.YtjdlancjbdmkhaaQEvU
import Derived.Test.YtjdlancjbdmkhaaQEvZ
namespace Go.Ev
open Go.RowKit
set_option linter.unusedVariables false
section
variable {ρ:Type}
def valCVs (L:Bool) (σ:LS):List PK→List AV→List CV
 | p :: ps,c :: avs=>(match c with
  | .sv _ cs=>(match p with
   | .val _ _=>cond L [] cs
   | .own _ o=>valPos σ o cs
   | .inout o=>valPos σ (.obj o) cs
   | _=>[])
  | _=>[]) ++ valCVs L σ ps avs
 | _,_=>[]
def opCallF (DF:List FuncId) (G:List (FuncId×Con)) (n:Nat) (o:Oper) (σ:LS) (base:Nat) (fv:Operand) (args:List Operand) (kk:Rec→Option ρ):Option ρ :=
 match opd σ fv,opds σ args with
 | some (.sv false [.clo f _],_),some (avs,_)=>match G.lookup f with
  | some c=>withFrz σ (valCVs (lendC DF f c) σ c.ps avs) (fun σ k=>opCall DF G n o σ base fv args k) kk
  | none=>none
 | some (.sv false [.dyn g],tl),_=>opCallD DF G n o σ base g tl args kk DF
 | _,_=>none
def isOv (OV:List FuncId) (σ:LS) (fv:Operand):Bool:=match opd σ fv with
 | some (.sv false [.clo f _],_)=>OV.contains f
 | _=>false
def isNP (σ:LS) (x:Operand):Bool:=match opd σ x with
 | some (.sv false [.eptr id ..],_)=>(nestAt σ id).isSome
 | _=>false
def isNR (σ:LS) (x:Operand):Bool:=match opd σ x with
 | some (.sv false [.own id],_)=>(nestAt σ id).isSome
 | _=>false
def isPk (σ:LS) (x:Operand):Bool:=match opd σ x with
 | some (.sv false [.own id],_)=>(peekAt σ id).isSome
 | _=>false
def isNB (NT:List TypeId) (σ:LS) (t:TypeId) (len:Nat) (parts:List (Nat×Operand)):Bool:=NT.contains t && (Nat.beq len 1 && (match partsE σ parts with
 | some ([(_,_,cs)],_)=>(match cs.getLast? with
  | some c=>isNil c
  | none=>false)
 | _=>false))
def isSt (T:List (TypeId×TI)) (t:TypeId):Bool:=match (T.lookup t).map TI.kind with
 | some .str=>true
 | _=>false
def partCVs (σ:LS) (parts:List (Nat×Operand)):List CV:=match partsE σ parts with
 | some (ps,_)=>ps.flatMap fun p=>p.2.2
 | none=>[]
def storeCVs (σ:LS) (x y:Operand):List CV:=match opd σ x,opd σ y with
 | some (.sv false [.eptr ..],_),some (.sv _ cs,_)=>cs
 | _,_=>[]
def opE (T:List (TypeId×TI)) (OV:List FuncId) (NT:List TypeId) (DF:List FuncId) (MT:List TypeId) (G:List (FuncId×Con)) (n:Nat) (o:Oper) (σ:LS) (base:Nat) (k:Rec→Option ρ):Option ρ :=
 match o.op with
 | .move x=>opMove o σ x k
 | .assign x=>opMove o σ x k
 | .pick c a b=>opPick o σ c a b k
 | .alloc t=>opAlloc T o base t k
 | .box t x=>opBox o σ base t x k
 | .load t x=>cnd (isNP σ x) (opLoadN T o σ base t x k) (opLoad T o σ t x k)
 | .store t x y=>cnd (isNP σ x) (opStoreN T o σ t x y k) (withFrz σ (storeCVs σ x y) (fun σ k=>opStore T o σ t x y k) k)
 | .makeSlice t x y=>opMake T o σ base t x y k
 | .build t parts=>opBuild T o σ t parts.toList k
 | .buildSlice t len parts=>cnd (isNB NT σ t len parts.toList) (opBuildSliceN T o base t len parts.toList σ k) (withFrz σ (partCVs σ parts.toList) (fun σ k=>opBuildSlice T o base t len parts.toList σ k) k)
 | .slice t x lo hi mx=>match mx with
  | none=>opSliceZ T o σ t x lo hi k
  | some _=>none
 | .nilCheck x=>opNil o σ x k
 | .binOp op t x y _=>opBinZ T o σ op t x y k
 | .unOp op _ x=>opUn o σ op x k
 | .convert s d x=>opConvZ T o σ s d x k
 | .makeFunc fn first caps=>match fn,first.toList with
  | .func f,[]=>opMakeFunc o σ f caps k
  | _,_=>none
 | .fieldAddr t x f=>opFieldAddr T o σ t x f k
 | .field t x f=>opField T o σ t x f k
 | .indexAddr t x i=>cnd (isNR σ x) (opIndexAddrN T o σ t x i k) (opIndexAddr T o σ t x i k)
 | .index t x i=>opIndex T o σ t x i k
 | .extract x i=>opExtract o σ x i k
 | .makeMap t r=>opMakeMap MT o base t r k
 | .lookup t x i ok=>opLookup MT o σ t x i ok k
 | .mapUpdate t x y v=>opMapUpdate MT o σ t x y v k
 | .call c=>match c.callee with
  | .builtin .len=>match c.args.toList,c.argTypes.toList with
   | [x],[t]=>cnd (isNR σ x) (opLenN T o σ t x k) (opLenV T o σ t x k)
   | _,_=>none
  | .builtin .cap=>match c.args.toList,c.argTypes.toList with
   | [x],[t]=>opCapV T o σ t x k
   | _,_=>none
  | .builtin .clear=>match c.args.toList,c.argTypes.toList with
   | [x],[t]=>opClearV T o σ t x k
   | _,_=>none
  | .builtin .copy=>match c.args.toList,c.argTypes.toList with
   | [x,y],[t,_]=>opCopyV T o σ t x y k
   | _,_=>none
  | .builtin .min=>match c.args.toList with
   | [x,y]=>opMinMax o σ false x y k
   | _=>none
  | .builtin .max=>match c.args.toList with
   | [x,y]=>opMinMax o σ true x y k
   | _=>none
  | .builtin .append=>match c.args.toList,c.argTypes.toList with
   | [x,y],[t,t']=>if t'=t then cnd (isNR σ x) (opAppendN T o σ base t x y k) (cnd (isPk σ x) (opAppendP T o σ base t x y k) (cnd (isNR σ y) (opAppendN0 T o σ base t x y k) (opAppendV T o σ base t x y k))) else cnd (isSt T t') (opAppendS T o σ base t t' x y k) (opAppendZ T o σ base t t' x y k)
   | _,_=>none
  | .value f=>match c.args.toList with
   | [x,y]=>cnd (isOv OV σ f) (opOverV OV o σ f x y k) (opCallF DF G n o σ base f [x,y] k)
   | l=>opCallF DF G n o σ base f l k
  | _=>none
 | _=>none
theorem opCallF_ok {P:Program} {DF:List FuncId} {G:List (FuncId×Con)} (hG:GOK P G) {n:Nat} {o:Oper} {σ:LS} {f:Operand} {args:Array Operand} {ts:Array TypeId} {base:Nat} {k:Rec→Option ρ} {z:ρ} (ho:o.op=.call { callee:=.value f,args,argTypes:=ts }) (h:opCallF DF G n o σ base f args.toList k=some z):∃ r,Good P o σ base r∧k r=some z:=by
 unfold opCallF at h
 split at h
 case h_3=>cases h
 case h_2 g tl hf=>exact opCallD_ok hG ho hf DF h
 case h_1 g caps tl avs tl' hf ha =>
 split at h
 case h_2=>cases h
 case h_1 c hc=>exact withFrz_ok (fun σ k z h=>opCall_ok hG ho h) _ σ k z h
theorem opE_ok {P:Program} {T:List (TypeId×TI)} (hT:TOK P T) {OV:List FuncId} (hOV:∀ f ∈ OV,OvOK P f) (NT:List TypeId) (DF:List FuncId) {MT:List TypeId} (hMT:∀ t ∈ MT,MapTy P t) {G:List (FuncId×Con)} (hG:GOK P G) (n:Nat):EvOK P (opE (ρ:=ρ) T OV NT DF MT G n):=by
 intro o σ base k z h
 unfold opE at h
 split at h
 case h_1 x ho=>exact opMove_ok (.inl ho) h
 case h_2 x ho=>exact opMove_ok (.inr ho) h
 case h_3 c a b ho=>exact opPick_ok ho h
 case h_4 t ho=>exact opAlloc_ok hT ho h
 case h_5 t x ho=>exact opBox_ok ho h
 case h_6 t x ho =>
  cases hc:isNP σ x with
  | true=>rw [hc] at h; exact opLoadN_ok hT ho h
  | false=>rw [hc] at h; exact opLoad_ok hT ho h
 case h_7 t x y ho =>
  cases hc:isNP σ x with
  | true=>rw [hc] at h; exact opStoreN_ok hT ho h
  | false=>rw [hc] at h; exact withFrz_ok (fun σ k z h=>opStore_ok hT ho h) _ σ k z h
 case h_8 t x y ho=>exact opMake_ok hT ho h
 case h_9 t parts ho=>exact opBuild_ok hT ho h
 case h_10 t len parts ho =>
  cases hc:isNB NT σ t len parts.toList with
  | true=>rw [hc] at h; exact opBuildSliceN_ok hT ho σ k z h
  | false=>rw [hc] at h; exact withFrz_ok (fun σ k z h=>opBuildSlice_ok hT ho σ k z h) _ σ k z h
 case h_11 t x lo hi mx ho =>
  cases mx with
  | none=>exact opSliceZ_ok hT ho h
  | some m=>cases h
 case h_12 x ho=>exact opNil_ok ho h
 case h_13 op t x y yt ho=>exact opBinZ_ok hT ho h
 case h_14 op t x ho=>exact opUn_ok ho h
 case h_15 s d x ho=>exact opConvZ_ok hT ho h
 case h_16 fn first caps ho =>
  split at h
  case h_2=>cases h
  case h_1 f hfirst =>
  have:first=#[]:=by apply Array.ext'; simpa using hfirst
  subst this
  exact opMakeFunc_ok ho h
 case h_17 t x f ho=>exact opFieldAddr_ok hT ho h
 case h_18 t x f ho=>exact opField_ok hT ho h
 case h_19 t x i ho =>
  cases hc:isNR σ x with
  | true=>rw [hc] at h; exact opIndexAddrN_ok hT ho h
  | false=>rw [hc] at h; exact opIndexAddr_ok hT ho h
 case h_20 t x i ho=>exact opIndex_ok hT ho h
 case h_21 x i ho=>exact opExtract_ok ho h
 case h_22 t r ho=>exact opMakeMap_ok ho h
 case h_23 t x i ok ho=>exact opLookup_ok hMT ho h
 case h_24 t x y v ho=>exact opMapUpdate_ok hMT ho h
 case h_25 c ho =>
  obtain ⟨callee,args,ts⟩:=c
  simp only at h
  split at h
  case h_1 =>
   split at h
   case h_2=>cases h
   case h_1 x t ha ht =>
   have e1:args=#[x]:=by apply Array.ext'; simpa using ha
   have e2:ts=#[t]:=by apply Array.ext'; simpa using ht
   subst e1 e2
   cases hc:isNR σ x with
   | true=>rw [hc] at h; exact opLenN_ok hT ho h
   | false=>rw [hc] at h; exact opLenV_ok hT ho h
  case h_2 =>
   split at h
   case h_2=>cases h
   case h_1 x t ha ht =>
   have e1:args=#[x]:=by apply Array.ext'; simpa using ha
   have e2:ts=#[t]:=by apply Array.ext'; simpa using ht
   subst e1 e2
   exact opCapV_ok hT ho h
  case h_3 =>
   split at h
   case h_2=>cases h
   case h_1 x t ha ht =>
   have e1:args=#[x]:=by apply Array.ext'; simpa using ha
   have e2:ts=#[t]:=by apply Array.ext'; simpa using ht
   subst e1 e2
   exact opClearV_ok hT ho h
  case h_4 =>
   split at h
   case h_2=>cases h
   case h_1 x y t t' ha ht =>
   have e1:args=#[x,y]:=by apply Array.ext'; simpa using ha
   have e2:ts=#[t,t']:=by apply Array.ext'; simpa using ht
   subst e1 e2
   exact opCopyV_ok hT ho h
  case h_5 =>
   split at h
   case h_2=>cases h
   case h_1 x y ha =>
   have e1:args=#[x,y]:=by apply Array.ext'; simpa using ha
   subst e1
   exact opMinMax_ok (mx:=false) ho h
  case h_6 =>
   split at h
   case h_2=>cases h
   case h_1 x y ha =>
   have e1:args=#[x,y]:=by apply Array.ext'; simpa using ha
   subst e1
   exact opMinMax_ok (mx:=true) ho h
  case h_7 =>
   split at h
   case h_2=>cases h
   case h_1 x y t t' ha ht =>
   have e1:args=#[x,y]:=by apply Array.ext'; simpa using ha
   split at h
   case isTrue e3 =>
    have e2:ts=#[t,t]:=by apply Array.ext'; rw [ht,e3]
    subst e1 e2
    cases hc:isNR σ x with
    | true=>rw [hc] at h; exact opAppendN_ok hT ho h
    | false =>
     rw [hc] at h
     cases hd:isPk σ x with
     | true=>rw [hd] at h; exact opAppendP_ok hT ho h
     | false =>
      rw [hd] at h
      cases he:isNR σ y with
      | true=>rw [he] at h; exact opAppendN0_ok hT ho h
      | false=>rw [he] at h; exact opAppendV_ok hT ho h
   case isFalse e3 =>
    have e2:ts=#[t,t']:=by apply Array.ext'; simpa using ht
    subst e1 e2
    cases hc:isSt T t' with
    | true=>rw [hc] at h; exact opAppendS_ok hT ho h
    | false=>rw [hc] at h; exact opAppendZ_ok hT ho h
  case h_8 f =>
   split at h
   case h_1 x y ha =>
    have e1:args=#[x,y]:=by apply Array.ext'; simpa using ha
    subst e1
    cases hc:isOv OV σ f with
    | true =>
     rw [hc] at h
     exact opOverV_ok hOV ho h
    | false =>
     rw [hc] at h
     exact opCallF_ok hG ho h
   case h_2 hne=>exact opCallF_ok hG ho h
  case h_9=>cases h
 case h_26=>cases h
end
theorem Flat.of {P:Program} {t:TypeId} {n:Nat} (h1:P.eqGuardType P.depth t=false) (h2:P.stoodInHeld t=false) (h3:((P.underlying t).bind fun d=>match d with
  | .struct fs=>some (flatB P fs.toList 0,fs.toList.length)
  | _=>none)=some (true,n)):Flat P t n:=by
 refine ⟨h1,h2,?_⟩
 cases hu:P.underlying t with
 | none=>rw [hu] at h3; cases h3
 | some d =>
  rw [hu] at h3
  cases d <;> simp at h3
  exact ⟨_,rfl,h3.1,h3.2⟩
theorem TOK.nil {P:Program}:TOK P []:=fun t i h=>by cases h
theorem TOK.cons {P:Program} {t:TypeId} {i:TI} {T:List (TypeId×TI)} (h:TIOK P t i) (hT:TOK P T):TOK P ((t,i) :: T):=by
 intro u j hj
 simp only [List.lookup] at hj
 cases e:u == t with
 | true =>
  rw [e] at hj
  cases hj
  have:u=t:=by simpa using e
  subst this
  exact h
 | false =>
  rw [e] at hj
  exact hT u j hj
theorem TK.struct_of {P:Program} {t:TypeId} {fl:List (Nat×Nat×Bool)} (h:((P.underlying t).bind fun d=>match d with
  | .struct fs=>some (fs.toList.map fun f=>(f.offset,(P.info? f.type).map (·.size),(P.underlying f.type).isSome,aggB P f.type))
  | _=>none)=some (fl.map fun p=>(p.1,some p.2.1,true,p.2.2))):∃ d,P.underlying t=some d∧(TK.struct fl).ok P d:=by
 cases hu:P.underlying t with
 | none=>rw [hu] at h; cases h
 | some d =>
  rw [hu] at h
  simp only [Option.bind_some] at h
  cases d <;> simp only [Option.some.injEq] at h <;> try (cases h; done)
  exact ⟨_,rfl,_,rfl,h⟩
theorem TIOK.of {P:Program} {t:TypeId} {i:TI} (h1:(P.info? t).map (fun it=>(it.size,it.bytes,it.zero.map fun z=>z.cells.toList))=some (i.sz,i.bytes,some i.zero)) (h2:∃ d,P.underlying t=some d∧i.kind.ok P d) (h3:aggB P t=i.agg)
  (h4:∀ k,i.ty=some k→size k=i.sz∧zeros k=i.zero∧0 < size k) (h5:i.eqi=true→Flat P t i.sz):TIOK P t i:=by
 refine ⟨?_,h2,h3,h4,h5⟩
 obtain ⟨it,e1,e2⟩:=Option.map_eq_some_iff.1 h1
 simp only [Prod.mk.injEq] at e2
 obtain ⟨h5,h6,h7⟩:=e2
 obtain ⟨z,e3,e4⟩:=Option.map_eq_some_iff.1 h7
 exact ⟨it,z,e1,h5,h6,e3,e4⟩
theorem MTOK.nil {P:Program}:∀ t ∈ ([]:List TypeId),MapTy P t:=fun t h=>by cases h
theorem MTOK.cons {P:Program} {t:TypeId} {MT:List TypeId} (h:MapTy P t) (hO:∀ t ∈ MT,MapTy P t):∀ u ∈ t :: MT,MapTy P u:=fun u hu=>by
 rcases List.mem_cons.1 hu with rfl | hu
 ·exact h
 ·exact hO u hu
theorem OVOK.nil {P:Program}:∀ f ∈ ([]:List FuncId),OvOK P f:=fun f h=>by cases h
theorem OVOK.cons {P:Program} {f:FuncId} {OV:List FuncId} (h:OvOK P f) (hO:∀ f ∈ OV,OvOK P f):∀ g ∈ f :: OV,OvOK P g:=fun g hg=>by
 rcases List.mem_cons.1 hg with rfl | hg
 ·exact h
 ·exact hO g hg
theorem GOK.nil {P:Program}:GOK P []:=fun t i h=>by cases h
theorem GOK.cons {P:Program} {f:FuncId} {c:Con} {G:List (FuncId×Con)} (h:ConOK P f c) (hG:GOK P G):GOK P ((f,c) :: G):=by
 intro u j hj
 simp only [List.lookup] at hj
 cases e:u == f with
 | true =>
  rw [e] at hj
  cases hj
  have:u=f:=by simpa using e
  subst this
  exact h
 | false =>
  rw [e] at hj
  exact hG u j hj
end Go.Ev
