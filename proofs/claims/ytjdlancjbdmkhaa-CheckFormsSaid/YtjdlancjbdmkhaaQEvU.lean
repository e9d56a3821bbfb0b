/- A checked evaluator, part U: maps from numbers to bools; calls of functions that are not known. -/
import Derived.Test.YtjdlancjbdmkhaaQEvT
import Derived.Maps.Keyed
import Derived.MapKept
namespace Go.Ev
open Go.RowKit Go.Maps
set_option linter.unusedVariables false
def MapTy (P:Program) (t:TypeId):Prop :=
 ∃ kt et,P.underlying t=some (.map kt et)∧P.underlying kt=some (.int .i64)∧∀ w,(zeroValue et).run P w=.ok (.bool false) w
theorem wf_of {n:Int} (h:wfI n=true):(Lit.int .i64 n).wf=true:=by
 simp only [wfI,Bool.and_eq_true,decide_eq_true_eq] at h
 simp [Lit.wf,IntKind.min,IntKind.max,IntKind.bits,IntKind.signed]
 omega
theorem MapOK.keyed {P:Program} {kt:TypeId} (hk:P.underlying kt=some (.int .i64)) {es:Array MapEntry} {xs:List (Int×Bool)} (h:MapOK es xs):∀ e ∈ es.toList,∃ l,keyOf P kt e.key=some l:=by
 intro e he
 obtain ⟨x,b,h1,_,h3⟩:=h.all e he
 exact ⟨_,by rw [h1]; exact keyOf_int_mk hk (wf_of h3)⟩
theorem MapOK.find {P:Program} {kt:TypeId} (hk:P.underlying kt=some (.int .i64)) {es:Array MapEntry} {xs:List (Int×Bool)} (h:MapOK es xs) {n:Int} (hn:wfI n=true) (w:World) :
  ((Instr.findKey kt (.int .i64 n) es.toList).run P w=.ok none w∧xs.lookup n=none∧∀ e ∈ es.toList,e.key ≠ .int .i64 n) ∨
  ∃ j e b,(Instr.findKey kt (.int .i64 n) es.toList).run P w=.ok (some (j,.bool b)) w∧es.toList[j]?=some e∧e.key=.int .i64 n∧e.val=.bool b∧xs.lookup n=some b:=by
 rcases (int_keyed hk).find w (keyOf_int_mk hk (wf_of hn)) es.toList (h.keyed hk) with ⟨h1,h2⟩ | ⟨j,e,h1,h2,h3⟩
 ·refine .inl ⟨h1,?_,h2⟩
  cases hl:xs.lookup n with
  | none=>rfl
  | some b =>
   obtain ⟨e,he,hk1,_⟩:=(h.look n b hn).1 hl
   exact (h2 e he hk1).elim
 ·have hm:e ∈ es.toList:=List.mem_of_getElem? h2
  obtain ⟨x,b,h4,h5,h6⟩:=h.all e hm
  refine .inr ⟨j,e,b,?_,h2,h3,h5,(h.look n b hn).2 ⟨e,hm,h3,h5⟩⟩
  rw [h1,h5]
theorem lookup_cons_int (n x:Int) (b:Bool) (xs:List (Int×Bool)):((n,b) :: xs).lookup x=if x=n then some b else xs.lookup x:=by
 simp only [List.lookup]
 by_cases e:x=n
 ·subst e; simp
 ·have:(x == n)=false:=by simpa using e
  rw [this,if_neg e]
theorem MapOK.push {es:Array MapEntry} {xs:List (Int×Bool)} (h:MapOK es xs) {n:Int} (hn:wfI n=true) (b:Bool) (born:Nat) (hno:∀ e ∈ es.toList,e.key ≠ .int .i64 n):MapOK (es.push ⟨.int .i64 n,.bool b,born⟩) ((n,b) :: xs):=by
 constructor
 ·intro e he
  rw [Array.toList_push] at he
  rcases List.mem_append.1 he with he | he
  ·exact h.all e he
  ·rw [List.mem_singleton.1 he]; exact ⟨n,b,rfl,rfl,hn⟩
 ·rw [Array.toList_push,List.map_append]
  refine List.nodup_append.2 ⟨h.nodup,by simp,fun a ha c hc e1=>?_⟩
  obtain ⟨e,he,rfl⟩:=List.mem_map.1 ha
  simp at hc
  subst hc
  exact hno e he e1
 ·intro x b' hx
  rw [lookup_cons_int,Array.toList_push]
  constructor
  ·intro hl
   split at hl
   ·rename_i e1
    cases hl
    exact ⟨_,List.mem_append_right _ List.mem_cons_self,by rw [e1],rfl⟩
   ·obtain ⟨e,he,h1,h2⟩:=(h.look x b' hx).1 hl
    exact ⟨e,List.mem_append_left _ he,h1,h2⟩
  ·rintro ⟨e,he,h1,h2⟩
   rcases List.mem_append.1 he with he | he
   ·rw [if_neg ?_]
    ·exact (h.look x b' hx).2 ⟨e,he,h1,h2⟩
    ·exact fun e1=>hno e he (by rw [h1,e1])
   ·rw [List.mem_singleton.1 he] at h1 h2
    cases h1; cases h2
    rw [if_pos rfl]
theorem nodup_at {α β:Type} (f:α→β):∀ {l:List α},(l.map f).Nodup→∀ {i j:Nat} {a b:α},l[i]?=some a→l[j]?=some b→f a=f b→i=j:=by
 intro l hn i j a b hi hj e
 have h1:(l.map f)[i]?=some (f a):=by rw [List.getElem?_map,hi]; rfl
 have h2:(l.map f)[j]?=some (f b):=by rw [List.getElem?_map,hj]; rfl
 obtain ⟨l1,e1⟩:=List.getElem?_eq_some_iff.1 h1
 obtain ⟨l2,e2⟩:=List.getElem?_eq_some_iff.1 h2
 rcases Nat.lt_trichotomy i j with h | h | h
 ·exact (List.pairwise_iff_getElem.1 hn i j l1 l2 h (by rw [e1,e2,e])).elim
 ·exact h
 ·exact (List.pairwise_iff_getElem.1 hn j i l2 l1 h (by rw [e1,e2,e])).elim
theorem MapOK.modify {es:Array MapEntry} {xs:List (Int×Bool)} (h:MapOK es xs) {n:Int} (hn:wfI n=true) (b:Bool) {j:Nat} {e0:MapEntry} (hj:es.toList[j]?=some e0) (hk:e0.key=.int .i64 n) :
  MapOK (es.modify j fun e=>{ e with key:=.int .i64 n,val:=.bool b }) ((n,b) :: xs):=by
 obtain ⟨hjl,hje⟩:=List.getElem?_eq_some_iff.1 hj
 have hl:(es.modify j fun e=>{ e with key:=.int .i64 n,val:=.bool b }).toList=es.toList.set j { e0 with key:=.int .i64 n,val:=.bool b }:=by
  rw [Array.toList_modify]
  apply List.ext_getElem?
  intro i
  rw [List.getElem?_modify,List.getElem?_set]
  by_cases e:j=i
  ·subst e; rw [hj]; simpa using hjl
  ·simp [e]
 have keys:(es.toList.set j { e0 with key:=.int .i64 n,val:=.bool b }).map (·.key)=es.toList.map (·.key):=by
  rw [List.map_set]
  apply List.ext_getElem?
  intro i
  rw [List.getElem?_set]
  by_cases e:j=i
  ·subst e; simp [hj,hk]; simpa using hjl
  ·simp [e]
 constructor
 ·intro e he
  rw [hl] at he
  rcases List.mem_or_eq_of_mem_set he with he | rfl
  ·exact h.all e he
  ·exact ⟨n,b,rfl,rfl,hn⟩
 ·rw [hl,keys]; exact h.nodup
 ·intro x b' hx
  rw [lookup_cons_int,hl]
  constructor
  ·intro hlk
   split at hlk
   ·rename_i e1
    cases hlk
    exact ⟨_,List.mem_set hjl _,by rw [e1],rfl⟩
   ·rename_i hne
    obtain ⟨e,he,h1,h2⟩:=(h.look x b' hx).1 hlk
    obtain ⟨i,hi⟩:=List.getElem?_of_mem he
    refine ⟨e,?_,h1,h2⟩
    have hij:j ≠ i:=by
     rintro rfl
     rw [hj] at hi; cases hi
     rw [hk] at h1
     exact hne (by cases h1; rfl)
    exact List.mem_of_getElem? (i:=i) (by rw [List.getElem?_set]; simp [hij,hi])
  ·rintro ⟨e,he,h1,h2⟩
   obtain ⟨i,hi⟩:=List.getElem?_of_mem he
   rw [List.getElem?_set] at hi
   by_cases hij:j=i
   ·subst hij
    rw [if_pos rfl,if_pos hjl] at hi
    cases hi
    cases h1; cases h2
    rw [if_pos rfl]
   ·rw [if_neg hij] at hi
    rw [if_neg ?_]
    ·exact (h.look x b' hx).2 ⟨e,List.mem_of_getElem? hi,h1,h2⟩
    ·rintro rfl
     exact hij (nodup_at (·.key) h.nodup hj hi (hk.trans h1.symm))
section
variable {ρ:Type}
def opMakeMap (MT:List TypeId) (o:Oper) (base:Nat) (t:TypeId) (r:Option Operand) (kk:Rec→Option ρ):Option ρ:=match r with
 | none=>cnd (MT.contains t) (kk ⟨o.dst,some (.sv false [.own base]),[],[],[(base,some (.map []))],[base]⟩) none
 | some _=>none
theorem opMakeMap_ok {P:Program} {MT:List TypeId} {o:Oper} {σ:LS} {t:TypeId} {r:Option Operand} {base:Nat} {kk:Rec→Option ρ} {z:ρ} (ho:o.op=.makeMap t r) (h:opMakeMap MT o base t r kk=some z):∃ r,Good P o σ base r∧kk r=some z:=by
 unfold opMakeMap at h
 cases r with
 | some _=>cases h
 | none =>
 simp only at h
 cases hc:MT.contains t with
 | false=>rw [hc] at h; cases h
 | true =>
 rw [hc] at h
 refine ⟨_,⟨rfl,by simp,by simp,?_,?_⟩,h⟩
 ·intro id hid
  simp only [List.mem_singleton] at hid
  subst hid
  omega
 intro fr σ' φ I a w K Q hR hv hdn hK
 have hrun:(execOp a.eval o).run P w=.ok (.value (.map (some w.heap.size))) (w.alloc (.map #[] 0)):=by
  unfold execOp
  simp only [ho,Instr.makeMap,Option.map_none,Sem.run_bind,Result.andThen_ok,run_newObj,Sem.run_pure]
  rfl
 unfold Oper.wp
 rw [hrun,Oper.upon_value]
 have hf:σ'.fresh base:=hv.2.2 base (by simp)
 refine hK (ext φ base (.map (some w.heap.size))) I _ _ (hR.new ⟨o.dst,some (.sv false [.own base]),[],[],[(base,some (.map []))],[base]⟩ (id:=base) (hv:=.map []) (u:=.map (some w.heap.size)) (by exact hdn) rfl rfl hf (OnlyP.alloc _ _) ?_ ?_ ?_)
 ·intro b hb
  simp [blk] at hb
  omega
 ·refine ⟨w.heap.size,#[],0,ext_same,heap_alloc_new w _,⟨by simp,by simp,fun x b _=>by simp⟩⟩
 ·intro av e
  cases e
  exact ⟨ext_same,rfl⟩
def mapAt (σ:LS) (id:Nat):Option (List (Int×Bool)):=match σ.at id with
 | some (.map xs)=>some xs
 | _=>none
theorem mapAt_eq {σ:LS} {id:Nat} {xs:List (Int×Bool)} (h:mapAt σ id=some xs):σ.at id=some (.map xs):=by
 unfold mapAt at h
 split at h
 ·rename_i e; cases h; exact e
 ·cases h
def opMapUpdate (MT:List TypeId) (o:Oper) (σ:LS) (t:TypeId) (x y v:Operand) (kk:Rec→Option ρ):Option ρ :=
 match opd σ x,opd2 σ y v with
 | some (.sv false [.own id],tl),some (.sv false [.lit (.int .i64 n)],.sv false [.lit (.bool b)],tl')=>match mapAt σ id with
  | some xs=>cnd (MT.contains t) (if wfI n=true then kk ⟨o.dst,none,tl ++ tl',[(id,some (.map xs))],[(id,some (.map ((n,b) :: xs)))],[]⟩ else none) none
  | none=>none
 | _,_=>none
theorem opMapUpdate_ok {P:Program} {MT:List TypeId} (hMT:∀ t ∈ MT,MapTy P t) {o:Oper} {σ:LS} {t:TypeId} {x y v:Operand} {base:Nat} {kk:Rec→Option ρ} {z:ρ} (ho:o.op=.mapUpdate t x y v) (h:opMapUpdate MT o σ t x y v kk=some z):∃ r,Good P o σ base r∧kk r=some z:=by
 unfold opMapUpdate at h
 split at h
 case h_2=>cases h
 case h_1 id tl n b tl' hx hy =>
 split at h
 case h_2=>cases h
 case h_1 xs hm =>
 have hm:=mapAt_eq hm
 cases hc:MT.contains t with
 | false=>rw [hc] at h; cases h
 | true =>
 rw [hc] at h
 have h:(if wfI n=true then kk ⟨o.dst,none,tl ++ tl',[(id,some (.map xs))],[(id,some (.map ((n,b) :: xs)))],[]⟩ else none)=some z:=h
 obtain ⟨hn,h⟩:=ite_some h rfl
 obtain ⟨kt,et,ht,hk,hz⟩:=hMT t (by simpa using hc)
 refine ⟨_,⟨rfl,?_,by simpa using hm,by simp,?_⟩,h⟩
 ·intro p hp
  rcases List.mem_append.1 hp with hp | hp
  ·exact opd_temps hx p hp
  ·exact opd2_temps hy p hp
 intro fr σ' φ I a w K Q hR hv hdn hK
 have hx1:=opd_eval hx hR fun p hp=>hv.1 p (List.mem_append_left _ hp)
 obtain ⟨hy1,hy2⟩:=opd2_eval hy hR fun p hp=>hv.1 p (List.mem_append_right _ hp)
 have hx2:φ id=some (a.eval x):=hx1.1
 have hy1:a.eval y=.int .i64 n:=hy1
 have hy2:a.eval v=.bool b:=hy2
 have hat:=hv.2.1 _ List.mem_cons_self
 obtain ⟨bb,es,cl,e1,e2,e3⟩:=hR.heap id _ hat
 rw [e1] at hx2
 have hx3:a.eval x=.map (some bb):=(Option.some.inj hx2).symm
 have hck:=(int_keyed hk).check w false (keyOf_int_mk hk (wf_of hn))
 have hst:=(int_keyed hk).stays w (keyOf_int_mk hk (wf_of hn))
 obtain ⟨es',cl',hrun,hok⟩:∃ es' cl',(execOp a.eval o).run P w=.ok .skip { w with heap:=w.heap.setIfInBounds bb (.map es' cl') }∧MapOK es' ((n,b) :: xs):=by
  rcases e3.find hk hn w with ⟨h1,h2,h3⟩ | ⟨j,e,b',h1,h2,h3,h4,h5⟩
  ·refine ⟨es.push ⟨.int .i64 n,.bool b,cl⟩,cl + 1,?_,e3.push hn b cl h3⟩
   unfold execOp
   simp [ho,hx3,hy1,hy2,Instr.mapUpdate,run_underlying ht,MapKept.run_getObj_map e2,hck,h1,MapKept.run_setObj_map _ e2,Result.andThen]
  ·refine ⟨es.modify j fun e=>{ e with key:=.int .i64 n,val:=.bool b },cl,?_,e3.modify hn b h2 h3⟩
   have hj:es[j]?=some e:=by simpa using h2
   unfold execOp
   simp [ho,hx3,hy1,hy2,Instr.mapUpdate,run_underlying ht,MapKept.run_getObj_map e2,hck,h1,hj,h3,hst,MapKept.run_setObj_map _ e2,Result.andThen]
 have hlt:bb < w.heap.size:=(Array.getElem?_eq_some_iff.1 e2).1
 unfold Oper.wp
 rw [hrun,Oper.upon_skip]
 refine hK φ I undef _ (hR.put ⟨o.dst,none,tl ++ tl',[(id,some (.map xs))],[(id,some (.map ((n,b) :: xs)))],[]⟩ (id:=id) (b:=bb) (hv:=.map ((n,b) :: xs)) hdn rfl rfl hat rfl e1 rfl ?_ ?_ (fun av e=>by cases e))
 ·refine ⟨rfl,rfl,rfl,by simp,fun k hk hne=>?_⟩
  simp only [Array.getElem?_setIfInBounds]
  rw [if_neg (fun e=>hne e.symm)]
 ·refine ⟨bb,es',cl',e1,?_,hok⟩
  simp [Array.getElem?_setIfInBounds,hlt]
def opLookup (MT:List TypeId) (o:Oper) (σ:LS) (t:TypeId) (x y:Operand) (ok:Bool) (kk:Rec→Option ρ):Option ρ :=
 match ok with
 | true=>none
 | false=>match opd2 σ x y with
  | some (.sv false [c],.sv false [.lit (.int .i64 n)],tl)=>match c with
   | .own id=>match mapAt σ id with
    | some xs=>cnd (MT.contains t) (if wfI n=true then kk (valK o tl [(id,some (.map xs))] (.sv false [.lit (.bool (mget xs n))])) else none) none
    | none=>none
   | .immm xs=>cnd (MT.contains t) (if wfI n=true then kk (valK o tl [] (.sv false [.lit (.bool (mget xs n))])) else none) none
   | _=>none
  | _=>none
theorem run_lookup {P:Program} {t:TypeId} (ht:MapTy P t) {w:World} {m:Value} {xs:List (Int×Bool)} {n:Int} (hn:wfI n=true)
  (hm:(m=.map none∧xs=[]) ∨ ∃ b es cl,m=.map (some b)∧w.heap[b]?=some (.map es cl)∧MapOK es xs):(Instr.lookup t m (.int .i64 n) false).run P w=.ok (.bool (mget xs n)) w:=by
 obtain ⟨kt,et,ht,hk,hz⟩:=ht
 have hck:=fun e=>(int_keyed hk).check w e (keyOf_int_mk hk (wf_of hn))
 rcases hm with ⟨rfl,rfl⟩ | ⟨b,es,cl,rfl,h1,h2⟩
 ·have h3:(Instr.findKey kt (.int .i64 n) ([]:List MapEntry)).run P w=.ok none w:=by
   rcases (int_keyed hk).find w (keyOf_int_mk hk (wf_of hn)) [] (by simp) with ⟨h1,_⟩ | ⟨j,e,_,h2,_⟩
   ·exact h1
   ·simp at h2
  simp [Instr.lookup,run_underlying ht,hck,h3,hz,Result.andThen,mget]
 ·rcases h2.find hk hn w with ⟨h3,h4,_⟩ | ⟨j,e,b',h3,_,_,_,h4⟩
  ·simp [Instr.lookup,run_underlying ht,MapKept.run_getObj_map h1,hck,h3,hz,Result.andThen,mget,h4]
  ·simp [Instr.lookup,run_underlying ht,MapKept.run_getObj_map h1,hck,h3,hz,Result.andThen,mget,h4]
theorem opLookup_ok {P:Program} {MT:List TypeId} (hMT:∀ t ∈ MT,MapTy P t) {o:Oper} {σ:LS} {t:TypeId} {x y:Operand} {ok:Bool} {base:Nat} {kk:Rec→Option ρ} {z:ρ} (ho:o.op=.lookup t x y ok) (h:opLookup MT o σ t x y ok kk=some z):∃ r,Good P o σ base r∧kk r=some z:=by
 unfold opLookup at h
 cases ok with
 | true=>cases h
 | false =>
 simp only at h
 split at h
 case h_2=>cases h
 case h_1 c n tl hxy =>
 split at h
 case h_3=>cases h
 case h_1 id =>
  split at h
  case h_2=>cases h
  case h_1 xs hm =>
  have hm:=mapAt_eq hm
  cases hc:MT.contains t with
  | false=>rw [hc] at h; cases h
  | true =>
  rw [hc] at h
  have h:(if wfI n=true then kk (valK o tl [(id,some (.map xs))] (.sv false [.lit (.bool (mget xs n))])) else none)=some z:=h
  obtain ⟨hn,h⟩:=ite_some h rfl
  refine ⟨_,valK_ok (opd2_temps hxy) (by simpa using hm) fun fr σ' φ I a w hR hv hh=>?_,h⟩
  obtain ⟨h1,h2⟩:=opd2_eval hxy hR hv
  have h2:a.eval y=.int .i64 n:=h2
  have h1:φ id=some (a.eval x):=h1.1
  obtain ⟨bb,es,cl,e1,e2,e3⟩:=hR.heap id _ (hh _ List.mem_cons_self)
  rw [e1] at h1
  refine ⟨_,?_,rfl⟩
  unfold execOp
  simp only [ho,h2,Sem.run_bind,run_lookup (hMT t (by simpa using hc)) hn (m:=a.eval x) (.inr ⟨bb,es,cl,(Option.some.inj h1).symm,e2,e3⟩),Result.andThen_ok,Sem.run_pure]
 case h_2 xs =>
  cases hc:MT.contains t with
  | false=>rw [hc] at h; cases h
  | true =>
  rw [hc] at h
  have h:(if wfI n=true then kk (valK o tl [] (.sv false [.lit (.bool (mget xs n))])) else none)=some z:=h
  obtain ⟨hn,h⟩:=ite_some h rfl
  refine ⟨_,valK_ok (opd2_temps hxy) (by simp) fun fr σ' φ I a w hR hv hh=>?_,h⟩
  obtain ⟨h1,h2⟩:=opd2_eval hxy hR hv
  have h2:a.eval y=.int .i64 n:=h2
  obtain ⟨u,e1,h1⟩:∃ v,[a.eval x]=[v]∧((v=.map none∧xs=[]) ∨ ∃ b es cl,v=.map (some b)∧I b∧w.heap[b]?=some (.map es cl)∧MapOK es xs):=h1
  simp only [List.cons.injEq,and_true] at e1
  subst e1
  refine ⟨_,?_,rfl⟩
  unfold execOp
  simp only [ho,h2,Sem.run_bind,run_lookup (hMT t (by simpa using hc)) hn (m:=a.eval x) (h1.imp id fun ⟨b,es,cl,e1,_,e2,e3⟩=>⟨b,es,cl,e1,e2,e3⟩),Result.andThen_ok,Sem.run_pure]
def fnEq (g:Option Nat) (f:FuncId):Bool:=decide (g=some f)
def opCallD (DF:List FuncId) (G:List (FuncId×Con)) (n:Nat) (o:Oper) (σ:LS) (base:Nat) (g:Option Nat) (tl0:List (Tmp×AV)) (args:List Operand) (kk:Rec→Option ρ):List FuncId→Option ρ
 | []=>none
 | f :: fs=>cond (fnEq g f) (opCallV DF G n o σ base f [] tl0 args kk) (opCallD DF G n o σ base g tl0 args kk fs)
theorem opCallD_ok {P:Program} {DF:List FuncId} {G:List (FuncId×Con)} (hG:GOK P G) {n:Nat} {o:Oper} {σ:LS} {fv:Operand} {args:Array Operand} {ts:Array TypeId} {base:Nat} {g:Option Nat} {tl0:List (Tmp×AV)} {kk:Rec→Option ρ} {z:ρ} (ho:o.op=.call { callee:=.value fv,args,argTypes:=ts })
  (hf:opd σ fv=some (.sv false [.dyn g],tl0)):∀ (l:List FuncId),opCallD DF G n o σ base g tl0 args.toList kk l=some z→∃ r,Good P o σ base r∧kk r=some z
 | [],h=>by cases h
 | f :: fs,h=>by
  unfold opCallD at h
  cases he:fnEq g f with
  | false=>rw [he] at h; exact opCallD_ok hG ho hf fs h
  | true =>
   rw [he] at h
   have he:g=some f:=by simpa [fnEq] using he
   subst he
   refine opCallV_ok hG ho (fun p hp=>opd_temps hf p hp) (fun fr σ' φ I act w hR hp=>?_) h
   have:=opd_eval hf hR hp
   exact ⟨[],this,trivial⟩
end
end Go.Ev
