/- A checked evaluator, part Z: strings: put together, compared, cut; bytes as a string; a string's bytes behind a row. -/
import Derived.Test.YtjdlancjbdmkhaaQEvY
import Derived.Lib.AppendStr
import Derived.Laws.BytesString
import Derived.WideShapes
namespace Go.Ev
open Go.RowKit
set_option linter.unusedVariables false
set_option linter.unusedSimpArgs false
def catS (a b:ByteArray):ByteArray:=⟨⟨a.data.toList ++ b.data.toList⟩⟩
def subS (s:ByteArray) (l h:Nat):ByteArray:=⟨⟨(s.data.toList.take h).drop l⟩⟩
def eqS (a b:ByteArray):Bool:=a.data.toList == b.data.toList
def ofB (l:List Int):ByteArray:=⟨⟨l.map fun n=>UInt8.ofNat n.toNat⟩⟩
def toB (s:ByteArray):List Int:=s.data.toList.map fun b=>((b.toNat:Nat):Int)
theorem catS_eq (a b:ByteArray):a ++ b=catS a b:=by
 apply Go.WideShapes.bytes_inj
 show (a ++ b).data.toList=a.data.toList ++ b.data.toList
 rw [ByteArray.data_append,Array.toList_append]
theorem eqS_eq (a b:ByteArray):(a.toList == b.toList)=eqS a b:=by
 unfold eqS
 rw [ByteArray.toList_eq,ByteArray.toList_eq]
theorem subS_eq (s:ByteArray) (l h:Nat):s.extract l h=subS s l h:=by
 apply Go.WideShapes.bytes_inj
 show (s.extract l h).data.toList=(s.data.toList.take h).drop l
 rw [ByteArray.data_extract,Array.toList_extract]
 simp [List.extract_eq_take_drop,List.drop_take]
theorem toB_cells (s:ByteArray):(toB s).map (Value.int .u8)=Lib.strCells s:=by
 unfold toB Lib.strCells
 rw [List.map_map]; rfl
theorem toB_length (s:ByteArray):(toB s).length=s.size:=by
 unfold toB; rw [List.length_map,Array.length_toList]; rfl
theorem ofB_push:∀ (l:List Int) (s:ByteArray),l.foldl (fun r n=>r.push (UInt8.ofNat n.toNat)) s=catS s (ofB l)
 | [],s=>by
  apply Go.WideShapes.bytes_inj
  show s.data.toList=s.data.toList ++ []
  rw [List.append_nil]
 | n :: l,s=>by
  rw [List.foldl_cons,ofB_push l]
  apply Go.WideShapes.bytes_inj
  show (s.push (UInt8.ofNat n.toNat)).data.toList ++ (ofB l).data.toList=s.data.toList ++ (ofB (n :: l)).data.toList
  rw [ByteArray.data_push,Array.toList_push]
  simp [ofB]
theorem ofB_fold (l:List Int):l.foldl (fun r n=>r.push (UInt8.ofNat n.toNat)) ByteArray.empty=ofB l:=by
 rw [ofB_push]; rfl
theorem lst_bytes {I:Nat→Prop} {w:World}:∀ {l:List Int} {us:List Value},lst (RdC I w (.int .u8)) l us ↔ us=l.map (Value.int .u8)
 | [],us=>Iff.rfl
 | n :: l,us=>by
  constructor
  ·rintro ⟨v1,v2,rfl,h1,h2⟩
   rw [show v1=_ from h1,lst_bytes.1 h2]; rfl
  ·rintro rfl
   exact ⟨[.int .u8 n],_,rfl,rfl,lst_bytes.2 rfl⟩
section
variable {ρ:Type}
def strB (op:BinOp) (a b:ByteArray):Option (Option Bool×Value) :=
 match op with
 | .add=>some (some (decide (a.size + b.size ≤ 9223372036854775807)),.string (catS a b))
 | .eql=>some (none,.bool (eqS a b))
 | .neq=>some (none,.bool (!eqS a b))
 | _=>none
def opBinZ (T:List (TypeId×TI)) (o:Oper) (σ:LS) (op:BinOp) (t:TypeId) (x y:Operand) (k:Rec→Option ρ):Option ρ :=
 match opd2 σ x y with
 | some (.sv false [.lit (.string a)],.sv false [.lit (.string b)],tl)=>match strB op a b with
  | some (none,r)=>k (valK o tl [] (.sv false [.lit r]))
  | some (some c,r)=>cnd c (k (valK o tl [] (.sv false [.lit r]))) none
  | none=>none
 | _=>opBinN T o σ op t x y k
theorem strB_ok {P:Program} {op:BinOp} {a b:ByteArray} {q:Option Bool} {r:Value} (h:strB op a b=some (q,r)) (hq:∀ c,q=some c→c=true) (t:TypeId) (w:World) :
  (binOp op t (.string a) (.string b)).run P w=.ok r w∧∃ c,r=c∧RV (fun _=>False) (fun _=>none) (fun _=>False) w (.lit c) r:=by
 refine ⟨?_,r,rfl,rfl⟩
 unfold strB at h
 split at h
 ·cases h
  have hc:=of_decide_eq_true (hq _ rfl)
  have:¬ ((((a.size + b.size:Nat):Int)) > IntKind.i64.max):=by
   rw [show IntKind.i64.max=9223372036854775807 from rfl]; omega
  simp only [binOp,Op.stringOp,this,if_false,Sem.run_pure,catS_eq]
 ·cases h; simp only [binOp,Op.stringOp,Sem.run_pure,eqS_eq]
 ·cases h; simp only [binOp,Op.stringOp,Sem.run_pure,eqS_eq]
 ·cases h
theorem opBinZ_ok {P:Program} {T:List (TypeId×TI)} (hT:TOK P T) {o:Oper} {σ:LS} {op:BinOp} {t yt:TypeId} {x y:Operand} {base:Nat} {k:Rec→Option ρ} {z:ρ} (ho:o.op=.binOp op t x y yt) (h:opBinZ T o σ op t x y k=some z):∃ r,Good P o σ base r∧k r=some z:=by
 unfold opBinZ at h
 split at h
 case h_2=>exact opBinN_ok hT ho h
 case h_1 a b tl hx =>
 have hg:∀ (u v:Operand) (w:World),(eqGuard op t u v (.string a) (.string b)).run P w=.ok () w:=fun _ _ _=>by unfold eqGuard; split <;> rfl
 have main:∀ q r,strB op a b=some (q,r)→(∀ c,q=some c→c=true)→Good P o σ base (valK o tl [] (.sv false [.lit r])):=by
  intro q r hs hq
  refine valK_ok (opd2_temps hx) (by simp) fun fr σ' φ I act w hR hv hh=>?_
  obtain ⟨h1,h2⟩:=opd2_eval hx hR hv
  have h1:act.eval x=.string a:=h1
  have h2:act.eval y=.string b:=h2
  refine ⟨r,?_,rfl⟩
  unfold execOp
  simp only [ho,h1,h2,Sem.run_bind,hg,Result.andThen_ok,(strB_ok hs hq t w).1,Sem.run_pure]
 split at h
 case h_1 r hs=>exact ⟨_,main _ _ hs (fun c e=>by cases e),h⟩
 case h_2 c r hs =>
  cases c with
  | false=>cases h
  | true=>exact ⟨_,main _ _ hs (fun c e=>by cases e; rfl),h⟩
 case h_3=>cases h
def opSliceZ (T:List (TypeId×TI)) (o:Oper) (σ:LS) (t:TypeId) (x:Operand) (lo hi:Option Operand) (kk:Rec→Option ρ):Option ρ :=
 match opd σ x,opSlice.opdO σ lo,opSlice.opdO σ hi with
 | some (.sv false [.lit (.string s)],tl),some (l,tl1),some (h,tl2)=>match (T.lookup t).map TI.kind with
  | some TK.str=>if 0 ≤ l.getD 0∧l.getD 0 ≤ h.getD (s.size:Nat)∧h.getD (s.size:Nat) ≤ (s.size:Nat) then
    kk (valK o (tl ++ (tl1 ++ tl2)) [] (.sv false [.lit (.string (subS s (l.getD 0).toNat (h.getD (s.size:Nat)).toNat))])) else none
  | _=>none
 | _,_,_=>opSliceV T o σ t x lo hi kk
theorem run_boundsS {P:Program} {w:World} {n:Nat} {lo hi:Option Value} {l h:Option Int} (hl:(lo=none∧l=none) ∨ ∃ k m,l=some m∧lo=some (.int k m)) (hh:(hi=none∧h=none) ∨ ∃ k m,h=some m∧hi=some (.int k m))
  (h1:0 ≤ l.getD 0) (h2:l.getD 0 ≤ h.getD (n:Nat)) (h3:h.getD (n:Nat) ≤ (n:Nat)):(Instr.sliceBounds false n n lo hi none).run P w=.ok ((l.getD 0).toNat,(h.getD (n:Nat)).toNat,n) w:=by
 have h4:0 ≤ h.getD (n:Nat):=Int.le_trans h1 h2
 unfold Instr.sliceBounds
 rcases hl with ⟨rfl,rfl⟩ | ⟨kl,ml,rfl,rfl⟩ <;> rcases hh with ⟨rfl,rfl⟩ | ⟨kh,mh,rfl,rfl⟩
 ·simp
 ·simp only [Option.getD_some,Option.getD_none] at *
  simp [Instr.sliceBound,asIntOf,h4,h3]
 ·simp only [Option.getD_some,Option.getD_none] at *
  simp [Instr.sliceBound,asIntOf,h1,h2]
 ·simp only [Option.getD_some] at *
  have e2:ml ≤ ((mh.toNat:Nat):Int):=by omega
  simp only [Sem.run_bind,Instr.sliceBound,asIntOf,Sem.run_pure,Result.andThen_ok,h4,h3,and_self,if_true,h1,e2]
theorem opSliceZ_ok {P:Program} {T:List (TypeId×TI)} (hT:TOK P T) {o:Oper} {σ:LS} {t:TypeId} {x:Operand} {lo hi:Option Operand} {base:Nat} {kk:Rec→Option ρ} {z:ρ} (ho:o.op=.slice t x lo hi none) (h:opSliceZ T o σ t x lo hi kk=some z):∃ r,Good P o σ base r∧kk r=some z:=by
 unfold opSliceZ at h
 split at h
 case h_2=>exact opSliceV_ok hT ho h
 case h_1 s tl l tl1 hh tl2 hx hlo hhi =>
 split at h
 case h_2=>cases h
 case h_1 hk =>
 have h0:=ite_some h rfl
 clear h
 obtain ⟨⟨hb1,hb2,hb3⟩,h⟩:=h0
 obtain ⟨ti,hti,hkind⟩:=Option.map_eq_some_iff.1 hk
 obtain ⟨d,hd,hkd⟩:=(hT t ti hti).under
 rw [hkind] at hkd
 simp only [TK.ok] at hkd
 subst hkd
 have temps:∀ p ∈ tl ++ (tl1 ++ tl2),σ.get p.1=some p.2:=by
  intro p hp
  rcases List.mem_append.1 hp with hp | hp
  ·exact opd_temps hx p hp
  ·rcases List.mem_append.1 hp with hp | hp
   ·exact opdO_temps hlo p hp
   ·exact opdO_temps hhi p hp
 refine ⟨_,valK_ok temps (by simp) fun fr σ' φ I a w hR hv hvh=>?_,h⟩
 have e1:a.eval x=.string s:=opd_eval hx hR fun p hp=>hv p (List.mem_append_left _ hp)
 have e2:=opdO_eval hlo hR fun p hp=>hv p (List.mem_append_right _ (List.mem_append_left _ hp))
 have e3:=opdO_eval hhi hR fun p hp=>hv p (List.mem_append_right _ (List.mem_append_right _ hp))
 have e2':(lo.map a.eval=none∧l=none) ∨ ∃ k m,l=some m∧lo.map a.eval=some (.int k m):=by
  rcases e2 with ⟨rfl,rfl⟩ | ⟨k,m,rfl,e⟩
  ·exact .inl ⟨rfl,rfl⟩
  ·exact .inr ⟨k,m,rfl,e⟩
 have e3':(hi.map a.eval=none∧hh=none) ∨ ∃ k m,hh=some m∧hi.map a.eval=some (.int k m):=by
  rcases e3 with ⟨rfl,rfl⟩ | ⟨k,m,rfl,e⟩
  ·exact .inl ⟨rfl,rfl⟩
  ·exact .inr ⟨k,m,rfl,e⟩
 have hbd:=run_boundsS (P:=P) (w:=w) (n:=s.size) e2' e3' hb1 hb2 hb3
 refine ⟨_,?_,rfl⟩
 unfold execOp
 simp only [ho,e1,Instr.sliceAt,Sem.run_bind,run_underlying hd,Result.andThen_ok,Instr.slice,Option.map_none,Option.isSome_none,Bool.false_eq_true,if_false,hbd,Sem.run_pure,subS_eq]
def opConvZ (T:List (TypeId×TI)) (o:Oper) (σ:LS) (s d:TypeId) (x:Operand) (k:Rec→Option ρ):Option ρ :=
 match (T.lookup s).map TI.kind,(T.lookup d).map TI.kind with
 | some (TK.slice e),some TK.str=>match (T.lookup e).map TI.kind,opd σ x with
  | some (TK.int .u8),some (.sv false [c],tl)=>match opAppend.qAny σ e (.int .u8) c with
   | some (xs,hp)=>k (valK o tl hp (.sv false [.lit (.string (ofB xs))]))
   | none=>none
  | _,_=>none
 | _,_=>opConv T o σ s d x k
theorem opConvZ_ok {P:Program} {T:List (TypeId×TI)} (hT:TOK P T) {o:Oper} {σ:LS} {s d:TypeId} {x:Operand} {base:Nat} {k:Rec→Option ρ} {z:ρ} (ho:o.op=.convert s d x) (h:opConvZ T o σ s d x k=some z):∃ r,Good P o σ base r∧k r=some z:=by
 unfold opConvZ at h
 split at h
 case h_2=>exact opConv_ok hT ho h
 case h_1 e hs hd =>
 split at h
 case h_2=>cases h
 case h_1 c tl he hx =>
 split at h
 case h_2=>cases h
 case h_1 xs hp hq =>
 obtain ⟨si,hsi,hs2⟩:=Option.map_eq_some_iff.1 hs
 obtain ⟨di,hdi,hd2⟩:=Option.map_eq_some_iff.1 hd
 obtain ⟨ei,hei,he2⟩:=Option.map_eq_some_iff.1 he
 obtain ⟨ds,hds,hks⟩:=(hT s si hsi).under
 obtain ⟨dd,hdd,hkd⟩:=(hT d di hdi).under
 obtain ⟨de,hde,hke⟩:=(hT e ei hei).under
 rw [hs2] at hks
 rw [hd2] at hkd
 rw [he2] at hke
 simp only [TK.ok] at hks hkd hke
 subst hks; subst hkd; subst hke
 refine ⟨_,valK_ok (opd_temps hx) (qAny_hp hq) fun fr σ' φ I act w hR hv hh=>?_,h⟩
 have h1:=opd_eval hx hR hv
 obtain ⟨ad,cap,us,h3,h4,h5,h6⟩:=qAny_ok hq hR hh (show RV fr.J φ I w c (act.eval x) from h1)
 have hus:=lst_bytes.1 h4
 refine ⟨.string (ofB xs),?_,rfl⟩
 unfold execOp
 simp only [ho,h3]
 rw [Sem.run_bind,run_convert_bytes_string w s d e ad xs.length cap hds hde hdd]
 rcases h6 with h6 | ⟨b,o',rfl,h7⟩
 ·subst h6
  cases ad with
  | none=>rfl
  | some a =>
   have hl:(loadCells a 0).run P w=.ok (([]:List Int).map (Value.int .u8)).toArray w:=by simp [loadCells,loadCellsFrom]
   have hr:=run_bytesToString (P:=P) w a 0 cap [] hl
   rw [ofB_fold] at hr
   rw [show ([]:List (D (.int .u8))).length=0 from rfl,hr]
   rfl
 ·have hl:(loadCells ⟨b,o',none⟩ xs.length).run P w=.ok (xs.map (Value.int .u8)).toArray w:=by
   rw [← hus]
   exact run_load_cells (by rw [hus,List.length_map]) h7
  have hr:=run_bytesToString (P:=P) w ⟨b,o',none⟩ xs.length cap xs hl
  rw [ofB_fold] at hr
  rw [hr]
  rfl
theorem run_append_str_at {P:Program} (w:World) (t u ty e:TypeId) (i:TypeInfo) (z:Value) (ht:P.underlying t=some (.slice e)) (hu:P.underlying u=some .string) (hi:P.info? e=some i) (hz:i.zero=some z) (hzc:z.cells.size=1) (hsize:i.size=1) (hby:i.bytes=1)
  (v:Value) (n:Nat) (xs:List Value) (hown:w.ownsRow 0 e 1 v n xs) (s:ByteArray) (h63:n + s.size ≤ maxLen) (hbytes:n + s.size ≤ 140737488355328) :
  ∃ v' w',(Builtin.append_ #[t,u] ty #[v,.string s]).run P w=.ok v' w'∧w'.ownsRow 0 e 1 v' (n + s.size) (xs ++ Lib.strCells s)∧w.grownBy w' v.ownBlock∧(v'.ownBlock=v.ownBlock ∨ v'.ownBlock=some w.heap.size):=by
 have hsmall:n + s.size ≤ 9223372036854775807:=by simp only [maxLen] at h63; omega
 have hxl:xs.length=n:=by simpa using hown.1
 have hlen:(xs ++ Lib.strCells s).length=(n + s.size) * 1:=by rw [List.length_append,hxl,Lib.strCells_length,Nat.mul_one]
 have grown:∀ (old:Nat),old < n + s.size→∀ (row:Option Nat),
   (w.drew.alloc (.cells (xs.toArray ++ (Lib.strCells s).toArray ++ Builtin.zeroCells z.cells (grownCap w (n + s.size) old e - (n + s.size))) e)).ownsRow 0 e 1 (.slice (some ⟨w.heap.size,0,none⟩) (n + s.size) (grownCap w (n + s.size) old e)) (n + s.size) (xs ++ Lib.strCells s) ∧
   w.grownBy (w.drew.alloc (.cells (xs.toArray ++ (Lib.strCells s).toArray ++ Builtin.zeroCells z.cells (grownCap w (n + s.size) old e - (n + s.size))) e)) row:=by
  intro old ho row
  have hge:=grownCap_ge w (n + s.size) old e
  have hcm:grownCap w (n + s.size) old e ≤ maxLen:=grownCap_le_maxLen w (n + s.size) old e h63
  refine ⟨⟨hlen,.inr ⟨w.heap.size,_,_,rfl,Nat.zero_le _,heap_alloc_new w.drew _,hge,hcm,?_,?_⟩⟩,⟨rfl,rfl,rfl,by simp,fun k hk _=>heap_alloc_old w.drew _ hk⟩⟩
  ·simp only [Array.size_append,List.size_toArray,size_zeroCells,hzc,hxl,Lib.strCells_length]
   omega
  ·simp only [Array.toList_append,List.append_assoc]
   rw [← List.append_assoc,← hlen]
   exact List.take_left
 rcases hown.2 with ⟨rfl,rfl⟩ | ⟨g,cap,cur,rfl,hbg,hg,hnc,hcm,hcs,htake⟩
 ·have hx:xs=[]:=List.eq_nil_of_length_eq_zero hxl
  subst hx
  by_cases hm:s.size=0
  ·have hn:Lib.strCells s=[]:=List.eq_nil_of_length_eq_zero (by rw [Lib.strCells_length]; exact hm)
   refine ⟨.slice none 0 0,w,?_,by rw [hm,hn]; exact World.ownsRow_nil w 0 e 1,⟨rfl,rfl,rfl,Nat.le_refl _,fun _ _ _=>rfl⟩,.inl rfl⟩
   have hf:=Lib.run_firstCells_string (P:=P) w 1 s
   rw [hm] at hf
   simp [Builtin.append_,run_underlying ht,run_underlying hu,sizeOf,typeInfo,hi,hsize,Builtin.lenOf,hm,hf]
  ·have hr:=run_append_nil_string (P:=P) w t u ty e i z ht hu hi hz s (by omega) (by omega) (by rw [hby]; omega)
   have hgr:=grown 0 (by omega) (Value.ownBlock (.slice none 0 0))
   simp only [Nat.zero_add,List.nil_append,Array.empty_append] at hgr ⊢
   have e1:(s.data.map fun b=>Value.int .u8 b.toNat)=(Lib.strCells s).toArray:=by
    apply Array.ext'
    simp [Lib.strCells]
   rw [e1] at hr
   exact ⟨_,_,hr,hgr.1,hgr.2,.inr rfl⟩
 ·by_cases hroom:n + s.size ≤ cap
  ·have hcs':cur.size=cap:=by simpa using hcs
   have hr:=Lib.run_append_room_string (P:=P) w t u ty e i ht hu hi hsize g n cap cur hg s hroom (by omega)
   refine ⟨_,_,hr,⟨hlen,.inr ⟨g,cap,_,rfl,hbg,setRow_heap w g cur _ e _ hg,hroom,hcm,?_,?_⟩⟩,⟨rfl,rfl,rfl,by simp,fun k _ hk=>setRow_other w g k _ (fun e=>hk (by simp [Value.ownBlock,e]))⟩,.inl rfl⟩
   ·simp only [List.size_toArray,List.length_append,List.length_take,List.length_drop,Array.length_toList,Lib.strCells_length]
    omega
   ·have ht':cur.toList.take n=xs:=by simpa using htake
    rw [ht',← hlen]
    exact List.take_left
  ·have holds:∀ j u,xs[j]?=some u→w.cell? ((⟨g,0,none⟩:Addr).add j)=some u:=hown.cells (g:=g) rfl
   have hr:=Lib.run_append_grow_string (P:=P) w t u ty e i z ht hu hi hz ⟨g,0,none⟩ n cap xs (by rw [hsize]; simpa using hxl) holds s (by omega) (by omega) (by rw [hby]; exact growslice_fits (by omega) (by omega))
   have hgr:=grown cap (by omega) (Value.ownBlock (.slice (some ⟨g,0,none⟩) n cap))
   exact ⟨_,_,hr,hgr.1,hgr.2,.inr rfl⟩
def opAppendS (T:List (TypeId×TI)) (o:Oper) (σ:LS) (base:Nat) (t t':TypeId) (x y:Operand) (kk:Rec→Option ρ):Option ρ :=
 match T.lookup t,(T.lookup t').map TI.kind,opd2 σ x y with
 | some ti,some TK.str,some (.sv false [c],.sv false [.lit (.string s)],tl)=>match ti.kind with
  | .slice e=>match T.lookup e with
   | some ei=>match ei.kind with
    | .int .u8=>if ei.ty=some (.int .u8)∧ei.bytes=1 then (match rowOf σ e (.int .u8) c with
     | some (xs,hp,old)=>if xs.length + s.size ≤ 140737488355328 then kk (rowRec o tl hp old base e (.int .u8) (xs ++ toB s)) else none
     | none=>none) else none
    | _=>none
   | none=>none
  | _=>none
 | _,_,_=>none
theorem opAppendS_ok {P:Program} {T:List (TypeId×TI)} (hT:TOK P T) {o:Oper} {σ:LS} {t t':TypeId} {x y:Operand} {base:Nat} {kk:Rec→Option ρ} {z:ρ} (ho:o.op=.call { callee:=.builtin .append,args:=#[x,y],argTypes:=#[t,t'] }) (h:opAppendS T o σ base t t' x y kk=some z):∃ r,Good P o σ base r∧kk r=some z:=by
 unfold opAppendS at h
 split at h
 case h_2=>cases h
 case h_1 ti c s tl hti hst hx =>
 split at h
 case h_2=>cases h
 case h_1 e hkind =>
 split at h
 case h_2=>cases h
 case h_1 ei hei =>
 split at h
 case h_2=>cases h
 case h_1 hek =>
 have h0:=ite_some h rfl
 clear h
 obtain ⟨⟨hty,hby⟩,h⟩:=h0
 split at h
 case h_2=>cases h
 case h_1 xs hp old hrow =>
 have h0:=ite_some h rfl
 clear h
 obtain ⟨hfit,h⟩:=h0
 obtain ⟨dd,hd,hkd⟩:=(hT t ti hti).under
 rw [hkind] at hkd
 simp only [TK.ok] at hkd
 subst hkd
 obtain ⟨si,hsi,hs2⟩:=Option.map_eq_some_iff.1 hst
 obtain ⟨ds,hds,hks⟩:=(hT t' si hsi).under
 rw [hs2] at hks
 simp only [TK.ok] at hks
 subst hks
 obtain ⟨it,zv,hi1,hi2,hi3,hi4,hi5⟩:=(hT e ei hei).info
 obtain ⟨de,hde,hke⟩:=(hT e ei hei).under
 rw [hek] at hke
 simp only [TK.ok] at hke
 subst hke
 refine ⟨_,⟨rfl,opd2_temps hx,fun p hp0=>rowOf_hp hrow p hp0,by simp [rowRec],rowRec_ok fun fr σ' φ I a w hR hv=>?_⟩,h⟩
 obtain ⟨h1,h2⟩:=opd2_eval hx hR hv.1
 obtain ⟨vs,h3,h4,h5⟩:=rowOf_ok hrow hR (fun p hp=>hv.2.1 p hp) (show RV fr.J φ I w c (a.eval x) from h1)
 have h2:a.eval y=.string s:=h2
 obtain ⟨hs1,hs2,hs3⟩:=(hT e ei hei).ty _ hty
 have hzc:zv.cells.size=1:=by rw [← Array.length_toList,hi5,← hs2]; rfl
 obtain ⟨v',w',hr,hown,hgr,hat⟩:=run_append_str_at (P:=P) w t t' o.type e it zv hd hds hi1 hi4 hzc (by rw [hi2,← hs1]; rfl) (by rw [hi3,hby]) (a.eval x) xs.length vs h3 s (by unfold maxLen; omega) hfit
 have hall:lst (RdC I w (.int .u8)) (xs ++ toB s) (vs ++ Lib.strCells s):=h4.append (lst_bytes.2 (toB_cells s).symm)
 refine ⟨v',w',?_,⟨vs ++ Lib.strCells s,by rw [List.length_append,toB_length]; exact hown,hall⟩,?_⟩
 ·unfold execOp
  simp only [ho,resolve,invoke,builtin,Sem.run_bind,Sem.run_pure,Result.andThen_ok,List.map_toArray,List.map_cons,List.map_nil,h2,hr]
 ·have hbv:=blk_own v' w' hown
  have hbx:=blk_own (a.eval x) w h3
  cases old with
  | some id =>
   obtain ⟨h9,h10⟩:=h5
   refine ⟨_,_,h9,rfl,h10,?_,?_⟩
   ·rw [hbx]; exact OnlyP.of_grown hgr
   ·intro b hb
    rw [hbv] at hb
    rcases hat with h | h
    ·left; rw [hbx,← h]; exact hb
    ·right; rw [h] at hb; cases hb; exact Nat.le_refl _
  | none =>
   have h5:a.eval x=.slice none 0 0:=h5
   refine ⟨(OnlyP.of_grown hgr).mono fun b hb=>?_,?_⟩
   ·rw [h5] at hb; cases hb
   ·intro b hb
    rw [hbv] at hb
    rcases hat with h | h
    ·rw [h,h5] at hb; cases hb
    ·rw [h] at hb; cases hb; exact Nat.le_refl _
end
end Go.Ev
