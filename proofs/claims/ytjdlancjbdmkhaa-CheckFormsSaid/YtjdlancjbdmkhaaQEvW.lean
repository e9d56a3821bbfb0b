/- A checked evaluator, part W: copy, clear and append into parts of rows; slices.overlaps. -/
import Derived.Test.YtjdlancjbdmkhaaQEvV
namespace Go.Ev
open Go.RowKit
set_option linter.unusedVariables false
section
variable {P:Program}
theorem run_copyG (w:World) (dT sT ty elem:TypeId) (sz g o dLen dCap:Nat) (a:Addr) (sLen sCap:Nat) (cur:Array Value) (t:TypeId) (cs:List Value)
  (hu:P.underlying dT=some (.slice elem)) (hs:(sizeOf elem).run P w=.ok sz w)
  (hg:w.heap[g]?=some (.cells cur t (0,0))) (m:Nat) (hm:m=Nat.min sLen dLen) (hn:cs.length=m * sz)
  (hsrc:∀ j v,cs[j]?=some v→w.cell? (a.add j)=some v) (hfit:o + cs.length ≤ cur.size) (h1:∀ v ∈ cs,v.oneCell'=true) :
  (Builtin.copy_ #[dT,sT] ty #[.slice (some ⟨g,o,none⟩) dLen dCap,.slice (some a) sLen sCap]).run P w =
   .ok (goInt m) (w.setRow g (splc cur.toList o cs).toArray):=by
 have hl:=run_loadCells_list (P:=P) w a cs hsrc
 have hst:=run_storeCells_at P g o t cs 0 cur w hg (by simpa using hfit) h1
 subst hm
 simp only [Nat.add_zero] at hst
 simp [Builtin.copy_,run_underlying hu,Builtin.lenOf,Builtin.firstCells,hs,← hn,hl,hst,splc]
theorem run_copy0 (w:World) (dT sT ty elem:TypeId) (sz:Nat) (d s:Option Addr) (dLen dCap sLen sCap:Nat) (hu:P.underlying dT=some (.slice elem)) (hs:(sizeOf elem).run P w=.ok sz w) (hm:Nat.min sLen dLen=0) :
  (Builtin.copy_ #[dT,sT] ty #[.slice d dLen dCap,.slice s sLen sCap]).run P w=.ok (goInt 0) w:=by
 cases d <;> cases s <;> simp [Builtin.copy_,run_underlying hu,Builtin.lenOf,Builtin.firstCells,hs,hm,loadCells,loadCellsFrom,storeCells]
theorem splc_length {α:Type} (l v:List α) (p:Nat) (h:p + v.length ≤ l.length):(splc l p v).length=l.length:=by
 simp only [splc,List.length_append,List.length_take,List.length_drop]; omega
theorem splc_get {α:Type} (l v:List α) (p j:Nat) (h:p + v.length ≤ l.length):(splc l p v)[j]?=if j < p then l[j]? else if j < p + v.length then v[j - p]? else l[j]?:=by
 have h1:(l.take p).length=p:=by rw [List.length_take]; omega
 unfold splc
 by_cases h2:j < p
 ·rw [if_pos h2,List.append_assoc,List.getElem?_append_left (by omega),List.getElem?_take,if_pos h2]
 ·rw [if_neg h2]
  by_cases h3:j < p + v.length
  ·rw [if_pos h3,List.append_assoc,List.getElem?_append_right (by omega),h1,List.getElem?_append_left (by omega)]
  ·rw [if_neg h3,List.getElem?_append_right (by rw [List.length_append]; omega),List.length_append,h1,List.getElem?_drop]
   congr 1; omega
theorem splc_take {α:Type} (l v:List α) (p n:Nat) (h:p + v.length ≤ n) (hn:n ≤ l.length):(splc l p v).take n=splc (l.take n) p v:=by
 apply List.ext_getElem?
 intro j
 rw [List.getElem?_take,splc_get _ _ _ _ (by omega),splc_get _ _ _ _ (by rw [List.length_take]; omega)]
 by_cases hj:j < n
 ·simp only [if_pos hj,List.getElem?_take]
 ·simp only [if_neg hj,List.getElem?_take]
  rw [if_neg (by omega),if_neg (by omega)]
theorem splc_elem (l v:List Value) (sz lo m i:Nat) (hv:v.length=m * sz) (h:lo * sz + v.length ≤ l.length) :
  ((splc l (lo * sz) v).drop (i * sz)).take sz=if lo ≤ i∧i < lo + m then (v.drop ((i - lo) * sz)).take sz else (l.drop (i * sz)).take sz:=by
 apply List.ext_getElem?
 intro j
 by_cases hj:j < sz
 ·have e1:((splc l (lo * sz) v).drop (i * sz)).take sz=((splc l (lo * sz) v).drop (i * sz)).take sz:=rfl
  rw [List.getElem?_take,if_pos hj,List.getElem?_drop,splc_get _ _ _ _ h,hv]
  by_cases h1:i < lo
  ·have h2:i * sz + sz ≤ lo * sz:=by
    have:=Nat.mul_le_mul_right sz h1
    rwa [Nat.succ_mul] at this
   rw [if_pos (by omega),if_neg (by omega),List.getElem?_take,if_pos hj,List.getElem?_drop]
  ·have h2:lo * sz ≤ i * sz:=Nat.mul_le_mul_right sz (by omega)
   rw [if_neg (by omega)]
   by_cases h3:i < lo + m
   ·have h4:i * sz + sz ≤ (lo + m) * sz:=by
     have:=Nat.mul_le_mul_right sz h3
     rwa [Nat.succ_mul] at this
    rw [Nat.add_mul] at h4
    rw [if_pos (by omega),if_pos ⟨by omega,h3⟩,List.getElem?_take,if_pos hj,List.getElem?_drop]
    congr 1
    rw [Nat.sub_mul]; omega
   ·have h4:(lo + m) * sz ≤ i * sz:=Nat.mul_le_mul_right sz (by omega)
    rw [Nat.add_mul] at h4
    rw [if_neg (by omega),if_neg (by omega),List.getElem?_take,if_pos hj,List.getElem?_drop]
 ·rw [List.getElem?_take,if_neg hj]
  split <;> rw [List.getElem?_take,if_neg hj]
end
section
variable {fr:Fr} {σ:FS} {φ:Nat→Option Value} {I:Nat→Prop} {a:Act} {w:World}
theorem row_block {J:Nat→Prop} {id:Nat} {e:TypeId} {k:Ty} {xs:List (D k)} (h:RH J φ I w id (.row e k xs)) {g N cap:Nat} (hφ:φ id=some (.slice (some ⟨g,0,none⟩) N cap)) :
  ∃ cur,N=xs.length∧w.heap[g]?=some (.cells cur e (0,0))∧xs.length ≤ cap∧cap ≤ maxLen∧cur.size=cap * size k∧lst (RdC I w k) xs (cur.toList.take (xs.length * size k)):=by
 obtain ⟨v,vs,h1,ho,hl⟩:=h
 rw [hφ] at h1; cases h1
 rcases ho.2 with ⟨h1,_⟩ | ⟨g',cap',cur,h1,_,hg,hn,hm,hcs,htk⟩
 ·cases h1
 ·cases h1
  exact ⟨cur,rfl,hg,hn,hm,hcs,by rw [htk]; exact hl⟩
theorem keep_row {g:Nat} {cs:Array Value} (hI:∀ b,I b→b ≠ g) {k:Ty} {x:D k} {vs:List Value} (h:RdC I w k x vs):RdC I (w.setRow g cs) k x vs :=
 h.mono (fun _ h=>h) fun b hb=>setRow_other w g b _ (hI b hb)
theorem row_write {J:Nat→Prop} {id:Nat} {e:TypeId} {k:Ty} {xs ys:List (D k)} (h:RH J φ I w id (.row e k xs)) {g N cap:Nat} (hφ:φ id=some (.slice (some ⟨g,0,none⟩) N cap)) {cur:Array Value} (hcur:w.heap[g]?=some (.cells cur e (0,0)))
  {lo:Nat} {us:List Value} (hus:lst (RdC I w k) ys us) (hfit:lo + ys.length ≤ xs.length) (hI:∀ b,I b→b ≠ g):RH J φ I (w.setRow g (splc cur.toList (lo * size k) us).toArray) id (.row e k (splc xs lo ys)):=by
 obtain ⟨cur',rfl,hg,hn,hm,hcs,hl⟩:=row_block h hφ
 rw [hcur] at hg
 simp only [Option.some.injEq,Obj.cells.injEq,and_true] at hg
 subst hg
 have hul:us.length=ys.length * size k:=lst.length (fun _ _ h=>h.length) hus
 have hle:(lo + ys.length) * size k ≤ xs.length * size k:=Nat.mul_le_mul_right _ hfit
 rw [Nat.add_mul] at hle
 have hle2:xs.length * size k ≤ cur.size:=by rw [hcs]; exact Nat.mul_le_mul_right _ hn
 have hsl:(splc xs lo ys).length=xs.length:=splc_length _ _ _ hfit
 have htl:cur.toList.length=cur.size:=Array.length_toList
 have hcl:(splc cur.toList (lo * size k) us).length=cur.size:=by rw [splc_length _ _ _ (by omega),htl]
 refine ⟨_,(splc cur.toList (lo * size k) us).take (xs.length * size k),hφ,⟨by rw [List.length_take,hcl,hsl]; omega,.inr ⟨g,cap,_,by rw [hsl],Nat.zero_le _,setRow_heap w g cur _ e (0,0) hcur,by rw [hsl]; exact hn,hm,by rw [List.size_toArray,hcl,hcs],by rw [hsl]⟩⟩,?_⟩
 rw [splc_take _ _ _ _ (by omega) (by rw [htl]; exact hle2)]
 have hz:∀ x v,RdC I w k x v→v.length=size k:=fun _ _ h=>h.length
 have h1:=(lst.take (n:=size k) hz lo hl).append (hus.append (lst.drop (n:=size k) hz (lo + ys.length) hl))
 have h2:=h1.mono fun x v h=>keep_row (cs:=(splc cur.toList (lo * size k) us).toArray) hI h
 have e1:splc xs lo ys=xs.take lo ++ (ys ++ xs.drop (lo + ys.length)):=by unfold splc; rw [List.append_assoc]
 have e2:splc (cur.toList.take (xs.length * size k)) (lo * size k) us=(cur.toList.take (xs.length * size k)).take (lo * size k) ++ (us ++ (cur.toList.take (xs.length * size k)).drop ((lo + ys.length) * size k)):=by
  unfold splc
  rw [List.append_assoc,hul,Nat.add_mul]
 rw [e1,e2]
 exact h2
theorem buf_write {J:Nat→Prop} {id:Nat} {e:TypeId} {k:Ty} {bs:List (Option (D k))} {ys:List (D k)} (h:RH J φ I w id (.buf e k bs)) {g N cap:Nat} (hφ:φ id=some (.slice (some ⟨g,0,none⟩) N cap)) {cur:Array Value} (hcur:w.heap[g]?=some (.cells cur e (0,0)))
  {lo:Nat} {us:List Value} (hus:lst (RdC I w k) ys us) (hfit:lo + ys.length ≤ bs.length) (hI:∀ b,I b→b ≠ g):RH J φ I (w.setRow g (splc cur.toList (lo * size k) us).toArray) id (.buf e k (splc bs lo (ys.map some))):=by
 obtain ⟨v,h1,h2⟩:=h
 rw [hφ] at h1; cases h1
 obtain ⟨rfl,rfl,cur',hg,hm,hcs,hl⟩:=h2.cap rfl
 rw [hcur] at hg
 simp only [Option.some.injEq,Obj.cells.injEq,and_true] at hg
 subst hg
 have hul:us.length=ys.length * size k:=lst.length (fun _ _ h=>h.length) hus
 have hle:(lo + ys.length) * size k ≤ bs.length * size k:=Nat.mul_le_mul_right _ hfit
 rw [Nat.add_mul] at hle
 have hsl:(splc bs lo (ys.map some)).length=bs.length:=splc_length _ _ _ (by rw [List.length_map]; exact hfit)
 have htl:cur.toList.length=cur.size:=Array.length_toList
 have hcl:(splc cur.toList (lo * size k) us).length=cur.size:=by rw [splc_length _ _ _ (by omega),htl]
 refine ⟨_,hφ,.inr ⟨g,_,by rw [hsl],setRow_heap w g cur _ e (0,0) hcur,by rw [hsl]; exact hm,by rw [List.size_toArray,hcl,hcs,hsl],fun i x hx=>?_⟩⟩
 rw [splc_get _ _ _ _ (by rw [List.length_map]; exact hfit),List.length_map] at hx
 have:=splc_elem cur.toList us (size k) lo ys.length i hul (by omega)
 rw [List.toList_toArray,this]
 by_cases h3:i < lo
 ·rw [if_pos h3] at hx
  rw [if_neg (by omega)]
  exact keep_row hI (hl i x hx)
 ·rw [if_neg h3] at hx
  by_cases h4:i < lo + ys.length
  ·rw [if_pos h4,List.getElem?_map] at hx
   rw [if_pos ⟨by omega,h4⟩]
   obtain ⟨y,h5,h6⟩:=Option.map_eq_some_iff.1 hx
   cases h6
   exact keep_row hI (of_lst hus _ _ h5)
  ·rw [if_neg h4] at hx
   rw [if_neg (by omega)]
   exact keep_row hI (hl i x hx)
end
def srcAs (σ:LS) (e:TypeId) (k:Ty) (c:CV):Option (List (Option (D k))×Bool×List (Nat×Option HV)):=match c with
 | .view id sz lo n=>match σ.at id with
  | some (.row e' k' xs)=>if h:e'=e∧k'=k∧sz=size k then some ((((h.2.1 ▸ xs:List (D k)).drop lo.toNat).take n.toNat).map some,decide (0 ≤ lo∧0 ≤ n∧lo + n ≤ (xs.length:Int)),[(id,some (.row e' k' xs))]) else none
  | some (.buf e' k' bs)=>if h:e'=e∧k'=k∧sz=size k then some (((h.2.1 ▸ bs:List (Option (D k))).drop lo.toNat).take n.toNat,decide (0 ≤ lo∧0 ≤ n∧lo + n ≤ (bs.length:Int)),[(id,some (.buf e' k' bs))]) else none
  | _=>none
 | c=>match opAppend.qAny σ e k c with
  | some (ys,hp)=>some (ys.map some,true,hp)
  | none=>none
theorem srcAs_hp {σ:LS} {e:TypeId} {k:Ty} {c:CV} {bs:List (Option (D k))} {q:Bool} {hp:List (Nat×Option HV)} (h:srcAs σ e k c=some (bs,q,hp)):∀ p ∈ hp,σ.at p.1=p.2:=by
 unfold srcAs at h
 split at h
 ·split at h
  ·rename_i hh
   split at h
   ·cases h; simpa using hh
   ·cases h
  ·rename_i hh
   split at h
   ·cases h; simpa using hh
   ·cases h
  ·cases h
 ·split at h
  ·rename_i hq; cases h; exact qAny_hp hq
  ·cases h
theorem srcAs_ok {σ:LS} {e:TypeId} {k:Ty} {c:CV} {bs:List (Option (D k))} {q:Bool} {hp:List (Nat×Option HV)} (h:srcAs σ e k c=some (bs,q,hp)) (hq:q=true) {fr:Fr} {σ':FS} {φ:Nat→Option Value} {I:Nat→Prop} {a:Act} {w:World} (hR:R fr σ' φ I a w)
  (hv:∀ p ∈ hp,σ'.heap p.1=p.2) {u:Value} (hu:RV fr.J φ I w c u):∃ ad cap,u=.slice ad bs.length cap∧∀ m ys,m ≤ bs.length→allS (bs.take m)=some ys →
   m=0 ∨ ∃ b o us,ad=some ⟨b,o,none⟩∧lst (RdC I w k) ys us∧ys.length=m∧∀ j v,us[j]?=some v→w.cell? ⟨b,o + j,none⟩=some v:=by
 unfold srcAs at h
 split at h
 case h_1 id sz lo n =>
  split at h
  case h_3=>cases h
  case h_1 e' k' xs hh =>
   split at h
   case isFalse=>cases h
   case isTrue hek =>
   obtain ⟨rfl,rfl,rfl⟩:=hek
   cases h
   obtain ⟨hb1,hb2,hb3⟩:=of_decide_eq_true hq
   have hlen:((xs.drop lo.toNat).take n.toNat).length=n.toNat:=by rw [List.length_take,List.length_drop]; omega
   rcases (show ViewOK φ id (size k') lo n u from hu) with ⟨g,N,cap,o,e1,e2,h4,h5,h6,h7⟩ | ⟨e1,e2,rfl,rfl⟩
   ·obtain ⟨cur,rfl,hg,hn,hm,hcs,hl⟩:=row_block (hR.heap id _ (hv _ List.mem_cons_self)) e1
    refine ⟨_,_,by rw [List.length_map,hlen]; exact e2,fun m ys hm' hys=>?_⟩
    rw [List.length_map,hlen] at hm'
    by_cases hm0:m=0
    ·exact .inl hm0
    right
    rw [← List.map_take,allS_map] at hys
    cases hys
    have hz:∀ x v,RdC I w k' x v→v.length=size k':=fun _ _ h=>h.length
    refine ⟨g,o,_,rfl,lst.take (n:=size k') hz m (lst.take (n:=size k') hz n.toNat (lst.drop (n:=size k') hz lo.toNat hl)),by rw [List.length_take,hlen]; omega,fun j v hj=>?_⟩
    rw [h7 (.inl (by omega)),cell_of_row w g _ cur _ (0,0) hg]
    rw [List.getElem?_take] at hj
    split at hj
    ·rw [List.getElem?_take] at hj
     split at hj
     ·rw [List.getElem?_drop,List.getElem?_take] at hj
      split at hj
      ·simpa using hj
      ·cases hj
     ·cases hj
    ·cases hj
   ·refine ⟨none,0,by simpa using e2,fun m ys hm' _=>.inl ?_⟩
    simpa using hm'
  case h_2 e' k' bs' hh =>
   split at h
   case isFalse=>cases h
   case isTrue hek =>
   obtain ⟨rfl,rfl,rfl⟩:=hek
   cases h
   obtain ⟨hb1,hb2,hb3⟩:=of_decide_eq_true hq
   have hlen:((bs'.drop lo.toNat).take n.toNat).length=n.toNat:=by rw [List.length_take,List.length_drop]; omega
   obtain ⟨v0,e0,hB⟩:=hR.heap id _ (hv _ List.mem_cons_self)
   rcases (show ViewOK φ id (size k') lo n u from hu) with ⟨g,N,cap,o,e1,e2,h4,h5,h6,h7⟩ | ⟨e1,e2,rfl,rfl⟩
   ·rw [e0] at e1; cases e1
    obtain ⟨rfl,rfl,cur,hg,hm,hcs,hl⟩:=hB.cap rfl
    refine ⟨_,_,by rw [hlen]; exact e2,fun m ys hm' hys=>?_⟩
    rw [hlen] at hm'
    by_cases hm0:m=0
    ·exact .inl hm0
    right
    have hal:=allS_ok hys
    have hyl:ys.length=m:=by
     have:=congrArg List.length hal
     rw [List.length_take,hlen,List.length_map] at this
     omega
    have hle:(lo.toNat + m) * size k' ≤ bs'.length * size k':=Nat.mul_le_mul_right _ (by omega)
    rw [Nat.add_mul] at hle
    refine ⟨g,o,(cur.toList.drop (lo.toNat * size k')).take (m * size k'),rfl,lst_of _ _ ?_ fun i x hx=>?_,hyl,fun j v hj=>?_⟩
    ·rw [List.length_take,List.length_drop,Array.length_toList,hyl]; omega
    ·have hi:i < m:=by
      rw [← hyl]
      exact (List.getElem?_eq_some_iff.1 hx).1
     have h8:(ys.map some)[i]?=some (some x):=by rw [List.getElem?_map,hx]; rfl
     rw [← hal,List.getElem?_take,if_pos hi,List.getElem?_take,if_pos (by omega),List.getElem?_drop] at h8
     have h9:=hl _ _ h8
     have hle2:(i + 1) * size k' ≤ m * size k':=Nat.mul_le_mul_right _ hi
     rw [Nat.add_mul,Nat.one_mul] at hle2
     rw [List.drop_take,List.take_take,Nat.min_eq_left (by omega),List.drop_drop,← Nat.add_mul]
     exact h9
    ·rw [h7 (.inl (by omega)),cell_of_row w g _ cur _ (0,0) hg]
     rw [List.getElem?_take] at hj
     split at hj
     ·rw [List.getElem?_drop] at hj
      simpa using hj
     ·cases hj
   ·refine ⟨none,0,by simpa using e2,fun m ys hm' _=>.inl ?_⟩
    simpa using hm'
 case h_2 =>
  split at h
  case h_2=>cases h
  case h_1 ys hp' hq =>
  cases h
  obtain ⟨ad,cap,us,h1,h2,h3,h4⟩:=qAny_ok hq hR hv hu
  refine ⟨ad,cap,by rw [List.length_map]; exact h1,fun m zs hm hzs=>?_⟩
  rw [List.length_map] at hm
  by_cases hm0:m=0
  ·exact .inl hm0
  right
  rw [← List.map_take,allS_map] at hzs
  cases hzs
  rcases h4 with h4 | ⟨b,o,h5,h6⟩
  ·subst h4; simp at hm; omega
  ·refine ⟨b,o,_,h5,lst.take (n:=size k) (fun _ _ h=>h.length) m h2,by rw [List.length_take]; omega,fun j v hj=>?_⟩
   rw [List.getElem?_take] at hj
   split at hj
   ·exact h6 _ _ hj
   ·cases hj
section
variable {ρ:Type}
def opCopyV (T:List (TypeId×TI)) (o:Oper) (σ:LS) (t:TypeId) (x y:Operand) (kk:Rec→Option ρ):Option ρ :=
 match opd2 σ x y with
 | some (.sv false [.view id sz lo n],.sv false [d],tl)=>match (T.lookup t).map TI.kind,σ.at id with
  | some (TK.slice e'),some (.row e k xs)=>match srcAs σ e k d with
   | some (src,q,hp)=>if e'=e∧(T.lookup e).map TI.sz=some (size k)∧sz=size k then (if q=true∧0 ≤ lo∧0 ≤ n∧lo + n ≤ (xs.length:Int) then (allS (src.take (Nat.min src.length n.toNat))).bind fun ys =>
     kk ⟨o.dst,some (.sv false [.lit (.int .i64 ((Nat.min src.length n.toNat:Nat):Int))]),tl,(id,some (.row e k xs)) :: hp,[(id,some (.row e k (splc xs lo.toNat ys)))],[]⟩ else none) else none
   | none=>none
  | some (TK.slice e'),some (.buf e k bs)=>match srcAs σ e k d with
   | some (src,q,hp)=>if e'=e∧(T.lookup e).map TI.sz=some (size k)∧sz=size k then (if q=true∧0 ≤ lo∧0 ≤ n∧lo + n ≤ (bs.length:Int) then (allS (src.take (Nat.min src.length n.toNat))).bind fun ys =>
     kk ⟨o.dst,some (.sv false [.lit (.int .i64 ((Nat.min src.length n.toNat:Nat):Int))]),tl,(id,some (.buf e k bs)) :: hp,[(id,some (.buf e k (splc bs lo.toNat (ys.map some))))],[]⟩ else none) else none
   | none=>none
  | _,_=>none
 | _=>none
theorem splc_nil {α:Type} (l:List α) (p:Nat):splc l p []=l:=by simp [splc]
theorem opCopyV_ok {P:Program} {T:List (TypeId×TI)} (hT:TOK P T) {o:Oper} {σ:LS} {t t':TypeId} {x y:Operand} {base:Nat} {kk:Rec→Option ρ} {z:ρ} (ho:o.op=.call { callee:=.builtin .copy,args:=#[x,y],argTypes:=#[t,t'] }) (h:opCopyV T o σ t x y kk=some z):∃ r,Good P o σ base r∧kk r=some z:=by
 unfold opCopyV at h
 split at h
 case h_2=>cases h
 case h_1 id sz lo n d tl hx =>
 have exec:∀ (a:Act) (w w':World) (v:Value),(Builtin.copy_ #[t,t'] o.type #[a.eval x,a.eval y]).run P w=.ok v w'→(execOp a.eval o).run P w=.ok (.value v) w':=by
  intro a w w' v hr
  unfold execOp
  simp only [ho,resolve,invoke,builtin,Sem.run_bind,Sem.run_pure,Result.andThen_ok,List.map_toArray,List.map_cons,List.map_nil,hr]
 have main:∀ (e:TypeId) (k:Ty) (hv0:HV) (src:List (Option (D k))) (q:Bool) (hp:List (Nat×Option HV)) (hv1:List (D k)→HV) (L:Nat) (e':TypeId),(T.lookup t).map TI.kind=some (TK.slice e')→σ.at id=some hv0→srcAs σ e k d=some (src,q,hp)→e'=e∧(T.lookup e).map TI.sz=some (size k)∧sz=size k →
   q=true∧0 ≤ lo∧0 ≤ n∧lo + n ≤ (L:Int)→hv0.owned=true→hv1 []=hv0→(∀ ys,(hv1 ys).plain=true) →
   (∀ (fr:Fr) (φ:Nat→Option Value) (I:Nat→Prop) (w:World) g N cap,RH fr.J φ I w id hv0→φ id=some (.slice (some ⟨g,0,none⟩) N cap)→∃ cur,w.heap[g]?=some (.cells cur e (0,0))∧L * size k ≤ cur.size∧L ≤ cap ∧
    ∀ ys us,lst (RdC I w k) ys us→lo.toNat + ys.length ≤ L→(∀ b,I b→b ≠ g)→RH fr.J φ I (w.setRow g (splc cur.toList (lo.toNat * size k) us).toArray) id (hv1 ys)) →
   ((allS (src.take (Nat.min src.length n.toNat))).bind fun ys=>kk ⟨o.dst,some (.sv false [.lit (.int .i64 ((Nat.min src.length n.toNat:Nat):Int))]),tl,(id,some hv0) :: hp,[(id,some (hv1 ys))],[]⟩)=some z→∃ r,Good P o σ base r∧kk r=some z:=by
  rintro e k hv0 src q hp hv1 L e' hk hat hs ⟨rfl,hsz,rfl⟩ ⟨hq,hb1,hb2,hb3⟩ hown hnil hplain hwr h
  obtain ⟨ys,hys,h⟩:=Option.bind_eq_some_iff.1 h
  obtain ⟨ti,hti,hkind⟩:=Option.map_eq_some_iff.1 hk
  obtain ⟨dd,hd,hkd⟩:=(hT t ti hti).under
  rw [hkind] at hkd
  simp only [TK.ok] at hkd
  subst hkd
  obtain ⟨ei,hei,hei2⟩:=Option.map_eq_some_iff.1 hsz
  obtain ⟨it,zv,hi1,hi2,_⟩:=(hT e' ei hei).info
  have hsize:∀ w,(sizeOf e').run P w=.ok (size k) w:=fun w=>by rw [run_sizeOf hi1,hi2,hei2]
  refine ⟨_,⟨rfl,opd2_temps hx,?_,by simp,?_⟩,h⟩
  ·intro p hp'
   rcases List.mem_cons.1 hp' with rfl | hp'
   ·exact hat
   ·exact srcAs_hp hs p hp'
  intro fr σ' φ I a w K Q hR hv hdn hK
  obtain ⟨h1,h2⟩:=opd2_eval hx hR hv.1
  have hh:σ'.heap id=some hv0:=hv.2.1 _ List.mem_cons_self
  have h1:ViewOK φ id (size k) lo n (a.eval x):=h1
  obtain ⟨ad,cap,e1,hsrc⟩:=srcAs_ok hs hq hR (fun p hp=>hv.2.1 p (List.mem_cons_of_mem _ hp)) (show RV fr.J φ I w d (a.eval y) from h2)
  have hRH:=hR.heap id _ hh
  have same:Nat.min src.length n.toNat=0→Oper.wp P o a w K Q:=by
   intro hm
   have hys0:ys=[]:=by rw [hm] at hys; cases hys; rfl
   subst hys0
   obtain ⟨ad',cap',e2,_⟩:=h1.slice
   unfold Oper.wp
   rw [exec a w w _ (by rw [e1,e2]; exact run_copy0 w t t' _ _ _ _ _ _ _ _ _ hd (hsize w) hm),Oper.upon_value]
   refine hK φ I _ w (hR.upd (φ':=φ) (I':=I) _ (G:=fun _=>False) hdn (fun _ _ h=>h) (fun _ h=>h) (fun id hf _=>hR.fresh id hf) (OnlyP.refl _ _) (fun _ h=>h.elim) (fun _ _ _ _ _ _ _ _ _ h=>h)
    (fun b hb=>.inl hb) ?_ ?_ ?_ ?_ ?_ (fun _ h=>h.elim) (fun b hb=>.inl hb) ?_ ?_)
   ·intro i hv' hl
    have:i=id∧hv'=hv0:=by
     simp only [List.lookup] at hl
     by_cases e:i=id
     ·subst e; simp [hnil] at hl; exact ⟨rfl,hl.symm⟩
     ·have:(i == id)=false:=by simp [e]
      rw [this] at hl; cases hl
    obtain ⟨rfl,rfl⟩:=this
    exact hRH
   ·intro i hv' u b hl ho' hu hb
    have:i=id∧hv'=hv0:=by
     simp only [List.lookup] at hl
     by_cases e:i=id
     ·subst e; simp [hnil] at hl; exact ⟨rfl,hl.symm⟩
     ·have:(i == id)=false:=by simp [e]
      rw [this] at hl; cases hl
    obtain ⟨rfl,rfl⟩:=this
    exact hR.own i hv' u b hh ho' hu hb
   ·intro i i' hv1' hv2' u u' b hl hl' h3 ho1 ho2 hu hu' hb hb'
    have:i=id:=by
     simp only [List.lookup] at hl
     by_cases e:i=id
     ·exact e
     ·have:(i == id)=false:=by simp [e]
      rw [this] at hl; cases hl
    subst this
    have hne:i ≠ i':=by rintro rfl; simp [List.lookup] at hl'
    exact hR.sep i i' hv0 hv2' u u' b hne hh h3 hown ho2 hu hu' hb hb'
   ·intro i i' hv1' hv2' u u' b hne hl hl'
    have hq:∀ i x,List.lookup i [(id,some (hv1 []))]=some x→i=id:=by
     intro i x hl
     simp only [List.lookup] at hl
     by_cases e:i=id
     ·exact e
     ·have:(i == id)=false:=by simp [e]
      rw [this] at hl; cases hl
    exact (hne ((hq i _ hl).trans (hq i' _ hl').symm)).elim
   ·intro av e
    simp only [Option.some.injEq] at e
    subst e
    show goInt 0=.int .i64 ((Nat.min src.length n.toNat:Nat):Int)
    rw [hm]; rfl
   ·intro i hv' u b hl ho' hu hb
    have:i=id∧hv'=hv0:=by
     simp only [List.lookup] at hl
     by_cases e:i=id
     ·subst e; simp [hnil] at hl; exact ⟨rfl,hl.symm⟩
     ·have:(i == id)=false:=by simp [e]
      rw [this] at hl; cases hl
    obtain ⟨rfl,rfl⟩:=this
    exact .inr ⟨i,hv',u,hh,ho',hu,hb⟩
   ·intro i hv' hl
    simp only [List.lookup] at hl
    by_cases e:i=id
    ·subst e
     simp only [beq_self_eq_true,Option.some.injEq] at hl
     subst hl; exact hplain _
    ·have:(i == id)=false:=by simp [e]
     rw [this] at hl; cases hl
  by_cases hm:Nat.min src.length n.toNat=0
  ·exact same hm
  rcases h1 with ⟨g,N,cap',of,e2,e3,h4,h5,h6,h7⟩ | ⟨_,_,rfl,rfl⟩
  ·obtain ⟨cur,hg,hsz2,hLc,hw⟩:=hwr fr φ I w g N cap' hRH e2
   rcases hsrc _ ys (Nat.min_le_left _ _) hys with h8 | ⟨b,o',us,rfl,h8,h9,h10⟩
   ·exact absurd h8 hm
   have hIg:∀ b,I b→b ≠ g:=by
    rintro b hb rfl
    exact (hR.own id hv0 _ b hh hown e2 rfl).1 hb
   have hml:Nat.min src.length n.toNat ≤ n.toNat:=Nat.min_le_right _ _
   have hul:us.length=ys.length * size k:=lst.length (fun _ _ h=>h.length) h8
   have hle:(lo.toNat + ys.length) * size k ≤ L * size k:=Nat.mul_le_mul_right _ (by omega)
   rw [Nat.add_mul] at hle
   have hof:of=lo.toNat * size k:=h7 (.inl (by omega))
   have hcopy:=run_copyG (P:=P) w t t' o.type e' (size k) g of n.toNat (cap' - lo.toNat) ⟨b,o',none⟩ src.length cap cur e' us hd (hsize w) hg _ rfl (by rw [hul,h9])
    (fun j v hj=>by rw [Addr.add_lit]; exact h10 j v hj) (by omega) (lst.all (p:=fun u=>u.oneCell'=true) (fun _ _ h=>h.one) h8)
   unfold Oper.wp
   rw [exec a w _ _ (by rw [e1,e3]; exact hcopy),Oper.upon_value]
   refine hK φ I _ _ (hR.put _ (id:=id) (b:=g) hdn rfl rfl hh hown e2 rfl (OnlyP.setRow w g _) ?_ ?_ (hplain _))
   ·rw [hof]
    exact hw ys us h8 (by omega) hIg
   ·intro av e
    simp only [Option.some.injEq] at e
    subst e
    rfl
  ·exact absurd (by simp) hm
 split at h
 case h_3=>cases h
 case h_1 e' e k xs hk hat =>
  split at h
  case h_2=>cases h
  case h_1 src q hp hs =>
  obtain ⟨hc1,h⟩:=ite_some h rfl
  obtain ⟨hc2,h⟩:=ite_some h rfl
  refine main e k _ src q hp (fun ys=>.row e k (splc xs lo.toNat ys)) xs.length e' hk hat hs hc1 hc2 rfl (by rw [splc_nil]) (fun _=>rfl) (fun fr φ I w g N cap hRH hφ=>?_) h
  obtain ⟨cur,rfl,hg,hn,_,hcs,_⟩:=row_block hRH hφ
  exact ⟨cur,hg,by rw [hcs]; exact Nat.mul_le_mul_right _ hn,hn,fun ys us h1 h2 h3=>row_write hRH hφ hg h1 h2 h3⟩
 case h_2 e' e k bs hk hat =>
  split at h
  case h_2=>cases h
  case h_1 src q hp hs =>
  obtain ⟨hc1,h⟩:=ite_some h rfl
  obtain ⟨hc2,h⟩:=ite_some h rfl
  refine main e k _ src q hp (fun ys=>.buf e k (splc bs lo.toNat (ys.map some))) bs.length e' hk hat hs hc1 hc2 rfl (by rw [List.map_nil,splc_nil]) (fun _=>rfl) (fun fr φ I w g N cap hRH hφ=>?_) h
  have hRH':=hRH
  obtain ⟨v,h1,h2⟩:=hRH'
  rw [hφ] at h1; cases h1
  obtain ⟨rfl,rfl,cur,hg,hm,hcs,hl⟩:=h2.cap rfl
  exact ⟨cur,hg,by rw [hcs]; exact Nat.le_refl _,Nat.le_refl _,fun ys us h1 h2 h3=>buf_write hRH hφ hg h1 h2 h3⟩
end
end Go.Ev
