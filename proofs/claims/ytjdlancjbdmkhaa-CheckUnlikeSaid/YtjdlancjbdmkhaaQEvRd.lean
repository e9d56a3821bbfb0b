/- Arguments of any type of ours, read out of a row's reading: the cells of a value stand for a piece of plain data, with what its sizes say. -/
import Derived.Test.YtjdlancjbdmkhaaQEvQ
import Derived.SizedLaws
import Derived.OpenShut
import Derived.DataReads
import Derived.DataElems
namespace Go.Ev
open Go
def fitFs (P:Program) (f:Ty→TypeId→Bool):Nat→Ty→List Field→Bool
 | o,k,[x]=>decide (x.offset=o) && f k x.type && decide (size k=P.cellsOf x.type)
 | o,.pair a b,x :: y :: r=>decide (x.offset=o) && f a x.type && decide (size a=P.cellsOf x.type) && fitFs P f (o + size a) b (y :: r)
 | _,_,_=>false
def fit (P:Program):Nat→Ty→TypeId→Bool
 | 0,_,_=>false
 | n + 1,k,t=>match P.underlying t with
  | some .bool=>decide (k=.bool)
  | some (.int i)=>decide (k=.int i)
  | some .string=>decide (k=.str)
  | some (.slice e)=>match k with
   | .seq e' k'=>decide (e'=e) && decide (size k'=P.cellsOf e) && decide (0 < size k') && fit P n k' e
   | _=>false
  | some (.struct fs)=>decide (size k=P.cellsOf t) && fitFs P (fit P n) 0 k fs.toList
  | _=>false
def Sz (P:Program):(k:Ty)→D k→Prop
 | .int k,n=>(Lit.int k n).wf=true
 | .bool,_=>True
 | .str,s=>ByteArray.size s ≤ reachBytes
 | .unit,_=>True
 | .pair a b,x=>Sz P a x.1∧Sz P b x.2
 | .seq e k,xs=>List.length xs * P.bytesOf e ≤ reachBytes∧∀ x ∈ (xs:List (D k)),Sz P k x
 | .fn,_=>True
 | .mset,_=>True
def RdI (P:Program) (w:World) (k:Ty) (vs:List Value):Prop:=∃ x,RdC (fun b=>b < w.heap.size) w k x vs∧Sz P k x
section
variable {H:Type} {enc:TypeId×Value→H} {P:Program} {w:World} {base:Nat} {spare:Nat→Bool} {held:Bool}
theorem row_rd {a:Addr} {k:Ty} {s:Nat} (hs:size k=s):∀ len,(∀ i,i < len→∃ cs,w.cells? base (a.add (i * s)) s=some cs∧RdI P w k cs) →
  ∃ (xs:List (D k)) (us:List Value),xs.length=len∧us.length=len * s∧lst (RdC (fun b=>b < w.heap.size) w k) xs us∧(∀ x ∈ xs,Sz P k x)∧∀ j u,us[j]?=some u→w.cell? (a.add j)=some u
 | 0,_=>⟨[],[],rfl,(Nat.zero_mul s).symm,rfl,fun x hx=>absurd hx List.not_mem_nil,fun j u h=>by simp at h⟩
 | len + 1,h=>by
  obtain ⟨xs,us,e1,e2,hl,hz,hc⟩:=row_rd hs len (fun i hi=>h i (by omega))
  obtain ⟨cs,hcs,x,hx,hxz⟩:=h len (by omega)
  obtain ⟨-,hn,hce⟩:=World.cells?_some hcs
  refine ⟨xs ++ [x],us ++ cs,by simp [e1],by rw [List.length_append,e2,hn,Nat.add_mul,Nat.one_mul],lst.append hl ⟨cs,[],(List.append_nil cs).symm,hx,rfl⟩,?_,?_⟩
  ·intro y hy
   rcases List.mem_append.1 hy with hy | hy
   ·exact hz y hy
   ·rw [List.mem_singleton.1 hy]
    exact hxz
  ·intro j u hu
   by_cases hj:j < us.length
   ·rw [List.getElem?_append_left hj] at hu
    exact hc j u hu
   ·rw [List.getElem?_append_right (by omega)] at hu
    have hi:j - us.length < s:=by
     have:=(List.getElem?_eq_some_iff.1 hu).1
     omega
    have h1:=hce _ hi
    rw [hu] at h1
    rw [← h1]
    have:j=len * s + (j - us.length):=by omega
    rw [Addr.add_add,← this]
def Below1 (enc:TypeId×Value→H) (P:Program) (w:World) (base:Nat) (spare:Nat→Bool) (held:Bool) (fuel n:Nat):Prop :=
 ∀ k t cs d ps,fit P n k t=true→DataW.trod enc P w base spare held fuel t cs=some (d,ps)→(∀ m ∈ d.weights P t,m ≤ reachBytes)→RdI P w k cs
theorem fs_rd {fuel n:Nat} (ih:Below1 enc P w base spare held fuel n) (cs:List Value):∀ (l:List Field) (o:Nat) (k:Ty) (xs:List (DataW H×List MemPlace)),fitFs P (fit P n) o k l=true→xs.length=l.length →
  (∀ (i:Nat) (f:Field),l[i]?=some f→DataW.trod enc P w base spare held fuel f.type ((cs.drop f.offset).take (P.cellsOf f.type))=xs[i]?) →
  (∀ m ∈ DataW.weightsEach P (l.map (·.type)) (xs.map (·.1)),m ≤ reachBytes)→RdI P w k ((cs.drop o).take (size k))
 | [],_,_,_,hf,_,_,_=>by simp [fitFs] at hf
 | _ :: _,_,_,[],_,hl,_,_=>by simp at hl
 | [x],o,k,y :: ys,hf,hl,h,hw=>by
  simp only [fitFs,Bool.and_eq_true,decide_eq_true_eq] at hf
  obtain ⟨⟨h1,h2⟩,h3⟩:=hf
  have:=ih k x.type _ y.1 y.2 h2 (h 0 x rfl) (fun m hm=>hw m (List.mem_append.2 (.inl hm)))
  rw [h1,← h3] at this
  exact this
 | x :: y :: r,o,k,z :: zs,hf,hl,h,hw=>by
  cases k with
  | pair a b =>
   simp only [fitFs,Bool.and_eq_true,decide_eq_true_eq] at hf
   obtain ⟨⟨⟨h1,h2⟩,h3⟩,h4⟩:=hf
   have r1:=ih a x.type _ z.1 z.2 h2 (h 0 x rfl) (fun m hm=>hw m (List.mem_append.2 (.inl hm)))
   have r2:=fs_rd ih cs (y :: r) (o + size a) b zs h4 (by simpa using hl) (fun i f hi=>h (i + 1) f hi) (fun m hm=>hw m (List.mem_append.2 (.inr hm)))
   rw [h1,← h3] at r1
   obtain ⟨x1,c1,s1⟩:=r1
   obtain ⟨x2,c2,s2⟩:=r2
   refine ⟨(x1,x2),⟨_,_,?_,c1,c2⟩,s1,s2⟩
   show List.take (size a + size b) (List.drop o cs)=_
   rw [List.take_add,List.drop_drop]
  | _=>simp [fitFs] at hf
theorem weightsAll_mem {e:TypeId} {m:Nat}:∀ {ds:List (DataW H)} {d:DataW H},d ∈ ds→m ∈ d.weights P e→m ∈ DataW.weightsAll P e ds
 | _ :: _,_,hd,hm=>by
  rcases List.mem_cons.1 hd with rfl | hd
  ·exact List.mem_append.2 (.inl hm)
  ·exact List.mem_append.2 (.inr (weightsAll_mem hd hm))
theorem trod_rd:∀ (fuel n:Nat),Below1 enc P w base spare held fuel n
 | 0,_=>fun _ _ _ _ _ _ h _=>by simp [DataW.trod] at h
 | _ + 1,0=>fun _ _ _ _ _ hf _ _=>by simp [fit] at hf
 | fuel + 1,n + 1=>by
  intro k t cs d ps hf h hw
  have ih:=trod_rd fuel n
  unfold fit at hf
  cases hu:P.underlying t with
  | none=>simp [hu] at hf
  | some td =>
   simp only [hu] at hf
   cases td with
   | bool =>
    obtain rfl:=of_decide_eq_true hf
    obtain ⟨b,rfl,-⟩:=DataW.trod_bool hu h
    exact ⟨b,rfl,trivial⟩
   | int i =>
    obtain rfl:=of_decide_eq_true hf
    obtain ⟨m,rfl,-,hm⟩:=DataW.trod_int hu h
    exact ⟨m,rfl,hm⟩
   | string =>
    obtain rfl:=of_decide_eq_true hf
    obtain ⟨s,rfl,hd,-⟩:=DataW.trod_string hu h
    obtain ⟨rfl,-⟩:=Prod.mk.inj hd
    refine ⟨s,rfl,?_⟩
    show s.size ≤ reachBytes
    have:=hw s.data.toList.length (by simp [DataW.weights])
    simpa using this
   | slice e =>
    cases k with
    | seq e' k' =>
     simp only [Bool.and_eq_true,decide_eq_true_eq] at hf
     obtain ⟨⟨⟨rfl,hs⟩,hp⟩,hf⟩:=hf
     rcases DataW.trod_slice hu h with ⟨rfl,-⟩ | ⟨a,len,cap,elems,rest,m,hm,rfl,hd,hb,hlc,-,hl,hel,-⟩
     ·exact ⟨([]:List (D k')),⟨none,0,rfl,Nat.le_refl _,.inl rfl⟩,by simp,fun x hx=>absurd hx List.not_mem_nil⟩
     ·obtain ⟨rfl,-⟩:=Prod.mk.inj hd
      obtain rfl:fuel=m:=by omega
      have hww:∀ m ∈ ((elems.map (·.1)).length + (rest.map (·.1)).length) * P.bytesOf e' :: (DataW.weightsAll P e' (elems.map (·.1)) ++ DataW.weightsAll P e' (rest.map (·.1))),m ≤ reachBytes:=by
       have:=hw
       simp only [DataW.weights,hu] at this
       exact this
      obtain ⟨xs,us,e1,e2,hlst,hz,hc⟩:=row_rd (P:=P) (w:=w) (base:=base) (a:=a) hs len (fun i hi=>by
       have hi':i < elems.length:=by omega
       have h1:=hel i hi
       rw [List.getElem?_eq_getElem hi'] at h1
       obtain ⟨cs,hcs,h2⟩:=Option.bind_eq_some_iff.1 h1
       refine ⟨cs,hcs,ih k' e' cs elems[i].1 elems[i].2 hf h2 (fun m hm=>hww m (List.mem_cons_of_mem _ (List.mem_append.2 (.inl (weightsAll_mem (List.mem_map.2 ⟨elems[i],List.getElem_mem hi',rfl⟩) hm)))))⟩)
      refine ⟨xs,⟨some a,cap,by rw [e1],by rw [e1]; exact hlc,?_⟩,?_,hz⟩
      ·by_cases h0:us=[]
       ·left
        rw [h0,List.length_nil] at e2
        have:len=0:=by
         rcases Nat.eq_zero_or_pos len with h | h
         ·exact h
         ·exact absurd e2.symm (Nat.ne_of_gt (Nat.mul_pos h (hs ▸ hp)))
        exact List.length_eq_zero_iff.1 (e1.trans this)
       ·right
        obtain ⟨u,r,rfl⟩:∃ u r,us=u :: r:=by
         cases us with
         | nil=>exact absurd rfl h0
         | cons u r=>exact ⟨u,r,rfl⟩
        have hsp:w.cell? a=some u:=hc 0 u rfl
        obtain ⟨b,off,sp⟩:=a
        have hsp':=World.cell?_spot hsp
        obtain rfl:sp=none:=hsp'
        refine ⟨b,off,u :: r,rfl,World.block_lt_of_cell? _ _ hsp,hlst,fun j v hv=>?_⟩
        rw [← hc j v hv]
        cases j with
        | zero=>rfl
        | succ j=>rfl
      ·have:=hww _ (List.mem_cons_self)
       rw [List.length_map,List.length_map,hl] at this
       rw [e1]
       exact Nat.le_trans (Nat.mul_le_mul_right _ (Nat.le_add_right _ _)) this
    | _=>simp at hf
   | struct fs =>
    simp only [Bool.and_eq_true,decide_eq_true_eq] at hf
    obtain ⟨hs,hf⟩:=hf
    obtain ⟨xs,m,hm,hd,hl,hxl,hx⟩:=DataW.trod_struct hu h
    obtain ⟨rfl,-⟩:=Prod.mk.inj hd
    obtain rfl:fuel=m:=by omega
    have hww:=hw
    simp only [DataW.weights,hu] at hww
    have:=fs_rd ih cs fs.toList 0 k xs hf (by simpa using hxl) (fun i f hi=>hx i f (by simpa using hi)) hww
    rw [List.drop_zero,hs,← hl,List.take_length] at this
    exact this
   | _=>simp at hf
end
end Go.Ev
