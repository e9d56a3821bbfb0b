/- A checked evaluator, part R: rows in rows: what the relation is behind an operation on one. -/
import Derived.Test.YtjdlancjbdmkhaaQEvM
namespace Go.Ev
open Go.RowKit
set_option linter.unusedVariables false
section
variable {fr:Fr} {σ:FS} {φ φ':Nat→Option Value} {I:Nat→Prop} {a:Act} {w w':World}
theorem NestOK.monoE' {w:World} {φ:Nat→Option Value} {I:Nat→Prop} {E E' X:Nat→Prop} {id:Nat} {k0:Ty} {e1:TypeId} {k1:Ty} {xs:List (D k0×List (D k1))} (h:NestOK φ I w E X id k0 e1 k1 xs) (hE:∀ b,E b→E' b):NestOK φ I w E' X id k0 e1 k1 xs where
 elem:=fun i hi hX=>let ⟨u,us,h1,h2,h3,h4⟩:=h.elem i hi hX; ⟨u,us,h1,h2,h3,fun b hb=>hE b (h4 b hb)⟩
 dist:=h.dist
theorem lookup_nones' {α:Type} (l:List Nat) (m:List (Nat×Option α)) (i:Nat):((l.map fun i=>(i,(none:Option α))) ++ m).lookup i=if i ∈ l then some none else m.lookup i:=by
 induction l with
 | nil=>simp
 | cons x l ih =>
  simp only [List.map_cons,List.cons_append,List.lookup]
  by_cases e:i=x
  ·subst e; simp
  ·have:(i == x)=false:=by simpa using e
   rw [this,ih]
   simp [e]
theorem R.nestMk (h:R fr σ φ I a w) (r:Rec) {v u:Value} {id lk:Nat} {olds:List Nat} {e:TypeId} {k0:Ty} {e1:TypeId} {k1:Ty} {xs:List (D k0×List (D k1))} (hd:∀ d,r.dst=some d→d < fr.N)
  (hw:r.wr=(olds.map fun i=>(i,(none:Option HV))) ++ [(id,some (.nest e k0 e1 k1 xs lk)),(lk,some (.lock id 0 none))]) (hn:r.new=[id,lk]) (hf:σ.fresh id) (hf2:σ.fresh lk) (hne:id ≠ lk)
  (ho:∀ o ∈ olds,∃ hv0 u0,σ.heap o=some hv0∧hv0.owned=true∧φ o=some u0)
  (honly:OnlyP (fun b=>∃ o ∈ olds,∃ u0,φ o=some u0∧blk u0=some b) w w') (hu:∀ b,blk u=some b→(∃ o ∈ olds,∃ u0,φ o=some u0∧blk u0=some b) ∨ w.heap.size ≤ b)
  (hrow:∃ vs,w'.ownsRow 0 e (size k0 + 1) u xs.length vs) (hval:∀ av,r.val=some av→RA fr.J (ext (ext φ id u) lk undef) I w' av v)
  (hH:HeadOK (ext (ext φ id u) lk undef) I w' id k0 k1 xs)
  (hN:∀ E,Deep fr σ φ I w E→NestOK (ext (ext φ id u) lk undef) I w' (fun b=>∃ o ∈ olds,E o b) (holeX none) id k0 e1 k1 xs):R fr (r.apply σ) (ext (ext φ id u) lk undef) I (a.put r.dst v) w':=by
 have hno:=h.fresh id hf
 have hno2:=h.fresh lk hf2
 have hmono:∀ i x,φ i=some x→ext (ext φ id u) lk undef i=some x:=by
  intro i x hx
  refine ext_mono ?_ i x (ext_mono hno i x hx)
  unfold ext; rw [if_neg (Ne.symm hne)]; exact hno2
 have hφid:ext (ext φ id u) lk undef id=some u:=by
  unfold ext; rw [if_neg hne,if_pos rfl]
 have hφlk:ext (ext φ id u) lk undef lk=some undef:=ext_same
 have hoid:∀ o ∈ olds,o ≠ id∧o ≠ lk:=by
  intro o ho'
  obtain ⟨hv0,u0,h1,h2,h3⟩:=ho o ho'
  exact ⟨(by rintro rfl; rw [hno] at h3; cases h3),(by rintro rfl; rw [hno2] at h3; cases h3)⟩
 have hlk:∀ i x,r.wr.lookup i=some (some x)→(i=id∧x=.nest e k0 e1 k1 xs lk) ∨ (i=lk∧x=.lock id 0 none):=by
  intro i x hx
  rw [hw,lookup_nones'] at hx
  split at hx
  ·cases hx
  ·simp only [List.lookup] at hx
   by_cases e0:i=id
   ·subst e0; simp at hx; exact .inl ⟨rfl,hx.symm⟩
   ·have:(i == id)=false:=by simp [e0]
    rw [this] at hx
    by_cases e2:i=lk
    ·subst e2; simp at hx; exact .inr ⟨rfl,hx.symm⟩
    ·have:(i == lk)=false:=by simp [e2]
     rw [this] at hx; cases hx
 have hlk0:∀ i,r.wr.lookup i=none→i ∉ olds∧i ≠ id∧i ≠ lk:=by
  intro i hl
  rw [hw,lookup_nones'] at hl
  split at hl
  ·cases hl
  ·rename_i hm
   simp only [List.lookup] at hl
   refine ⟨hm,?_,?_⟩
   ·rintro rfl; simp at hl
   ·rintro rfl
    by_cases e0:i=id
    ·exact hne e0.symm
    ·have:(i == id)=false:=by simp [e0]
     rw [this] at hl; simp at hl
 have hG:∀ b,(∃ o ∈ olds,∃ u0,φ o=some u0∧blk u0=some b)→¬ I b∧¬ fr.J b∧(fr.F b ∨ fr.w0.heap.size ≤ b):=by
  rintro b ⟨o,ho',u0,h1,h2⟩
  obtain ⟨hv0,u1,h3,h4,h5⟩:=ho o ho'
  rw [h1] at h5; cases h5
  exact h.own o hv0 u0 b h3 h4 h1 h2
 have hGk:∀ i hv x b,r.wr.lookup i=none→σ.heap i=some hv→hv.owned=true→φ i=some x→blk x=some b→¬ ∃ o ∈ olds,∃ u0,φ o=some u0∧blk u0=some b:=by
  rintro i hv x b hl h1 ho1 hx hb ⟨o,ho',u0,h2,h3⟩
  obtain ⟨hv0,u1,h4,h5,h6⟩:=ho o ho'
  exact h.sep i o hv hv0 x u0 b (fun e=>(hlk0 i hl).1 (e ▸ ho')) h1 h4 ho1 h5 hx h2 hb h3
 obtain ⟨E,hE⟩:=h.deep
 have hEo:∀ i b,E i b→¬ ∃ o ∈ olds,∃ u0,φ o=some u0∧blk u0=some b:=by
  rintro i b hb ⟨o,ho',u0,h1,h2⟩
  obtain ⟨hv0,u1,h4,h5,h6⟩:=ho o ho'
  exact hE.sep1 i b hb o hv0 u0 h4 h5 h1 h2
 have hEw:∀ i b,E i b→w'.heap[b]?=w.heap[b]?:=fun i b hb=>honly.block b (hE.priv i b hb).2.2.2 (hEo i b hb)
 refine h.updD r (G:=fun b=>∃ o ∈ olds,∃ u0,φ o=some u0∧blk u0=some b) hd hmono (fun _ h=>h) (fun i hi hni=>?_) honly hG hGk (fun b hb=>.inl hb) ?_ ?_ ?_ ?_ hval ?_
 ·rw [hn] at hni
  have n1:i ≠ id:=fun e=>hni (by rw [e]; simp)
  have n2:i ≠ lk:=fun e=>hni (by rw [e]; simp)
  simp only [ext,if_neg n1,if_neg n2]
  exact h.fresh i hi
 ·intro i hv' hl
  rcases hlk i _ hl with ⟨rfl,rfl⟩ | ⟨rfl,rfl⟩
  ·obtain ⟨vs,hvs⟩:=hrow
   exact ⟨u,vs,hφid,hvs⟩
  ·exact ⟨_,hφlk⟩
 ·intro i hv' x b hl ho' hx hb
  rcases hlk i _ hl with ⟨rfl,rfl⟩ | ⟨rfl,rfl⟩
  ·rw [hφid] at hx; cases hx
   rcases hu b hb with h1 | h1
   ·exact hG b h1
   ·refine ⟨fun hi=>?_,fun hj=>?_,.inr (Nat.le_trans h.only.size h1)⟩
    ·have:=h.lt b (.inl hi); omega
    ·have:=h.lt b (.inr hj); omega
  ·cases ho'
 ·intro i i' hv1 hv2 x x' b hl hl' h1 ho1 ho2 hx hx' hb hb'
  rcases hlk i _ hl with ⟨rfl,rfl⟩ | ⟨rfl,rfl⟩
  ·rw [hφid] at hx; cases hx
   rcases hu b hb with h2 | h2
   ·exact hGk i' hv2 x' b hl' h1 ho2 hx' hb' h2
   ·have:=h.heap_lt h1 ho2 hx' hb'; omega
  ·cases ho1
 ·intro i i' hv1 hv2 x x' b hne2 hl hl' ho1 ho2 hx hx' hb hb'
  rcases hlk i _ hl with ⟨rfl,rfl⟩ | ⟨rfl,rfl⟩
  ·rcases hlk i' _ hl' with ⟨rfl,rfl⟩ | ⟨rfl,rfl⟩
   ·exact hne2 rfl
   ·cases ho2
  ·cases ho1
 ·have hlook:∀ i hv,(r.apply σ).heap i=some hv→r.wr.lookup i=some (some hv) ∨ (r.wr.lookup i=none∧σ.heap i=some hv):=by
   intro i hv he
   simp only [Rec.apply] at he
   cases hl:r.wr.lookup i with
   | none=>rw [hl] at he; exact .inr ⟨rfl,he⟩
   | some x=>rw [hl] at he; left; simpa using he
  have hkeep:∀ i hv,σ.heap i=some hv→hv.owned=true→r.wr.lookup i=none→∀ x b,φ i=some x→blk x=some b→w'.heap[b]?=w.heap[b]?:=fun i hv h1 h2 hl x b hx hb=>honly.block b (h.heap_lt h1 h2 hx hb) (hGk i hv x b hl h1 h2 hx hb)
  have hIw:∀ b,I b→w'.heap[b]?=w.heap[b]?:=fun b hb=>honly.block b (h.lt b (.inl hb)) fun hg=>(hG b hg).1 hb
  have hEm:∀ i b,i ∉ olds→i ≠ id→(if i=id then ∃ o ∈ olds,E o b else if i ∈ olds then False else E i b)=E i b:=by
   intro i b h1 h2
   rw [if_neg h2,if_neg h1]
  have hEs:∀ i b,(if i=id then ∃ o ∈ olds,E o b else if i ∈ olds then False else E i b)→∃ j,E j b∧(j=i ∨ (i=id∧j ∈ olds))∧(i ≠ id→j ∉ olds):=by
   intro i b hb
   split at hb
   ·rename_i e0
    obtain ⟨o,h1,h2⟩:=hb
    exact ⟨o,h2,.inr ⟨e0,h1⟩,fun h=>absurd e0 h⟩
   ·split at hb
    ·exact hb.elim
    ·rename_i h1; exact ⟨i,hb,.inl rfl,fun _=>h1⟩
  have hold:∀ i hv,(r.apply σ).heap i=some hv→(∃ v,φ i=some v)→r.wr.lookup i=none∧σ.heap i=some hv:=by
   rintro i hv hs ⟨x,hx⟩
   rcases hlook i _ hs with hl | hl
   ·rcases hlk i _ hl with ⟨rfl,_⟩ | ⟨rfl,_⟩
    ·rw [hno] at hx; cases hx
    ·rw [hno2] at hx; cases hx
   ·exact hl
  have hlock:∀ r' lk' ver st,(∃ v,φ r'=some v)→(r.apply σ).heap lk'=some (.lock r' ver st)→σ.heap lk'=some (.lock r' ver st):=by
   rintro r' lk' ver st ⟨x,hx⟩ hs
   rcases hlook lk' _ hs with hl | hl
   ·rcases hlk lk' _ hl with ⟨rfl,hq⟩ | ⟨rfl,hq⟩
    ·cases hq
    ·cases hq; rw [hno] at hx; cases hx
   ·exact hl.2
  have hpk:∀ n hv,(r.apply σ).heap n=some hv→hv.plain=false→(∀ e k0 e1 k1 xs lk,hv ≠ .nest e k0 e1 k1 xs lk)→(∀ r' v st,hv ≠ .lock r' v st)→σ.heap n=some hv:=by
   intro n hv hs _ h1 h2
   rcases hlook n _ hs with hl | hl
   ·rcases hlk n _ hl with ⟨rfl,hq⟩ | ⟨rfl,hq⟩
    ·exact (h1 _ _ _ _ _ _ hq).elim
    ·exact (h2 _ _ _ hq).elim
   ·exact hl.2
  refine ⟨fun i b=>if i=id then ∃ o ∈ olds,E o b else if i ∈ olds then False else E i b,?_,?_,?_,?_,?_,?_,?_,?_,?_,?_⟩
  ·intro i e' k0' e1' k1' xs' lk' hs
   rcases hlook i _ hs with hl | ⟨hl,h0⟩
   ·rcases hlk i _ hl with ⟨rfl,hx⟩ | ⟨_,hx⟩
    ·cases hx
     exact hH
    ·cases hx
   ·obtain ⟨x,hx⟩:=h.old i _ h0
    exact (hE.head i _ _ _ _ _ _ h0).frame hx hmono (fun _ h=>h) hIw (hkeep i _ h0 rfl hl x · hx)
  ·intro i e' k0' e1' k1' xs' lk' ver st hs hl'
   rcases hlook i _ hs with hl | ⟨hl,h0⟩
   ·rcases hlk i _ hl with ⟨rfl,hx⟩ | ⟨_,hx⟩
    ·cases hx
     have hst:st=none:=by
      rcases hlook lk _ hl' with hq | ⟨hq,_⟩
      ·rcases hlk lk _ hq with ⟨e0,hx⟩ | ⟨_,hx⟩
       ·exact (hne e0.symm).elim
       ·cases hx; rfl
      ·exact ((hlk0 lk hq).2.2 rfl).elim
     subst hst
     simp only [if_true]
     exact hN E hE
    ·cases hx
   ·obtain ⟨n1,n2,n3⟩:=hlk0 i hl
    obtain ⟨x,hx⟩:=h.old i _ h0
    have:=(hE.nest i _ _ _ _ _ _ _ _ h0 (hlock i lk' ver st ⟨x,hx⟩ hl')).frame (I':=I) (w':=w') hx hmono (fun _ h=>h) hIw (hEw i) (hkeep i _ h0 rfl hl x · hx)
    simp only [if_neg n2,if_neg n1]
    exact this
  ·intro n r' i ver hs e' k0' e1' k1' xs' lk' st hr hl' h0 hi
   have g0:=hpk n _ hs rfl (by simp) (by simp)
   have hr0:=hE.peekr n r' i ver g0
   obtain ⟨g1,g2⟩:=hold r' _ hr hr0
   have g3:=hlock r' lk' ver st hr0 hl'
   obtain ⟨x,hx⟩:=hr0
   obtain ⟨y,hy⟩:=h.old n _ g0
   rw [hmono _ _ hy,cellN_eq hx (hmono _ _ hx) (hkeep r' _ g2 rfl g1 x · hx),← hy]
   exact hE.peek n r' i ver g0 _ _ _ _ _ _ _ g2 g3 h0 hi
  ·intro n r' i e1'' k1'' ys hs e' k0' e1' k1' xs' lk' ver hr hl'
   have g0:=hpk n _ hs rfl (by simp) (by simp)
   have hr0:=hE.pendr n r' _ _ _ g0
   obtain ⟨g1,g2⟩:=hold r' _ hr hr0
   have g3:=hlock r' lk' ver _ hr0 hl'
   obtain ⟨x,hx⟩:=hr0
   obtain ⟨n1,n2,n3⟩:=hlk0 r' g1
   have:=(hE.pend n r' i _ _ _ g0 _ _ _ _ _ _ _ g2 g3).frame (I':=I) (w':=w') hx hmono (fun _ h=>h) hIw (hEw r') (hkeep r' _ g2 rfl g1 x · hx)
   simp only [if_neg n2,if_neg n1]
   exact this
  ·intro n r' i ver hs
   obtain ⟨x,hx⟩:=hE.peekr n r' i ver (hpk n _ hs rfl (by simp) (by simp))
   exact ⟨x,hmono _ _ hx⟩
  ·intro n r' e1' k1' ys hs
   obtain ⟨x,hx⟩:=hE.pendr n r' e1' k1' ys (hpk n _ hs rfl (by simp) (by simp))
   exact ⟨x,hmono _ _ hx⟩
  ·intro n r' i ver' hs e' k0' e1' k1' xs' lk' ver st hr hl'
   have g0:=hpk n _ hs rfl (by simp) (by simp)
   have hr0:=hE.peekr n r' i _ g0
   exact hE.peekv n r' i ver' g0 _ _ _ _ _ _ _ _ (hold r' _ hr hr0).2 (hlock r' lk' ver st hr0 hl')
  ·intro i b hb
   obtain ⟨j,h1,h2,h3⟩:=hEs i b hb
   obtain ⟨p1,p2,p3,p4⟩:=hE.priv j b h1
   exact ⟨p1,p2,p3,Nat.lt_of_lt_of_le p4 honly.size⟩
  ·intro i b hb i' hv' v' hs ho' hx hb'
   obtain ⟨j,h1,h2,h3⟩:=hEs i b hb
   rcases hlook i' _ hs with hl | ⟨hl,g0⟩
   ·rcases hlk i' _ hl with ⟨rfl,rfl⟩ | ⟨rfl,rfl⟩
    ·rw [hφid] at hx; cases hx
     rcases hu b hb' with h4 | h4
     ·exact hEo j b h1 h4
     ·have:=(hE.priv j b h1).2.2.2; omega
    ·cases ho'
   ·obtain ⟨x,hx'⟩:=h.old i' hv' g0
    have:=hmono i' x hx'
    rw [hx] at this; cases this
    exact hE.sep1 j b h1 i' hv' v' g0 ho' hx' hb'
  ·intro i i' b hne' hb hb'
   obtain ⟨j,h1,h2,h3⟩:=hEs i b hb
   obtain ⟨j',h1',h2',h3'⟩:=hEs i' b hb'
   refine hE.sep2 j j' b ?_ h1 h1'
   rintro rfl
   rcases h2 with rfl | ⟨rfl,h2⟩ <;> rcases h2' with rfl | ⟨rfl,h2'⟩
   ·exact hne' rfl
   ·exact h3 hne' h2'
   ·exact h3' (Ne.symm hne') h2
   ·exact hne' rfl
theorem R.peekMk (h:R fr σ φ I a w) (r:Rec) {v u:Value} {id lk n:Nat} {e:TypeId} {k0:Ty} {e1:TypeId} {k1:Ty} {xs:List (D k0×List (D k1))} {ver:Nat} {st:Option (Nat×Int)} {i:Int} (hd:∀ d,r.dst=some d→d < fr.N)
  (hw:r.wr=[(n,some (.peek id i ver))]) (hn:r.new=[n]) (hf:σ.fresh n) (h1:σ.heap id=some (.nest e k0 e1 k1 xs lk)) (h2:σ.heap lk=some (.lock id ver st))
  (hu:cellN φ w id (i.toNat * (size k0 + 1) + size k0)=some u) (hval:∀ av,r.val=some av→RA fr.J (ext φ n u) I w av v):R fr (r.apply σ) (ext φ n u) I (a.put r.dst v) w:=by
 have hno:=h.fresh n hf
 have hmono:=ext_mono (u:=u) hno
 have hlk:∀ i' x,r.wr.lookup i'=some (some x)→i'=n∧x=.peek id i ver:=by
  intro i' x hx
  rw [hw] at hx
  simp only [List.lookup] at hx
  by_cases e0:i'=n
  ·subst e0; simp at hx; exact ⟨rfl,hx.symm⟩
  ·have:(i' == n)=false:=by simp [e0]
   rw [this] at hx; cases hx
 have hlook:∀ i hv,(r.apply σ).heap i=some hv→r.wr.lookup i=some (some hv) ∨ (r.wr.lookup i=none∧σ.heap i=some hv):=by
  intro i hv he
  simp only [Rec.apply] at he
  cases hl:r.wr.lookup i with
  | none=>rw [hl] at he; exact .inr ⟨rfl,he⟩
  | some x=>rw [hl] at he; left; simpa using he
 have hoth:∀ i' hv,(r.apply σ).heap i'=some hv→(∀ r' i ver,hv ≠ .peek r' i ver)→σ.heap i'=some hv:=by
  intro i' hv hs hx
  rcases hlook i' _ hs with hl | hl
  ·exact (hx _ _ _ (hlk i' _ hl).2).elim
  ·exact hl.2
 obtain ⟨E,hE⟩:=h.deep
 obtain ⟨x0,hx0⟩:=h.old id _ h1
 refine h.updD r (G:=fun _=>False) hd hmono (fun _ h=>h) (fun i' hi hni=>?_) (OnlyP.refl _ _) (fun _ h=>h.elim) (fun _ _ _ _ _ _ _ _ _ h=>h) (fun b hb=>.inl hb) ?_ ?_ ?_ ?_ hval ?_
 ·have n1:i' ≠ n:=fun e=>hni (by rw [hn,e]; simp)
  simp only [ext,if_neg n1]
  exact h.fresh i' hi
 ·intro i' hv' hl
  obtain ⟨rfl,rfl⟩:=hlk i' _ hl
  exact ⟨u,ext_same⟩
 ·intro i' hv' x b hl ho'
  obtain ⟨rfl,rfl⟩:=hlk i' _ hl
  cases ho'
 ·intro i1 i2 hv1 hv2 x x' b hl _ _ ho1
  obtain ⟨rfl,rfl⟩:=hlk i1 _ hl
  cases ho1
 ·intro i1 i2 hv1 hv2 x x' b _ hl _ ho1
  obtain ⟨rfl,rfl⟩:=hlk i1 _ hl
  cases ho1
 ·have fr0:∀ {v0:Value} {i':Nat},φ i'=some v0→ext φ n u i'=some v0:=fun hx=>hmono _ _ hx
  refine ⟨E,?_,?_,?_,?_,?_,?_,?_,hE.priv,?_,hE.sep2⟩
  ·intro i' e' k0' e1' k1' xs' lk' hs
   have h0:=hoth i' _ hs (by simp)
   obtain ⟨x,hx⟩:=h.old i' _ h0
   exact (hE.head i' _ _ _ _ _ _ h0).frame hx hmono (fun _ h=>h) (fun _ _=>rfl) (fun _ _=>rfl)
  ·intro i' e' k0' e1' k1' xs' lk' ver' st' hs hl'
   have h0:=hoth i' _ hs (by simp)
   obtain ⟨x,hx⟩:=h.old i' _ h0
   exact (hE.nest i' _ _ _ _ _ _ _ _ h0 (hoth lk' _ hl' (by simp))).frame hx hmono (fun _ h=>h) (fun _ _=>rfl) (fun _ _=>rfl) (fun _ _=>rfl)
  ·intro n' r' i' ver' hs e' k0' e1' k1' xs' lk' st' hr hl' h0 hi
   have g1:=hoth r' _ hr (by simp)
   have g2:=hoth lk' _ hl' (by simp)
   obtain ⟨x,hx⟩:=h.old r' _ g1
   rcases hlook n' _ hs with hl | ⟨hl,g0⟩
   ·obtain ⟨rfl,hq⟩:=hlk n' _ hl
    cases hq
    rw [h1] at g1; cases g1
    rw [ext_same,cellN_eq hx (hmono _ _ hx) (fun _ _=>rfl),hu]
   ·obtain ⟨y,hy⟩:=h.old n' _ g0
    rw [hmono _ _ hy,cellN_eq hx (hmono _ _ hx) (fun _ _=>rfl),← hy]
    exact hE.peek n' r' i' ver' g0 _ _ _ _ _ _ _ g1 g2 h0 hi
  ·intro n' r' i' e1'' k1'' ys hs e' k0' e1' k1' xs' lk' ver' hr hl'
   have g1:=hoth r' _ hr (by simp)
   obtain ⟨x,hx⟩:=h.old r' _ g1
   exact (hE.pend n' r' i' _ _ _ (hoth n' _ hs (by simp)) _ _ _ _ _ _ _ g1 (hoth lk' _ hl' (by simp))).frame hx hmono (fun _ h=>h) (fun _ _=>rfl) (fun _ _=>rfl) (fun _ _=>rfl)
  ·intro n' r' i' ver' hs
   rcases hlook n' _ hs with hl | ⟨hl,g0⟩
   ·obtain ⟨rfl,hq⟩:=hlk n' _ hl
    cases hq
    exact ⟨x0,hmono _ _ hx0⟩
   ·obtain ⟨x,hx⟩:=hE.peekr n' r' i' ver' g0
    exact ⟨x,hmono _ _ hx⟩
  ·intro n' r' e1' k1' ys hs
   obtain ⟨x,hx⟩:=hE.pendr n' r' e1' k1' ys (hoth n' _ hs (by simp))
   exact ⟨x,hmono _ _ hx⟩
  ·intro n' r' i' ver' hs e' k0' e1' k1' xs' lk' ver'' st' hr hl'
   have g1:=hoth r' _ hr (by simp)
   have g2:=hoth lk' _ hl' (by simp)
   rcases hlook n' _ hs with hl | ⟨hl,g0⟩
   ·obtain ⟨rfl,hq⟩:=hlk n' _ hl
    cases hq
    rw [h1] at g1; cases g1
    rw [h2] at g2; cases g2
    exact Nat.le_refl _
   ·exact hE.peekv n' r' i' ver' g0 _ _ _ _ _ _ _ _ g1 g2
  ·intro i' b hb i2 hv' v' hs ho' hx hb'
   rcases hlook i2 _ hs with hl | ⟨hl,g0⟩
   ·obtain ⟨rfl,hq⟩:=hlk i2 _ hl
    subst hq
    cases ho'
   ·obtain ⟨x,hx'⟩:=h.old i2 hv' g0
    have:=hmono i2 x hx'
    rw [hx] at this; cases this
    exact hE.sep1 i' b hb i2 hv' v' g0 ho' hx' hb'
theorem ownsRow_lt {w:World} {base:Nat} {e:TypeId} {sz:Nat} {v:Value} {n:Nat} {xs:List Value} (h:w.ownsRow base e sz v n xs) {b:Nat} (hb:blk v=some b):b < w.heap.size:=by
 rcases h.2 with ⟨rfl,_⟩ | ⟨g,cap,cur,rfl,_,hg,_⟩
 ·cases hb
 ·simp [blk] at hb; subst hb
  exact (Array.getElem?_eq_some_iff.1 hg).1
theorem ownsRow_one {w:World} {base:Nat} {e:TypeId} {sz:Nat} {v:Value} {n:Nat} {xs:List Value} (h:w.ownsRow base e sz v n xs):v.oneCell'=true:=by
 rcases h.2 with ⟨rfl,_⟩ | ⟨g,cap,cur,rfl,_⟩ <;> rfl
theorem R.pendMk (h:R fr σ φ I a w) (r:Rec) {v u u0:Value} {id lk n n0:Nat} {e:TypeId} {k0:Ty} {e1:TypeId} {k1:Ty} {xs:List (D k0×List (D k1))} {ver:Nat} {i:Int} {ys:List (D k1)} (hd:∀ d,r.dst=some d→d < fr.N)
  (hw:r.wr=[(lk,some (.lock id ver (some (n,i)))),(n,some (.pend id e1 k1 ys))]) (hn:r.new=[n]) (hf:σ.fresh n) (h1:σ.heap id=some (.nest e k0 e1 k1 xs lk)) (h2:σ.heap lk=some (.lock id ver none)) (h3:σ.heap n0=some (.peek id i ver))
  (hi0:0 ≤ i) (hi:i.toNat < xs.length) (hu0:φ n0=some u0) (honly:OnlyP (fun b=>blk u0=some b) w w') (hu:∀ b,blk u=some b→blk u0=some b ∨ w.heap.size ≤ b)
  (hrow:∃ us,w'.ownsRow 0 e1 (size k1) u ys.length us∧lst (RdC I w k1) ys us) (hval:∀ av,r.val=some av→RA fr.J (ext φ n u) I w' av v):R fr (r.apply σ) (ext φ n u) I (a.put r.dst v) w':=by
 have hno:=h.fresh n hf
 have hmono:=ext_mono (u:=u) hno
 obtain ⟨us,hus,hls⟩:=hrow
 have hne:lk ≠ n:=by
  rintro rfl
  obtain ⟨x,hx⟩:=h.old _ _ h2
  rw [hno] at hx; cases hx
 have hlk:∀ i' x,r.wr.lookup i'=some (some x)→(i'=lk∧x=.lock id ver (some (n,i))) ∨ (i'=n∧x=.pend id e1 k1 ys):=by
  intro i' x hx
  rw [hw] at hx
  simp only [List.lookup] at hx
  by_cases e0:i'=lk
  ·subst e0; simp at hx; exact .inl ⟨rfl,hx.symm⟩
  ·have:(i' == lk)=false:=by simp [e0]
   rw [this] at hx
   by_cases e2:i'=n
   ·subst e2; simp at hx; exact .inr ⟨rfl,hx.symm⟩
   ·have:(i' == n)=false:=by simp [e2]
    rw [this] at hx; cases hx
 have hlook:∀ i hv,(r.apply σ).heap i=some hv→r.wr.lookup i=some (some hv) ∨ (r.wr.lookup i=none∧σ.heap i=some hv):=by
  intro i hv he
  simp only [Rec.apply] at he
  cases hl:r.wr.lookup i with
  | none=>rw [hl] at he; exact .inr ⟨rfl,he⟩
  | some x=>rw [hl] at he; left; simpa using he
 have hoth:∀ i' hv,(r.apply σ).heap i'=some hv→(∀ r' ver st,hv ≠ .lock r' ver st)→(∀ r' e k ys,hv ≠ .pend r' e k ys)→σ.heap i'=some hv:=by
  intro i' hv hs hx hx2
  rcases hlook i' _ hs with hl | hl
  ·rcases hlk i' _ hl with ⟨_,hq⟩ | ⟨_,hq⟩
   ·exact (hx _ _ _ hq).elim
   ·exact (hx2 _ _ _ _ hq).elim
  ·exact hl.2
 obtain ⟨E,hE⟩:=h.deep
 obtain ⟨x0,hx0⟩:=h.old id _ h1
 have hN:=hE.nest id _ _ _ _ _ _ _ _ h1 h2
 have noX:∀ j,¬ holeX none j:=by rintro j ⟨_,_,h,_⟩; cases h
 have hin:cellN φ w id (i.toNat * (size k0 + 1) + size k0)=some u0:=by rw [← hE.peek n0 id i ver h3 _ _ _ _ _ _ _ h1 h2 hi0 hi,hu0]
 obtain ⟨ux,usx,g1,g2,g3,g4⟩:=hN.elem i.toNat hi (noX _)
 rw [hin] at g1; cases g1
 have hGE:∀ b,blk u0=some b→E id b:=g4
 have hEne:∀ i' b,i' ≠ id→E i' b→¬ blk u0=some b:=fun i' b hne' hb hb'=>hE.sep2 i' id b hne' hb (hGE b hb')
 have hown:∀ i' hv x b,σ.heap i'=some hv→hv.owned=true→φ i'=some x→blk x=some b→¬ blk u0=some b:=fun i' hv x b q1 q2 q3 q4 q5=>hE.sep1 id b (hGE b q5) i' hv x q1 q2 q3 q4
 have hkeep:∀ i' hv x b,σ.heap i'=some hv→hv.owned=true→φ i'=some x→blk x=some b→w'.heap[b]?=w.heap[b]?:=fun i' hv x b q1 q2 q3 q4=>honly.block b (h.heap_lt q1 q2 q3 q4) (hown i' hv x b q1 q2 q3 q4)
 have hIw:∀ b,I b→w'.heap[b]?=w.heap[b]?:=fun b hb=>honly.block b (h.lt b (.inl hb)) fun hg=>(hE.priv id b (hGE b hg)).1 hb
 have hEw:∀ i' b,i' ≠ id→E i' b→w'.heap[b]?=w.heap[b]?:=fun i' b hne' hb=>honly.block b (hE.priv i' b hb).2.2.2 (hEne i' b hne' hb)
 have hEb:∀ b,blk u=some b→E id b ∨ w.heap.size ≤ b:=fun b hb=>(hu b hb).imp (hGE b) (fun h=>h)
 refine h.updD r (G:=fun b=>blk u0=some b) hd hmono (fun _ h=>h) (fun i' hi' hni=>?_) honly (fun b hb=>?_) (fun i' hv x b _ q1 q2 q3 q4=>hown i' hv x b q1 q2 q3 q4) (fun b hb=>.inl hb) ?_ ?_ ?_ ?_ hval ?_
 ·have n1:i' ≠ n:=fun e=>hni (by rw [hn,e]; simp)
  simp only [ext,if_neg n1]
  exact h.fresh i' hi'
 ·obtain ⟨p1,p2,p3,_⟩:=hE.priv id b (hGE b hb)
  exact ⟨p1,p2,p3⟩
 ·intro i' hv' hl
  rcases hlk i' _ hl with ⟨rfl,rfl⟩ | ⟨rfl,rfl⟩
  ·obtain ⟨x,hx⟩:=h.old _ _ h2
   exact ⟨x,hmono _ _ hx⟩
  ·exact ⟨u,ext_same⟩
 ·intro i' hv' x b hl ho'
  rcases hlk i' _ hl with ⟨rfl,rfl⟩ | ⟨rfl,rfl⟩ <;> cases ho'
 ·intro i1 i2 hv1 hv2 x x' b hl _ _ ho1
  rcases hlk i1 _ hl with ⟨rfl,rfl⟩ | ⟨rfl,rfl⟩ <;> cases ho1
 ·intro i1 i2 hv1 hv2 x x' b _ hl _ ho1
  rcases hlk i1 _ hl with ⟨rfl,rfl⟩ | ⟨rfl,rfl⟩ <;> cases ho1
 ·have hcN:∀ r' e' k0' e1' k1' xs' lk',σ.heap r'=some (.nest e' k0' e1' k1' xs' lk')→∀ c,cellN (ext φ n u) w' r' c=cellN φ w r' c:=by
   intro r' e' k0' e1' k1' xs' lk' g c
   obtain ⟨x,hx⟩:=h.old r' _ g
   exact cellN_eq hx (hmono _ _ hx) (fun b hb=>hkeep r' _ x b g rfl hx hb) c
  have hlock:∀ r' lk' ver' st',(r.apply σ).heap lk'=some (.lock r' ver' st')→(lk'=lk∧r'=id∧ver'=ver∧st'=some (n,i)) ∨ (lk' ≠ lk∧σ.heap lk'=some (.lock r' ver' st')):=by
   intro r' lk' ver' st' hs
   rcases hlook lk' _ hs with hl | ⟨hl,g⟩
   ·rcases hlk lk' _ hl with ⟨rfl,hq⟩ | ⟨_,hq⟩
    ·cases hq; exact .inl ⟨rfl,rfl,rfl,rfl⟩
    ·cases hq
   ·refine .inr ⟨?_,g⟩
    rintro rfl
    rw [hw] at hl; simp [List.lookup] at hl
  have hEo:∀ i' b,i' ≠ id→((E i' b ∨ (i'=id∧blk u=some b)) ↔ E i' b):=fun i' b hne'=>⟨fun h=>h.elim (fun h=>h) fun h=>absurd h.1 hne',.inl⟩
  refine ⟨fun i' b=>E i' b ∨ (i'=id∧blk u=some b),?_,?_,?_,?_,?_,?_,?_,?_,?_,?_⟩
  ·intro i' e' k0' e1' k1' xs' lk' hs
   have q0:=hoth i' _ hs (by simp) (by simp)
   obtain ⟨x,hx⟩:=h.old i' _ q0
   exact (hE.head i' _ _ _ _ _ _ q0).frame hx hmono (fun _ h=>h) hIw (fun b hb=>hkeep i' _ x b q0 rfl hx hb)
  ·intro i' e' k0' e1' k1' xs' lk' ver' st' hs hl'
   have q0:=hoth i' _ hs (by simp) (by simp)
   have hc:=hcN i' _ _ _ _ _ _ q0
   rcases hlock i' lk' ver' st' hl' with ⟨rfl,rfl,rfl,rfl⟩ | ⟨hne',q1⟩
   ·rw [h1] at q0; cases q0
    have nX:∀ j,¬ holeX (some (n,i)) j→j ≠ i.toNat:=fun j hX e=>hX ⟨n,i,rfl,e⟩
    constructor
    ·intro j hj hX
     obtain ⟨uj,usj,p1,p2,p3,p4⟩:=hN.elem j hj (noX _)
     refine ⟨uj,usj,by rw [hc]; exact p1,ownsRow_frame p2 fun b hb=>honly.block b (hE.priv _ b (p4 b hb)).2.2.2 fun hg=>?_,p3.mono fun _ _ h=>h.mono (fun _ h=>h) hIw,fun b hb=>.inl (p4 b hb)⟩
     exact hN.dist j i.toNat uj u0 b hj hi (noX _) (noX _) (nX j hX) p1 hin hb hg
    ·intro j j' uj uj' b hj hj' hX hX' hjj p1 p2
     rw [hc] at p1 p2
     exact hN.dist j j' uj uj' b hj hj' (noX _) (noX _) hjj p1 p2
   ·obtain ⟨x,hx⟩:=h.old i' _ q0
    by_cases e0:i'=id
    ·subst e0
     rw [h1] at q0; cases q0
     exact (hne' rfl).elim
    ·exact ((hE.nest i' _ _ _ _ _ _ _ _ q0 q1).frame hx hmono (fun _ h=>h) hIw (fun b hb=>hEw i' b e0 hb) (fun b hb=>hkeep i' _ x b q0 rfl hx hb)).monoE' fun b hb=>.inl hb
  ·intro n' r' i' ver' hs e' k0' e1' k1' xs' lk' st' hr hl' p0 pi
   have q0:=hoth n' _ hs (by simp) (by simp)
   have q1:=hoth r' _ hr (by simp) (by simp)
   obtain ⟨y,hy⟩:=h.old n' _ q0
   rw [hmono _ _ hy,hcN r' _ _ _ _ _ _ q1,← hy]
   rcases hlock r' lk' ver' st' hl' with ⟨rfl,rfl,rfl,rfl⟩ | ⟨_,q2⟩
   ·exact hE.peek n' _ i' _ q0 _ _ _ _ _ _ _ q1 h2 p0 pi
   ·exact hE.peek n' r' i' ver' q0 _ _ _ _ _ _ _ q1 q2 p0 pi
  ·intro n' r' i' e1'' k1'' ys' hs e' k0' e1' k1' xs' lk' ver' hr hl'
   have q1:=hoth r' _ hr (by simp) (by simp)
   have hc:=hcN r' _ _ _ _ _ _ q1
   rcases hlock r' lk' ver' _ hl' with ⟨rfl,rfl,rfl,hq⟩ | ⟨hne',q2⟩
   ·cases hq
    rw [h1] at q1; cases q1
    have:HV.pend r' e1'' k1'' ys'=.pend r' e1 k1 ys:=by
     rcases hlook n _ hs with hl | ⟨hl,_⟩
     ·rcases hlk n _ hl with ⟨e0,_⟩ | ⟨_,hq⟩
      ·exact absurd e0.symm hne
      ·exact hq
     ·rw [hw] at hl
      have:(n == lk')=false:=by simp [Ne.symm hne]
      simp [List.lookup,this] at hl
    cases this
    refine ⟨hi0,hi,u,us,ext_same,ownsRow_one hus,hus,hls.mono fun _ _ h=>h.mono (fun _ h=>h) hIw,fun b hb=>⟨.inr ⟨rfl,hb⟩,fun j uj hj hji p1 hbj=>?_⟩⟩
    rw [hc] at p1
    rcases hu b hb with hb' | hb'
    ·exact hN.dist j i.toNat uj u0 b hj hi (noX _) (noX _) hji p1 hin hbj hb'
    ·obtain ⟨uj',usj,p1',p2,p3,p4⟩:=hN.elem j hj (noX _)
     rw [p1] at p1'; cases p1'
     have:=(hE.priv _ b (p4 b hbj)).2.2.2
     omega
   ·have q3:σ.heap n'=some (.pend r' e1'' k1'' ys'):=by
     rcases hlook n' _ hs with hl | ⟨hl,q⟩
     ·rcases hlk n' _ hl with ⟨_,hq⟩ | ⟨rfl,hq⟩
      ·cases hq
      ·cases hq
       rw [h1] at q1; cases q1
       exact (hne' rfl).elim
     ·exact q
    have hrid:r' ≠ id:=by
     rintro rfl
     rw [h1] at q1; cases q1
     exact hne' rfl
    obtain ⟨x,hx⟩:=h.old r' _ q1
    have:=(hE.pend n' r' i' _ _ _ q3 _ _ _ _ _ _ _ q1 q2).frame (φ':=ext φ n u) (I':=I) (w':=w') hx hmono (fun _ h=>h) hIw (fun b hb=>hEw r' b hrid hb) (fun b hb=>hkeep r' _ x b q1 rfl hx hb)
    obtain ⟨t1,t2,t3,t4,t5,t6,t7,t8,t9⟩:=this
    exact ⟨t1,t2,t3,t4,t5,t6,t7,t8,fun b hb=>⟨.inl (t9 b hb).1,(t9 b hb).2⟩⟩
  ·intro n' r' i' ver' hs
   obtain ⟨x,hx⟩:=hE.peekr n' r' i' ver' (hoth n' _ hs (by simp) (by simp))
   exact ⟨x,hmono _ _ hx⟩
  ·intro n' r' e1' k1' ys' hs
   rcases hlook n' _ hs with hl | ⟨hl,q⟩
   ·rcases hlk n' _ hl with ⟨_,hq⟩ | ⟨rfl,hq⟩
    ·cases hq
    ·cases hq
     exact ⟨x0,hmono _ _ hx0⟩
   ·obtain ⟨x,hx⟩:=hE.pendr n' r' e1' k1' ys' q
    exact ⟨x,hmono _ _ hx⟩
  ·intro n' r' i' ver' hs e' k0' e1' k1' xs' lk' ver'' st' hr hl'
   have q0:=hoth n' _ hs (by simp) (by simp)
   have q1:=hoth r' _ hr (by simp) (by simp)
   rcases hlock r' lk' ver'' st' hl' with ⟨rfl,rfl,rfl,rfl⟩ | ⟨_,q2⟩
   ·exact hE.peekv n' _ i' ver' q0 _ _ _ _ _ _ _ _ q1 h2
   ·exact hE.peekv n' r' i' ver' q0 _ _ _ _ _ _ _ _ q1 q2
  ·rintro i' b (hb | ⟨rfl,hb⟩)
   ·obtain ⟨p1,p2,p3,p4⟩:=hE.priv i' b hb
    exact ⟨p1,p2,p3,Nat.lt_of_lt_of_le p4 honly.size⟩
   ·rcases hEb b hb with h4 | h4
    ·obtain ⟨p1,p2,p3,p4⟩:=hE.priv _ b h4
     exact ⟨p1,p2,p3,Nat.lt_of_lt_of_le p4 honly.size⟩
    ·refine ⟨fun hi=>?_,fun hj=>?_,.inr (Nat.le_trans h.only.size h4),ownsRow_lt hus hb⟩
     ·have:=h.lt b (.inl hi); omega
     ·have:=h.lt b (.inr hj); omega
  ·intro i' b hb i2 hv' v' hs ho' hx hb'
   have q0:σ.heap i2=some hv':=by
    rcases hlook i2 _ hs with hl | ⟨hl,q⟩
    ·rcases hlk i2 _ hl with ⟨_,rfl⟩ | ⟨_,rfl⟩ <;> cases ho'
    ·exact q
   obtain ⟨x,hx'⟩:=h.old i2 hv' q0
   have:=hmono i2 x hx'
   rw [hx] at this; cases this
   rcases hb with hb | ⟨rfl,hb⟩
   ·exact hE.sep1 i' b hb i2 hv' v' q0 ho' hx' hb'
   ·rcases hEb b hb with h4 | h4
    ·exact hE.sep1 _ b h4 i2 hv' v' q0 ho' hx' hb'
    ·have:=h.heap_lt q0 ho' hx' hb'; omega
  ·rintro i1 i2 b hne' (hb | ⟨rfl,hb⟩) (hb' | ⟨rfl,hb'⟩)
   ·exact hE.sep2 i1 i2 b hne' hb hb'
   ·rcases hEb b hb' with h4 | h4
    ·exact hE.sep2 _ _ b hne' hb h4
    ·have:=(hE.priv _ b hb).2.2.2; omega
   ·rcases hEb b hb with h4 | h4
    ·exact hE.sep2 _ _ b hne' h4 hb'
    ·have:=(hE.priv _ b hb').2.2.2; omega
   ·exact hne' rfl
theorem R.nestPut (h:R fr σ φ I a w) (r:Rec) {v u0:Value} {id lk:Nat} {e:TypeId} {k0:Ty} {e1:TypeId} {k1:Ty} {xs xs':List (D k0×List (D k1))} {ver:Nat} {st:Option (Nat×Int)} (hd:∀ d,r.dst=some d→d < fr.N)
  (hw:r.wr=[(id,some (.nest e k0 e1 k1 xs' lk)),(lk,some (.lock id (ver + 1) none))]) (hn:r.new=[]) (h1:σ.heap id=some (.nest e k0 e1 k1 xs lk)) (h2:σ.heap lk=some (.lock id ver st))
  (hu0:φ id=some u0) (honly:OnlyP (fun b=>blk u0=some b) w w') (hrow:∃ vs,w'.ownsRow 0 e (size k0 + 1) u0 xs'.length vs) (hval:∀ av,r.val=some av→RA fr.J φ I w' av v)
  (hH:HeadOK φ I w' id k0 k1 xs') (hN:∀ E,Deep fr σ φ I w E→NestOK φ I w' (E id) (holeX none) id k0 e1 k1 xs'):R fr (r.apply σ) φ I (a.put r.dst v) w':=by
 have hne:id ≠ lk:=by
  rintro rfl
  rw [h1] at h2; cases h2
 have hlk:∀ i' x,r.wr.lookup i'=some (some x)→(i'=id∧x=.nest e k0 e1 k1 xs' lk) ∨ (i'=lk∧x=.lock id (ver + 1) none):=by
  intro i' x hx
  rw [hw] at hx
  simp only [List.lookup] at hx
  by_cases e0:i'=id
  ·subst e0; simp at hx; exact .inl ⟨rfl,hx.symm⟩
  ·have:(i' == id)=false:=by simp [e0]
   rw [this] at hx
   by_cases e2:i'=lk
   ·subst e2; simp at hx; exact .inr ⟨rfl,hx.symm⟩
   ·have:(i' == lk)=false:=by simp [e2]
    rw [this] at hx; cases hx
 have hlook:∀ i hv,(r.apply σ).heap i=some hv→r.wr.lookup i=some (some hv) ∨ (r.wr.lookup i=none∧σ.heap i=some hv):=by
  intro i hv he
  simp only [Rec.apply] at he
  cases hl:r.wr.lookup i with
  | none=>rw [hl] at he; exact .inr ⟨rfl,he⟩
  | some x=>rw [hl] at he; left; simpa using he
 have hnot:∀ i',r.wr.lookup i'=none→i' ≠ id∧i' ≠ lk:=by
  intro i' hl
  rw [hw] at hl
  constructor
  ·rintro rfl; simp [List.lookup] at hl
  ·rintro rfl
   have:(i' == id)=false:=by simp [Ne.symm hne]
   simp [List.lookup,this] at hl
 obtain ⟨E,hE⟩:=h.deep
 have hsep:∀ i' hv x b,i' ≠ id→σ.heap i'=some hv→hv.owned=true→φ i'=some x→blk x=some b→¬ blk u0=some b:=fun i' hv x b q0 q1 q2 q3 q4=>h.sep i' id hv _ x u0 b q0 q1 h1 q2 rfl q3 hu0 q4
 have hkeep:∀ i' hv x b,i' ≠ id→σ.heap i'=some hv→hv.owned=true→φ i'=some x→blk x=some b→w'.heap[b]?=w.heap[b]?:=fun i' hv x b q0 q1 q2 q3 q4=>honly.block b (h.heap_lt q1 q2 q3 q4) (hsep i' hv x b q0 q1 q2 q3 q4)
 have hIw:∀ b,I b→w'.heap[b]?=w.heap[b]?:=fun b hb=>honly.block b (h.lt b (.inl hb)) fun hg=>(h.own id _ u0 b h1 rfl hu0 hg).1 hb
 have hEw:∀ i' b,E i' b→w'.heap[b]?=w.heap[b]?:=fun i' b hb=>honly.block b (hE.priv i' b hb).2.2.2 fun hg=>hE.sep1 i' b hb id _ u0 h1 rfl hu0 hg
 have hoth:∀ i' hv,(r.apply σ).heap i'=some hv→i' ≠ id→(∀ r' ver st,hv ≠ .lock r' ver st)→σ.heap i'=some hv:=by
  intro i' hv hs hne' hx
  rcases hlook i' _ hs with hl | hl
  ·rcases hlk i' _ hl with ⟨e0,_⟩ | ⟨_,hq⟩
   ·exact (hne' e0).elim
   ·exact (hx _ _ _ hq).elim
  ·exact hl.2
 have hnid:∀ i' hv,(r.apply σ).heap i'=some hv→(∀ e k0 e1 k1 xs lk,hv ≠ .nest e k0 e1 k1 xs lk)→i' ≠ id:=by
  rintro i' hv hs hx rfl
  rcases hlook i' _ hs with hl | ⟨hl,_⟩
  ·rcases hlk i' _ hl with ⟨_,hq⟩ | ⟨e0,_⟩
   ·exact hx _ _ _ _ _ _ hq
   ·exact hne e0
  ·exact (hnot i' hl).1 rfl
 have hlock:∀ r' lk' ver' st',(r.apply σ).heap lk'=some (.lock r' ver' st')→(lk'=lk∧r'=id∧ver'=ver + 1∧st'=none) ∨ (lk' ≠ lk∧σ.heap lk'=some (.lock r' ver' st')):=by
  intro r' lk' ver' st' hs
  rcases hlook lk' _ hs with hl | ⟨hl,g⟩
  ·rcases hlk lk' _ hl with ⟨_,hq⟩ | ⟨rfl,hq⟩
   ·cases hq
   ·cases hq; exact .inl ⟨rfl,rfl,rfl,rfl⟩
  ·exact .inr ⟨(hnot lk' hl).2,g⟩
 have hidn:∀ e' k0' e1' k1' xs'' lk',(r.apply σ).heap id=some (.nest e' k0' e1' k1' xs'' lk')→HV.nest e' k0' e1' k1' xs'' lk'=.nest e k0 e1 k1 xs' lk:=by
  intro e' k0' e1' k1' xs'' lk' hs
  rcases hlook id _ hs with hl | ⟨hl,_⟩
  ·rcases hlk id _ hl with ⟨_,hq⟩ | ⟨e0,_⟩
   ·exact hq
   ·exact (hne e0).elim
  ·exact ((hnot id hl).1 rfl).elim
 refine h.updD r (G:=fun b=>blk u0=some b) hd (fun _ _ h=>h) (fun _ h=>h) (fun i' hi' _=>h.fresh i' hi') honly (fun b hb=>h.own id _ u0 b h1 rfl hu0 hb) (fun i' hv x b hl q1 q2 q3 q4=>hsep i' hv x b (hnot i' hl).1 q1 q2 q3 q4) (fun b hb=>.inl hb) ?_ ?_ ?_ ?_ hval ?_
 ·intro i' hv' hl
  rcases hlk i' _ hl with ⟨rfl,rfl⟩ | ⟨rfl,rfl⟩
  ·obtain ⟨vs,hvs⟩:=hrow
   exact ⟨u0,vs,hu0,hvs⟩
  ·exact h.old _ _ h2
 ·intro i' hv' x b hl ho' hx hb
  rcases hlk i' _ hl with ⟨rfl,rfl⟩ | ⟨rfl,rfl⟩
  ·exact h.own _ _ x b h1 rfl hx hb
  ·cases ho'
 ·intro i1 i2 hv1 hv2 x x' b hl hl' q1 ho1 ho2 hx hx' hb hb'
  rcases hlk i1 _ hl with ⟨rfl,rfl⟩ | ⟨rfl,rfl⟩
  ·exact h.sep i1 i2 _ hv2 x x' b (fun e=>(hnot i2 hl').1 e.symm) h1 q1 rfl ho2 hx hx' hb hb'
  ·cases ho1
 ·intro i1 i2 hv1 hv2 x x' b hne2 hl hl' ho1 ho2
  rcases hlk i1 _ hl with ⟨rfl,rfl⟩ | ⟨rfl,rfl⟩
  ·rcases hlk i2 _ hl' with ⟨rfl,rfl⟩ | ⟨rfl,rfl⟩
   ·exact (hne2 rfl).elim
   ·cases ho2
  ·cases ho1
 ·refine ⟨E,?_,?_,?_,?_,?_,?_,?_,?_,?_,hE.sep2⟩
  ·intro i' e' k0' e1' k1' xs'' lk' hs
   by_cases e0:i'=id
   ·subst e0
    cases hidn _ _ _ _ _ _ hs
    exact hH
   ·have q0:=hoth i' _ hs e0 (by simp)
    obtain ⟨x,hx⟩:=h.old i' _ q0
    exact (hE.head i' _ _ _ _ _ _ q0).frame hx (fun _ _ h=>h) (fun _ h=>h) hIw (fun b hb=>hkeep i' _ x b e0 q0 rfl hx hb)
  ·intro i' e' k0' e1' k1' xs'' lk' ver' st' hs hl'
   by_cases e0:i'=id
   ·subst e0
    cases hidn _ _ _ _ _ _ hs
    rcases hlock i' lk ver' st' hl' with ⟨-,-,rfl,rfl⟩ | ⟨hq,_⟩
    ·exact hN E hE
    ·exact (hq rfl).elim
   ·have q0:=hoth i' _ hs e0 (by simp)
    obtain ⟨x,hx⟩:=h.old i' _ q0
    rcases hlock i' lk' ver' st' hl' with ⟨_,hq,_⟩ | ⟨_,q1⟩
    ·exact (e0 hq).elim
    ·exact (hE.nest i' _ _ _ _ _ _ _ _ q0 q1).frame hx (fun _ _ h=>h) (fun _ h=>h) hIw (hEw i') (fun b hb=>hkeep i' _ x b e0 q0 rfl hx hb)
  ·intro n' r' i' ver' hs e' k0' e1' k1' xs'' lk' st' hr hl' p0 pi
   have q0:=hoth n' _ hs (hnid n' _ hs (by simp)) (by simp)
   by_cases e0:r'=id
   ·subst e0
    cases hidn _ _ _ _ _ _ hr
    rcases hlock r' lk ver' st' hl' with ⟨-,-,rfl,rfl⟩ | ⟨hq,_⟩
    ·have:=hE.peekv n' r' i' _ q0 _ _ _ _ _ _ _ _ h1 h2
     omega
    ·exact (hq rfl).elim
   ·have q1:=hoth r' _ hr e0 (by simp)
    obtain ⟨x,hx⟩:=h.old r' _ q1
    rcases hlock r' lk' ver' st' hl' with ⟨_,hq,_⟩ | ⟨_,q2⟩
    ·exact (e0 hq).elim
    ·rw [hE.peek n' r' i' ver' q0 _ _ _ _ _ _ _ q1 q2 p0 pi]
     exact (cellN_eq hx hx (fun b hb=>hkeep r' _ x b e0 q1 rfl hx hb) _).symm
  ·intro n' r' i' e1'' k1'' ys' hs e' k0' e1' k1' xs'' lk' ver' hr hl'
   have q0:=hoth n' _ hs (hnid n' _ hs (by simp)) (by simp)
   rcases hlock r' lk' ver' _ hl' with ⟨_,_,_,hq⟩ | ⟨hq2,q2⟩
   ·cases hq
   ·have e0:r' ≠ id:=by
     rintro rfl
     cases hidn _ _ _ _ _ _ hr
     exact hq2 rfl
    have q1:=hoth r' _ hr e0 (by simp)
    obtain ⟨x,hx⟩:=h.old r' _ q1
    exact (hE.pend n' r' i' _ _ _ q0 _ _ _ _ _ _ _ q1 q2).frame hx (fun _ _ h=>h) (fun _ h=>h) hIw (hEw r') (fun b hb=>hkeep r' _ x b e0 q1 rfl hx hb)
  ·intro n' r' i' ver' hs
   exact hE.peekr n' r' i' ver' (hoth n' _ hs (hnid n' _ hs (by simp)) (by simp))
  ·intro n' r' e1' k1' ys' hs
   exact hE.pendr n' r' e1' k1' ys' (hoth n' _ hs (hnid n' _ hs (by simp)) (by simp))
  ·intro n' r' i' ver' hs e' k0' e1' k1' xs'' lk' ver'' st' hr hl'
   have q0:=hoth n' _ hs (hnid n' _ hs (by simp)) (by simp)
   by_cases e0:r'=id
   ·subst e0
    cases hidn _ _ _ _ _ _ hr
    rcases hlock r' lk ver'' st' hl' with ⟨-,-,rfl,rfl⟩ | ⟨hq,_⟩
    ·have:=hE.peekv n' r' i' _ q0 _ _ _ _ _ _ _ _ h1 h2
     omega
    ·exact (hq rfl).elim
   ·have q1:=hoth r' _ hr e0 (by simp)
    rcases hlock r' lk' ver'' st' hl' with ⟨_,hq,_⟩ | ⟨_,q2⟩
    ·exact (e0 hq).elim
    ·exact hE.peekv n' r' i' ver' q0 _ _ _ _ _ _ _ _ q1 q2
  ·intro i' b hb
   obtain ⟨p1,p2,p3,p4⟩:=hE.priv i' b hb
   exact ⟨p1,p2,p3,Nat.lt_of_lt_of_le p4 honly.size⟩
  ·intro i' b hb i2 hv' v' hs ho' hx hb'
   rcases hlook i2 _ hs with hl | ⟨hl,q⟩
   ·rcases hlk i2 _ hl with ⟨rfl,rfl⟩ | ⟨_,rfl⟩
    ·exact hE.sep1 i' b hb _ _ v' h1 rfl hx hb'
    ·cases ho'
   ·exact hE.sep1 i' b hb i2 hv' v' q ho' hx hb'
theorem nest_rd {E I':Nat→Prop} {id:Nat} {k0:Ty} {e e1:TypeId} {k1:Ty} {xs:List (D k0×List (D k1))} {u:Value} {vs:List Value} (hu:φ id=some u) (hrow:w.ownsRow 0 e (size k0 + 1) u xs.length vs)
  (hH:HeadOK φ I w id k0 k1 xs) (hN:NestOK φ I w E (holeX none) id k0 e1 k1 xs) (hI:∀ b,I b ∨ E b→I' b):lst (RdC I' w (.pair k0 (.seq e1 k1))) (xs:List (D (.pair k0 (.seq e1 k1)))) vs:=by
 have noX:∀ j,¬ holeX none j:=by rintro j ⟨_,_,h,_⟩; cases h
 have key:∀ (m:Nat),m ≤ xs.length→lst (RdC I' w (.pair k0 (.seq e1 k1))) (xs.drop (xs.length - m):List (D (.pair k0 (.seq e1 k1)))) (vs.drop ((xs.length - m) * (size k0 + 1))):=by
  intro m
  induction m with
  | zero =>
   intro _
   rw [Nat.sub_zero,List.drop_length,List.drop_eq_nil_of_le (by rw [hrow.1]; exact Nat.le_refl _)]
   rfl
  | succ m ih =>
   intro hm
   have hlt:xs.length - (m + 1) < xs.length:=by omega
   have e0:xs.length - (m + 1) + 1=xs.length - m:=by omega
   rw [List.drop_eq_getElem_cons hlt,e0]
   have ih:=ih (by omega)
   generalize hi:xs.length - (m + 1)=i at hlt e0
   obtain ⟨vs0,p1,p2⟩:=hH i hlt
   obtain ⟨uj,usj,p3,p4,p5,p6⟩:=hN.elem i hlt (noX _)
   have hcells:∀ c y,cellN φ w id c=some y→c < xs.length * (size k0 + 1)→vs[c]?=some y:=by
    intro c y hc hcl
    unfold cellN at hc
    rw [hu] at hc
    rcases hrow.2 with ⟨rfl,_⟩ | ⟨g,cap,cur,rfl,_,hg,_,_,_,htk⟩
    ·cases hc
    ·simp only at hc
     rw [cell_of_row w g c cur e (0,0) hg] at hc
     rw [← htk,List.getElem?_take,if_pos hcl]
     simpa using hc
   have hb:i * (size k0 + 1) + (size k0 + 1) ≤ xs.length * (size k0 + 1):=by
    rw [← Nat.succ_mul]; exact Nat.mul_le_mul_right _ hlt
   have hl0:=p1.length
   have split:vs.drop (i * (size k0 + 1))=(vs0 ++ [uj]) ++ vs.drop ((i + 1) * (size k0 + 1)):=by
    apply List.ext_getElem?
    intro j
    rw [List.getElem?_drop]
    by_cases c1:j < size k0
    ·rw [List.getElem?_append_left (by simp; omega),List.getElem?_append_left (by omega)]
     have:vs0[j]?=some (vs0[j]'(by omega)):=List.getElem?_eq_getElem (by omega)
     rw [this]
     exact hcells _ _ (p2 j _ this) (by omega)
    ·by_cases c2:j=size k0
     ·subst c2
      rw [List.getElem?_append_left (by simp; omega),List.getElem?_append_right (by omega)]
      rw [hl0,Nat.sub_self]
      exact hcells _ _ p3 (by omega)
     ·rw [List.getElem?_append_right (by simp; omega),List.getElem?_drop]
      congr 1
      simp only [List.length_append,List.length_cons,List.length_nil,hl0]
      rw [Nat.succ_mul]; omega
   rw [split]
   rw [e0] at split ⊢
   refine ⟨vs0 ++ [uj],_,rfl,⟨vs0,[uj],rfl,p1.mono (fun b hb=>hI b (.inl hb)) (fun _ _=>rfl),?_⟩,?_⟩
   ·rcases p4.2 with ⟨rfl,h0⟩ | ⟨g,cap,cur,rfl,_,hg,hn,_,hcs,htk⟩
    ·have:(xs[i]).2=[]:=List.eq_nil_of_length_eq_zero h0
     rw [this]
     exact ⟨none,0,rfl,Nat.le_refl _,.inl rfl⟩
    ·refine ⟨_,cap,rfl,hn,.inr ⟨g,0,usj,rfl,hI g (.inr (p6 g rfl)),p5.mono fun _ _ h=>h.mono (fun b hb=>hI b (.inl hb)) (fun _ _=>rfl),fun j y hj=>?_⟩⟩
     rw [Nat.zero_add,cell_of_row w g j cur _ (0,0) hg]
     rw [← htk,List.getElem?_take] at hj
     split at hj
     ·simpa using hj
     ·cases hj
   ·exact ih
 have:=key xs.length (Nat.le_refl _)
 simpa using this
def FS.frzN (σ:FS) (id:Nat) (e:TypeId) (k:Ty) (xs:List (D k)):FS:={ σ with heap:=fun i=>if i=id then some (.frozen e k xs) else σ.heap i }
theorem R.nestFrz (h:R fr σ φ I a w) {id lk:Nat} {e:TypeId} {k0:Ty} {e1:TypeId} {k1:Ty} {xs:List (D k0×List (D k1))} {ver:Nat} (h1:σ.heap id=some (.nest e k0 e1 k1 xs lk)) (h2:σ.heap lk=some (.lock id ver none))
  {k:Ty} {ys:List (D k)} (hk:∀ (I':Nat→Prop) (vs:List Value),lst (RdC I' w (.pair k0 (.seq e1 k1))) (xs:List (D (.pair k0 (.seq e1 k1)))) vs→lst (RdC I' w k) ys vs) (hl:ys.length=xs.length):∃ I',R fr (σ.frzN id e k ys) φ I' a w:=by
 obtain ⟨u0,vs,hu0,hrow⟩:=h.heap id _ h1
 obtain ⟨E,hE⟩:=h.deep
 let I':Nat→Prop:=fun b=>I b ∨ (blk u0=some b ∨ E id b)
 have hII:∀ b,I b→I' b:=fun b hb=>.inl hb
 have hrd:=hk I' vs (nest_rd (I':=I') hu0 hrow (hE.head id _ _ _ _ _ _ h1) (hE.nest id _ _ _ _ _ _ _ _ h1 h2) (fun b hb=>hb.elim .inl fun h=>.inr (.inr h)))
 have hlk:∀ i x,([(id,some (HV.frozen e k ys))]:List (Nat×Option HV)).lookup i=some x→i=id∧x=some (.frozen e k ys):=by
  intro i x hx
  simp only [List.lookup] at hx
  by_cases e:i=id
  ·subst e; simp at hx; exact ⟨rfl,hx.symm⟩
  ·have:(i == id)=false:=by simp [e]
   rw [this] at hx; cases hx
 have hlk0:∀ i,([(id,some (HV.frozen e k ys))]:List (Nat×Option HV)).lookup i=none→i ≠ id:=by
  rintro i hl rfl
  simp [List.lookup] at hl
 have hlook:∀ i hv,((⟨none,none,[],[],[(id,some (.frozen e k ys))],[]⟩:Rec).apply σ).heap i=some hv→(i=id∧hv=.frozen e k ys) ∨ (i ≠ id∧σ.heap i=some hv):=by
  intro i hv he
  simp only [Rec.apply] at he
  cases hl:([(id,some (HV.frozen e k ys))]:List (Nat×Option HV)).lookup i with
  | none=>rw [hl] at he; exact .inr ⟨hlk0 i hl,he⟩
  | some x =>
   rw [hl] at he
   obtain ⟨h1,h2⟩:=hlk i x hl
   subst h2
   simp only [Option.some.injEq] at he
   exact .inl ⟨h1,he.symm⟩
 have hR:=h.updD (w':=w) (φ':=φ) (I':=I') ⟨none,none,[],[],[(id,some (.frozen e k ys))],[]⟩ (v:=undef) (G:=fun _=>False) (fun _ h=>by cases h) (fun _ _ h=>h) hII (fun i hi _=>h.fresh i hi) (OnlyP.refl _ _) (fun _ h=>h.elim) (fun _ _ _ _ _ _ _ _ _ h=>h)
  (by
   rintro b (hb | hb | hb)
   ·exact .inl hb
   ·obtain ⟨p1,p2,p3⟩:=h.own id _ u0 b h1 rfl hu0 hb
    refine .inr ⟨p3,h.heap_lt h1 rfl hu0 hb,p2,fun i hv' u hl h4 h5 h6 h7=>?_⟩
    exact h.sep i id hv' _ u u0 b (hlk0 i hl) h4 h1 h5 rfl h6 hu0 h7 hb
   ·obtain ⟨p1,p2,p3,p4⟩:=hE.priv id b hb
    exact .inr ⟨p3,p4,p2,fun i hv' u hl h4 h5 h6 h7=>hE.sep1 id b hb i hv' u h4 h5 h6 h7⟩)
  (by
   intro i hv' hl'
   obtain ⟨rfl,e1'⟩:=hlk i _ hl'
   cases e1'
   refine ⟨u0,hu0,?_⟩
   rcases hrow.2 with ⟨rfl,h0⟩ | ⟨g,cap,cur,rfl,_,hg,hn,_,hcs,htk⟩
   ·have:ys=[]:=List.eq_nil_of_length_eq_zero (hl.trans h0)
    subst this
    exact ⟨none,0,rfl,Nat.le_refl _,.inl rfl⟩
   ·refine ⟨_,cap,by rw [hl],by rw [hl]; exact hn,.inr ⟨g,0,vs,rfl,.inr (.inl rfl),hrd,fun j u hj=>?_⟩⟩
    rw [Nat.zero_add,cell_of_row w g j cur _ (0,0) hg]
    rw [← htk,List.getElem?_take] at hj
    split at hj
    ·simpa using hj
    ·cases hj)
  (by
   intro i hv' u b hl' ho' hu hb
   obtain ⟨rfl,e1'⟩:=hlk i _ hl'
   cases e1'
   cases ho')
  (by
   intro i i' hv1 hv2 u u' b hl' _ _ ho'
   obtain ⟨rfl,e1'⟩:=hlk i _ hl'
   cases e1'
   cases ho')
  (by
   intro i i' hv1 hv2 u u' b _ hl' _ ho'
   obtain ⟨rfl,e1'⟩:=hlk i _ hl'
   cases e1'
   cases ho')
  (fun _ h=>by cases h)
  (by
   have hoth:∀ i hv,((⟨none,none,[],[],[(id,some (.frozen e k ys))],[]⟩:Rec).apply σ).heap i=some hv→hv.plain=false→i ≠ id∧σ.heap i=some hv:=by
    intro i hv hs hp
    rcases hlook i hv hs with ⟨_,rfl⟩ | h
    ·cases hp
    ·exact h
   have same:∀ (b:Nat),I b→w.heap[b]?=w.heap[b]?:=fun _ _=>rfl
   refine ⟨fun i b=>i ≠ id∧E i b,?_,?_,?_,?_,?_,?_,?_,?_,?_,?_⟩
   ·intro i e' k0' e1' k1' xs' lk' hs
    obtain ⟨q1,q0⟩:=hoth i _ hs rfl
    obtain ⟨x,hx⟩:=h.old i _ q0
    exact (hE.head i _ _ _ _ _ _ q0).frame hx (fun _ _ h=>h) hII same (fun _ _=>rfl)
   ·intro i e' k0' e1' k1' xs' lk' ver' st' hs hl'
    obtain ⟨q1,q0⟩:=hoth i _ hs rfl
    obtain ⟨x,hx⟩:=h.old i _ q0
    exact ((hE.nest i _ _ _ _ _ _ _ _ q0 (hoth lk' _ hl' rfl).2).frame hx (fun _ _ h=>h) hII same (fun _ _=>rfl) (fun _ _=>rfl)).monoE' fun b hb=>⟨q1,hb⟩
   ·intro n r i ver' hs e' k0' e1' k1' xs' lk' st' hr hl' p0 pi
    exact hE.peek n r i ver' (hoth n _ hs rfl).2 _ _ _ _ _ _ _ (hoth r _ hr rfl).2 (hoth lk' _ hl' rfl).2 p0 pi
   ·intro n r i e1'' k1'' ys' hs e' k0' e1' k1' xs' lk' ver' hr hl'
    obtain ⟨q1,q0⟩:=hoth r _ hr rfl
    obtain ⟨x,hx⟩:=h.old r _ q0
    obtain ⟨t1,t2,t3,t4,t5,t6,t7,t8,t9⟩:=(hE.pend n r i _ _ _ (hoth n _ hs rfl).2 _ _ _ _ _ _ _ q0 (hoth lk' _ hl' rfl).2).frame (I':=I') (w':=w) hx (fun _ _ h=>h) hII same (fun _ _=>rfl) (fun _ _=>rfl)
    exact ⟨t1,t2,t3,t4,t5,t6,t7,t8,fun b hb=>⟨⟨q1,(t9 b hb).1⟩,(t9 b hb).2⟩⟩
   ·intro n r i ver' hs
    exact hE.peekr n r i ver' (hoth n _ hs rfl).2
   ·intro n r e1' k1' ys' hs
    exact hE.pendr n r e1' k1' ys' (hoth n _ hs rfl).2
   ·intro n r i ver' hs e' k0' e1' k1' xs' lk' ver'' st' hr hl'
    exact hE.peekv n r i ver' (hoth n _ hs rfl).2 _ _ _ _ _ _ _ _ (hoth r _ hr rfl).2 (hoth lk' _ hl' rfl).2
   ·rintro i b ⟨hne,hb⟩
    obtain ⟨p1,p2,p3,p4⟩:=hE.priv i b hb
    refine ⟨?_,p2,p3,p4⟩
    rintro (h3 | h3 | h3)
    ·exact p1 h3
    ·exact hE.sep1 i b hb id _ u0 h1 rfl hu0 h3
    ·exact hE.sep2 i id b hne hb h3
   ·rintro i b ⟨hne,hb⟩ i2 hv' v' hs ho' hx hb'
    rcases hlook i2 _ hs with ⟨_,rfl⟩ | ⟨_,q⟩
    ·cases ho'
    ·exact hE.sep1 i b hb i2 hv' v' q ho' hx hb'
   ·rintro i i' b hne ⟨_,hb⟩ ⟨_,hb'⟩
    exact hE.sep2 i i' b hne hb hb')
 refine ⟨I',hR.sub (fun t av he=>by simpa [Rec.apply,FS.frzN] using he) (fun i hv' he=>?_) fun i he=>⟨he,by simp⟩⟩
 simp only [FS.frzN] at he
 simp only [Rec.apply,List.lookup]
 by_cases e1':i=id
 ·subst e1'
  rw [if_pos rfl] at he
  simpa using he
 ·rw [if_neg e1'] at he
  have:(i == id)=false:=by simp [e1']
  rw [this]
  exact he
end
end Go.Ev
