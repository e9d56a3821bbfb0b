/- What the functions come to, in plain Lean, and what holds of it. -/
import Derived.Test.YtohnakoineakdaaGreatQQ1
namespace Go.Proofs.YtohnakoineakdaaGreat
open Go Go.Ev
set_option linter.unusedVariables false
set_option linter.unusedSimpArgs false
theorem mget_cons (s t:Int) (ks:List (Int×Bool)):mget ((s,true) :: ks) t=true ↔ t=s ∨ mget ks t=true:=by
 unfold mget
 rw [List.lookup]
 cases h:t == s with
 | true=>simp [beq_iff_eq.1 h]
 | false=>simp [beq_eq_false_iff_ne.1 h]
theorem addK_iff {s:Int}:∀ {l:List IT} {ks:List (Int×Bool)},mget (addK ks l) s=true ↔ mget ks s=true ∨ ∃ y ∈ l,y.2.2.1=s
 | [],ks=>by simp [addK]
 | x :: l,ks=>by
  have:=addK_iff (s:=s) (l:=l) (ks:=(x.2.2.1,true) :: ks)
  rw [show addK ks (x :: l)=addK ((x.2.2.1,true) :: ks) l from rfl,this,mget_cons]
  constructor
  ·rintro ((rfl | h) | ⟨y,hy,e⟩)
   ·exact .inr ⟨x,List.mem_cons_self,rfl⟩
   ·exact .inl h
   ·exact .inr ⟨y,List.mem_cons_of_mem _ hy,e⟩
  ·rintro (h | ⟨y,hy,e⟩)
   ·exact .inl (.inr h)
   ·rcases List.mem_cons.1 hy with rfl | hy
    ·exact .inl (.inl e.symm)
    ·exact .inr ⟨y,hy,e⟩
theorem keepF_iff {la mark s:Int}:∀ {fs:List FO} {ks:List (Int×Bool)},mget (keepF la mark ks fs) s=true ↔ mget ks s=true ∨ ∃ f ∈ fs,isOutS la f.1 mark=false ∧ ∃ y ∈ f.2,y.2.2.1=s
 | [],ks=>by simp [keepF]
 | f :: fs,ks=>by
  rw [show keepF la mark ks (f :: fs)=keepF la mark (if isOutS la f.1 mark=true then ks else addK ks f.2) fs from rfl,keepF_iff]
  cases h:isOutS la f.1 mark with
  | true =>
   rw [if_pos rfl]
   constructor
   ·rintro (h1 | ⟨g,hg,e⟩)
    ·exact .inl h1
    ·exact .inr ⟨g,List.mem_cons_of_mem _ hg,e⟩
   ·rintro (h1 | ⟨g,hg,e1,e⟩)
    ·exact .inl h1
    ·rcases List.mem_cons.1 hg with rfl | hg
     ·rw [h] at e1; cases e1
     ·exact .inr ⟨g,hg,e1,e⟩
  | false =>
   rw [if_neg (by simp),addK_iff]
   constructor
   ·rintro ((h1 | h1) | ⟨g,hg,e⟩)
    ·exact .inl h1
    ·exact .inr ⟨f,List.mem_cons_self,h,h1⟩
    ·exact .inr ⟨g,List.mem_cons_of_mem _ hg,e⟩
   ·rintro (h1 | ⟨g,hg,e1,e⟩)
    ·exact .inl (.inl h1)
    ·rcases List.mem_cons.1 hg with rfl | hg
     ·exact .inl (.inr e)
     ·exact .inr ⟨g,hg,e1,e⟩
theorem keepQ_iff {la mark s:Int} {g:List IT}:∀ {qs:List QY} {ks:List (Int×Bool)},mget (keepQ la mark g ks qs) s=true ↔ mget ks s=true ∨ ∃ q ∈ qs,∃ f ∈ foldsOf q g,isOutS la f.1 mark=false ∧ ∃ y ∈ f.2,y.2.2.1=s
 | [],ks=>by simp [keepQ]
 | q :: qs,ks=>by
  rw [show keepQ la mark g ks (q :: qs)=keepQ la mark g (keepF la mark ks (foldsOf q g)) qs from rfl,keepQ_iff,keepF_iff]
  constructor
  ·rintro ((h1 | h1) | ⟨p,hp,e⟩)
   ·exact .inl h1
   ·exact .inr ⟨q,List.mem_cons_self,h1⟩
   ·exact .inr ⟨p,List.mem_cons_of_mem _ hp,e⟩
  ·rintro (h1 | ⟨p,hp,e⟩)
   ·exact .inl (.inl h1)
   ·rcases List.mem_cons.1 hp with rfl | hp
    ·exact .inl (.inr e)
    ·exact .inr ⟨p,hp,e⟩
theorem keepAll_iff {la mark s:Int} {qs:List QY}:∀ {gs:List (List IT)} {ks:List (Int×Bool)},mget (keepAll la mark qs ks gs) s=true ↔ mget ks s=true ∨ ∃ g ∈ gs,∃ q ∈ qs,∃ f ∈ foldsOf q g,isOutS la f.1 mark=false ∧ ∃ y ∈ f.2,y.2.2.1=s
 | [],ks=>by simp [keepAll]
 | g :: gs,ks=>by
  rw [show keepAll la mark qs ks (g :: gs)=keepAll la mark qs (keepQ la mark g ks qs) gs from rfl,keepAll_iff,keepQ_iff]
  constructor
  ·rintro ((h1 | h1) | ⟨p,hp,e⟩)
   ·exact .inl h1
   ·exact .inr ⟨g,List.mem_cons_self,h1⟩
   ·exact .inr ⟨p,List.mem_cons_of_mem _ hp,e⟩
  ·rintro (h1 | ⟨p,hp,e⟩)
   ·exact .inl (.inl h1)
   ·rcases List.mem_cons.1 hp with rfl | hp
    ·exact .inl (.inr e)
    ·exact .inr ⟨p,hp,e⟩
theorem dif_inj:∀ {xs:List IT},(xs.Pairwise fun x y=>x.2.2.1 ≠ y.2.2.1)→∀ {x y:IT},x ∈ xs→y ∈ xs→x.2.2.1=y.2.2.1→x=y
 | [],_,x,_,hx,_,_=>by simp at hx
 | z :: xs,h,x,y,hx,hy,e=>by
  rw [List.pairwise_cons] at h
  rcases List.mem_cons.1 hx with ex | kx
  ·rcases List.mem_cons.1 hy with ey | ky
   ·rw [ex,ey]
   ·rw [ex] at e; exact absurd e (h.1 y ky)
  ·rcases List.mem_cons.1 hy with ey | ky
   ·rw [ey] at e; exact absurd e.symm (h.1 x kx)
   ·exact dif_inj h.2 kx ky e
theorem MayOK.up {c:CF} {xs:List IT} (h:MayOK c xs) (τ:Int):(rowT xs τ).Pairwise fun x y=>x.2.1 ≤ y.2.1:=by
 by_cases hn:rowT xs τ=[]
 ·rw [hn]; exact List.Pairwise.nil
 ·exact (h.rowTG hn).up
theorem folds_sub {c:CF} {xs:List IT} (h:MayOK c xs) {q:QY} (hq:q ∈ c.1) {τ:Int} {f:FO} (hf:f ∈ foldsOf q (rowT xs τ)):rowT xs τ ≠ [] ∧ ∀ y ∈ f.2,y ∈ xs ∧ y.1=τ:=by
 have hn:rowT xs τ ≠ []:=fun e=>by rw [e,folds_nil] at hf; simp at hf
 have hg:=h.rowTG hn
 exact ⟨hn,fun y hy=>rowT_mem.1 (((folds_ok q (h.qs q hq) _ hg.time hg.up).each f hf).2.1 y hy)⟩
theorem kept_iff {c:CF} {xs:List IT} (h:MayOK c xs) {mark:Int} {x:IT} (hx:x ∈ xs):keptB (keptS c xs mark) x=true ↔ ∃ q ∈ c.1,∃ f ∈ foldsOf q (rowT xs x.1),isOutS c.2.1 f.1 mark=false ∧ x ∈ f.2:=by
 unfold keptB keptS
 rw [keepAll_iff]
 constructor
 ·rintro (h1 | ⟨g,hg,q,hq,f,hf,e1,y,hy,e2⟩)
  ·simp [mget] at h1
  ·obtain ⟨τ,hn,rfl⟩:=h.rows_mem.1 hg
   obtain ⟨_,hs⟩:=folds_sub h hq hf
   obtain ⟨h1,h2⟩:=hs y hy
   obtain rfl:=dif_inj h.dif h1 hx e2
   exact ⟨q,hq,f,by rw [h2]; exact hf,e1,hy⟩
 ·rintro ⟨q,hq,f,hf,e1,hy⟩
  exact .inr ⟨_,h.rows_mem.2 ⟨x.1,(folds_sub h hq hf).1,rfl⟩,q,hq,f,hf,e1,x,hy,rfl⟩
theorem MayOK.perm {c:CF} {xs ys:List IT} (h:MayOK c xs) (hp:xs.Perm ys):MayOK c ys :=
 ⟨h.qs,h.ql,h.late,fun x hx=>h.may x (hp.mem_iff.2 hx),(hp.pairwise_iff fun {a b} h=>fun e=>h e.symm).1 h.dif,by rw [← hp.length_eq]; exact h.len⟩
theorem held_perm (c:CF) (xs:List IT) (mark:Int):(heldS c xs mark).Perm (xs.filter (keptB (keptS c xs mark))):=isortL_perm ltOrd _
theorem MayOK.held {c:CF} {xs:List IT} (h:MayOK c xs) (mark:Int):MayOK c (heldS c xs mark):=(h.sub List.filter_sublist).perm (held_perm c xs mark).symm
theorem mayS_held {c:CF} {xs:List IT} {ms:List Int} (h:mayS c xs ms=true) (mark:Int):mayS c (heldS c xs mark) ms=true:=by
 rw [mayS_perm (held_perm c xs mark)]
 exact mayS_sub h List.filter_sublist
theorem held_row {c:CF} {xs:List IT} (h:MayOK c xs) (mark τ:Int):rowT (heldS c xs mark) τ=(rowT xs τ).filter (keptB (keptS c xs mark)):=by
 rw [rowT_ext (h.held mark).dif (h.dif.filter (keptB (keptS c xs mark))) (((held_perm c xs mark)).filter _)]
 refine up_ext ltRow_trans ltRow_self (rowT_up (h.dif.filter _) τ) ((rowT_up h.dif τ).filter _) fun x=>?_
 rw [rowT_mem,List.mem_filter,List.mem_filter,rowT_mem]
 exact ⟨fun ⟨⟨a,b⟩,c⟩=>⟨⟨a,c⟩,b⟩,fun ⟨⟨a,b⟩,c⟩=>⟨⟨a,c⟩,b⟩⟩
theorem notOut_iff {la mark:Int} {s:Int×Int}:isOutS la s mark=false ↔ mark - la < s.2:=by
 unfold isOutS; rw [decide_eq_false_iff_not]; omega
theorem folds_same {c:CF} {xs:List IT} (h:MayOK c xs) {q:QY} (hq:q ∈ c.1) (mark τ:Int) :
  (foldsOf q (rowT (heldS c xs mark) τ)).filter (fun f=>decide (mark - c.2.1 < f.1.2))=(foldsOf q (rowT xs τ)).filter (fun f=>decide (mark - c.2.1 < f.1.2)):=by
 rw [held_row h]
 refine folds_held q (h.qs q hq) _ _ _ (h.up τ) fun f hf hθ x hx=>?_
 obtain ⟨h1,h2⟩:=(folds_sub h hq hf).2 x hx
 exact (kept_iff h h1).2 ⟨q,hq,f,by rw [h2]; exact hf,notOut_iff.2 hθ,hx⟩
theorem folds_same_iff {c:CF} {xs:List IT} (h:MayOK c xs) {q:QY} (hq:q ∈ c.1) {mark τ:Int} {f:FO} (ho:isOutS c.2.1 f.1 mark=false):f ∈ foldsOf q (rowT (heldS c xs mark) τ) ↔ f ∈ foldsOf q (rowT xs τ):=by
 have:=folds_same h hq mark τ
 have hθ:=notOut_iff.1 ho
 constructor
 ·intro hf
  have:f ∈ (foldsOf q (rowT xs τ)).filter (fun f=>decide (mark - c.2.1 < f.1.2)):=by rw [← this]; exact List.mem_filter.2 ⟨hf,by simpa using hθ⟩
  exact (List.mem_filter.1 this).1
 ·intro hf
  have:f ∈ (foldsOf q (rowT (heldS c xs mark) τ)).filter (fun f=>decide (mark - c.2.1 < f.1.2)):=by rw [this]; exact List.mem_filter.2 ⟨hf,by simpa using hθ⟩
  exact (List.mem_filter.1 this).1
theorem selR_out {la a b:Int} {f:FO} (h:selR la a b f=true):isOutS la f.1 a=false:=by
 unfold selR at h
 rw [Bool.and_eq_true,Bool.not_eq_true'] at h
 exact h.2
theorem resS_held {c:CF} {xs:List IT} (h:MayOK c xs) (a b:Int):resS c (heldS c xs a) a b=resS c xs a b:=by
 have h':=h.held a
 refine res_ext (resS_up h' a b) (resS_up h a b) fun x=>?_
 rw [resS_mem h',resS_mem h]
 constructor
 ·rintro ⟨τ,e1,k,hk,f,e2,e3,e4⟩
  have e5:=(folds_same_iff h (List.getElem_mem hk) (selR_out e3)).1 e2
  exact ⟨τ,(folds_sub h (List.getElem_mem hk) e5).1,k,hk,f,e5,e3,e4⟩
 ·rintro ⟨τ,e1,k,hk,f,e2,e3,e4⟩
  have e5:=(folds_same_iff h (List.getElem_mem hk) (selR_out e3)).2 e2
  exact ⟨τ,(folds_sub h' (List.getElem_mem hk) e5).1,k,hk,f,e5,e3,e4⟩
theorem ltOrd_self (x:IT):ltOrd x x=false:=by
 cases hx:ltOrd x x with
 | false=>rfl
 | true=>rw [ltOrd_iff] at hx; omega
theorem heldS_up {c:CF} {xs:List IT} (h:MayOK c xs) (mark:Int):(heldS c xs mark).Pairwise fun x y=>ltOrd x y=true:=ord_up (h.dif.filter _)
theorem heldS_again {c:CF} {xs:List IT} (h:MayOK c xs) (a:Int):heldS c (heldS c xs a) a=heldS c xs a:=by
 have h':=h.held a
 have e:(heldS c xs a).filter (keptB (keptS c (heldS c xs a) a))=heldS c xs a:=by
  rw [List.filter_eq_self]
  intro x hx
  obtain ⟨h1,h2⟩:=List.mem_filter.1 ((held_perm c xs a).mem_iff.1 hx)
  obtain ⟨q,hq,f,hf,e1,e2⟩:=(kept_iff h h1).1 h2
  exact (kept_iff h' hx).2 ⟨q,hq,f,(folds_same_iff h hq e1).2 hf,e1,e2⟩
 refine up_ext ltOrd_trans ltOrd_self (heldS_up h' a) (heldS_up h a) fun x=>?_
 rw [(held_perm c (heldS c xs a) a).mem_iff,e]
theorem heldS_none {c:CF} {xs:List IT} (h:MayOK c xs):heldS c xs 4398046511104=[]:=by
 have e:xs.filter (keptB (keptS c xs 4398046511104))=[]:=by
  rw [List.filter_eq_nil_iff]
  intro x hx hk
  obtain ⟨q,hq,f,hf,e1,e2⟩:=(kept_iff h hx).1 hk
  have hm:=h.qs q hq
  have hg:=h.rowTG (folds_sub h hq hf).1
  obtain ⟨y,hy,e3⟩:=folds_end q hm _ hg.up hf
  have ht:=(hg.time y hy).2
  have hs:q.2.2.1 ≤ 1073741824:=by
   simp only [qMay,Bool.and_eq_true,decide_eq_true_eq] at hm
   exact hm.2.1
  have hl:=h.late.2
  have:=notOut_iff.1 e1
  omega
 have:=held_perm c xs 4398046511104
 rw [e] at this
 exact this.eq_nil
theorem heldS_len (c:CF) (xs:List IT) (mark:Int):(heldS c xs mark).length ≤ xs.length:=by
 rw [(held_perm c xs mark).length_eq]; exact List.length_filter_le _ _
end Go.Proofs.YtohnakoineakdaaGreat
namespace Go.Proofs.YtohnakoineakdaaGreat
open Go Go.Ev
set_option linter.unusedVariables false
set_option linter.unusedSimpArgs false
theorem sameR (n:Nat) (hn:1073741825 < n) {c:CF} {xs:List IT} (h:MayOK c xs) (a b:Int) {l:List RE} (hl:∀ x ∈ l,x ∈ resS c xs a b) (h9:l.length ≤ 4194304):bournelaw0_SameResults n l l=some true :=
 SameResults_refl n hn _ (by omega) fun x hx=>by have:=resS_hist h a b x (hl x hx); omega
theorem markIn {m:Int} (h:markMay m=true):-4398046511104 ≤ m ∧ m ≤ 4398046511104:=by
 unfold markMay at h
 rw [Bool.and_eq_true,decide_eq_true_eq,decide_eq_true_eq] at h
 exact h
theorem marks_mk {a b:Int} (ha:-4398046511104 ≤ a ∧ a ≤ 4398046511104) (hb:-4398046511104 ≤ b ∧ b ≤ 4398046511104) (h:a ≤ b):([a,b].all markMay && rising [a,b])=true:=by
 simp [markMay,rising,ha.1,ha.2,hb.1,hb.2,h]
theorem mark_mk {a:Int} (ha:-4398046511104 ≤ a ∧ a ≤ 4398046511104):([a].all markMay && rising [a])=true:=by
 simp [markMay,rising,ha.1,ha.2]
end Go.Proofs.YtohnakoineakdaaGreat
namespace Go.Proofs.YtohnakoineakdaaGreat
open Go Go.Ev
set_option linter.unusedVariables false
set_option linter.unusedSimpArgs false
theorem Held_true (n:Nat) (hn:9007199254741092 < n) (c:CF) (xs:List IT) (hx:xs.length ≤ 4398046511104) (a:Int):bournelaw21_SpecHeld n c xs a=some true:=by
 rw [bournelaw21_SpecHeld_S,awake_eq]
 simp only [Option.bind_some,Bool.not_true,cond_false]
 cases h:mayS c xs [a] with
 | false =>
  rw [Held_badL n (by omega) c xs hx a h]
  rfl
 | true =>
  have hM:=mayS_ok h
  have hm:markMay a=true:=by
   have:=mayS_mk h
   simpa [rising] using this
  have ha:=markIn hm
  rw [Held_eq n (by omega) c xs a h]
  have m1:mayS c xs [a,4398046511104]=true:=mayS_marks h (marks_mk ha (by omega) (by omega))
  have m2:mayS c xs [4398046511104]=true:=mayS_marks h (mark_mk (by omega))
  have r1:=Results_eq n (by omega) c xs a 4398046511104 m1
  have r2:=Results_eq n (by omega) c (heldS c xs a) a 4398046511104 (mayS_held m1 a)
  have r3:=Held_eq n (by omega) c (heldS c xs a) a (mayS_held h a)
  have r4:=Held_eq n (by omega) c xs 4398046511104 m2
  rw [resS_held hM] at r2
  rw [heldS_again hM] at r3
  rw [heldS_none hM] at r4
  have hl:=heldS_len c xs a
  have hl2:=hM.len
  have s1:=sameR n (by omega) hM a 4398046511104 (fun x hx=>hx) (resS_len hM a 4398046511104)
  have s2:=SameItems_refl n (by omega) (heldS c xs a) (by omega)
  have d1:decide (((heldS c xs a).length:Int) ≤ (xs.length:Int))=true:=by rw [decide_eq_true_eq]; omega
  simp only [Option.bind_some,Num_eq,show ((0:Int) != 0)=false from rfl,cond_false,r1,r2,r3,r4,show ((0:Int) == 0)=true from rfl,cond_true,s1,s2,d1]
  rfl
end Go.Proofs.YtohnakoineakdaaGreat
