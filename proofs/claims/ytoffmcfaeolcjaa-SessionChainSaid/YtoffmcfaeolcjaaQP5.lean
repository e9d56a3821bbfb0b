/- What sessions are: the plain law. -/
import Derived.Test.YtoffmcfaeolcjaaQP4
namespace Go.Proofs.Ytoffmcfaeolcjaa
open Go Go.Ev
set_option linter.unusedVariables false
set_option linter.unusedSimpArgs false

/-! the order of items -/
def leI (x y : IT) : Prop := x.2.1 < y.2.1 ∨ (x.2.1 = y.2.1 ∧ x.2.2.1 ≤ y.2.2.1)
theorem ord_lt {x y : IT} : ord x y < 0 ↔ ¬ leI y x := by
  unfold ord cmpI leI
  split <;> split <;> (try split) <;> (try split) <;> omega
theorem ord_le {x y : IT} : ord x y ≤ 0 ↔ leI x y := by
  unfold ord cmpI leI
  split <;> split <;> (try split) <;> (try split) <;> omega
theorem ord_ge {x y : IT} : 0 ≤ ord x y ↔ leI y x := by
  unfold ord cmpI leI
  split <;> split <;> (try split) <;> (try split) <;> omega
theorem leI_refl (x : IT) : leI x x := Or.inr ⟨rfl, Int.le_refl _⟩
theorem leI_trans {x y z : IT} (h : leI x y) (g : leI y z) : leI x z := by unfold leI at *; omega
theorem leI_total {x y : IT} (h : ¬ leI x y) : leI y x := by unfold leI at *; omega
theorem leI_time {x y : IT} (h : leI x y) : x.2.1 ≤ y.2.1 := by unfold leI at h; omega
theorem leI_anti {x y : IT} (h : leI x y) (g : leI y x) : x.2.2.1 = y.2.2.1 := by unfold leI at *; omega

theorem permSum {xs ys : List Int} (h : xs.Perm ys) : xs.sum = ys.sum := by
  induction h with
  | nil => rfl
  | cons x _ ih => simp only [List.sum_cons, ih]
  | swap x y l => simp only [List.sum_cons]; omega
  | trans _ _ ih1 ih2 => exact ih1.trans ih2

/-! what is known of some items -/
def cntB (bs : List Int) (p : List IT) (k : Nat) : Int := (p.countP fun x => buck bs x.2.2.2 == k : Nat)
def histOf (bs : List Int) (p : List IT) : List Int := (List.range (bs.length + 1)).map (cntB bs p)
structure AccIs (bs : List Int) (a : AC) (p : List IT) : Prop where
  cnt : a.1 = p.length
  sum : a.2.1 = (p.map fun x => x.2.2.2).sum
  mn : ∀ x ∈ p, a.2.2.1 ≤ x.2.2.2
  mnE : ∃ x ∈ p, a.2.2.1 = x.2.2.2
  mx : ∀ x ∈ p, x.2.2.2 ≤ a.2.2.2.1
  mxE : ∃ x ∈ p, a.2.2.2.1 = x.2.2.2
  fm : a.2.2.2.2.1 ∈ p
  fl : ∀ x ∈ p, leI a.2.2.2.2.1 x
  lm : a.2.2.2.2.2.1 ∈ p
  ll : ∀ x ∈ p, leI x a.2.2.2.2.2.1
  hist : a.2.2.2.2.2.2 = histOf bs p
theorem AccIs.pos {bs : List Int} {a : AC} {p : List IT} (h : AccIs bs a p) : 0 < a.1 := by
  have := List.length_pos_of_mem h.fm
  rw [h.cnt]; omega
theorem AccIs.perm {bs : List Int} {a : AC} {p q : List IT} (h : AccIs bs a p) (e : p.Perm q) : AccIs bs a q where
  cnt := by rw [h.cnt, e.length_eq]
  sum := by rw [h.sum]; exact permSum (e.map _)
  mn := fun x hx => h.mn x (e.mem_iff.2 hx)
  mnE := h.mnE.elim fun x hx => ⟨x, e.mem_iff.1 hx.1, hx.2⟩
  mx := fun x hx => h.mx x (e.mem_iff.2 hx)
  mxE := h.mxE.elim fun x hx => ⟨x, e.mem_iff.1 hx.1, hx.2⟩
  fm := e.mem_iff.1 h.fm
  fl := fun x hx => h.fl x (e.mem_iff.2 hx)
  lm := e.mem_iff.1 h.lm
  ll := fun x hx => h.ll x (e.mem_iff.2 hx)
  hist := by
    rw [h.hist]; unfold histOf cntB
    exact List.map_congr_left fun k _ => by rw [e.countP_eq]
theorem AccIs.uniq {bs : List Int} {a b : AC} {p : List IT} (h : AccIs bs a p) (g : AccIs bs b p) (hs : ∀ x ∈ p, ∀ y ∈ p, x.2.2.1 = y.2.2.1 → x = y) : a = b := by
  have e1 : a.1 = b.1 := by rw [h.cnt, g.cnt]
  have e2 : a.2.1 = b.2.1 := by rw [h.sum, g.sum]
  have e3 : a.2.2.1 = b.2.2.1 := by
    obtain ⟨x, hx, ex⟩ := h.mnE; obtain ⟨y, hy, ey⟩ := g.mnE
    have := h.mn y hy; have := g.mn x hx; omega
  have e4 : a.2.2.2.1 = b.2.2.2.1 := by
    obtain ⟨x, hx, ex⟩ := h.mxE; obtain ⟨y, hy, ey⟩ := g.mxE
    have := h.mx y hy; have := g.mx x hx; omega
  have e5 : a.2.2.2.2.1 = b.2.2.2.2.1 := hs _ h.fm _ g.fm (leI_anti (h.fl _ g.fm) (g.fl _ h.fm))
  have e6 : a.2.2.2.2.2.1 = b.2.2.2.2.2.1 := hs _ h.lm _ g.lm (leI_anti (g.ll _ h.lm) (h.ll _ g.lm))
  have e7 : a.2.2.2.2.2.2 = b.2.2.2.2.2.2 := by rw [h.hist, g.hist]
  obtain ⟨a1, a2, a3, a4, a5, a6, a7⟩ := a
  obtain ⟨b1, b2, b3, b4, b5, b6, b7⟩ := b
  simp only at e1 e2 e3 e4 e5 e6 e7
  rw [e1, e2, e3, e4, e5, e6, e7]
theorem cntB_one (bs : List Int) (x : IT) (k : Nat) : cntB bs [x] k = if buck bs x.2.2.2 = k then 1 else 0 := by
  unfold cntB
  by_cases h : buck bs x.2.2.2 = k <;> simp [h]
theorem AccIs.one (bs : List Int) (x : IT) : AccIs bs (oneA x bs) [x] where
  cnt := by simp [oneA]
  sum := by simp [oneA]
  mn := by simp [oneA]
  mnE := ⟨x, by simp, rfl⟩
  mx := by simp [oneA]
  mxE := ⟨x, by simp, rfl⟩
  fm := by simp [oneA]
  fl := by simp [oneA, leI_refl]
  lm := by simp [oneA]
  ll := by simp [oneA, leI_refl]
  hist := by
    show (List.replicate (bs.length + 1) (0 : Int)).set (buck bs x.2.2.2) 1 = _
    apply List.ext_getElem
    · simp [histOf]
    · intro k h1 h2
      simp only [histOf, List.getElem_map, List.getElem_range, List.getElem_set, List.getElem_replicate, cntB_one]
theorem zip_range (f g : Nat → Int) (n : Nat) : List.zipWith (· + ·) ((List.range n).map f) ((List.range n).map g) = (List.range n).map fun k => f k + g k := by
  apply List.ext_getElem
  · simp
  · intro k h1 h2; simp
theorem AccIs.add {bs : List Int} {o a : AC} {p q : List IT} (h : AccIs bs o p) (g : AccIs bs a q) : AccIs bs (addA o a) (p ++ q) := by
  have ho : ¬ o.1 = 0 := by have := h.pos; omega
  have e : addA o a = (o.1 + a.1, o.2.1 + a.2.1, if a.2.2.1 < o.2.2.1 then a.2.2.1 else o.2.2.1, if o.2.2.2.1 < a.2.2.2.1 then a.2.2.2.1 else o.2.2.2.1,
      if ord a.2.2.2.2.1 o.2.2.2.2.1 < 0 then a.2.2.2.2.1 else o.2.2.2.2.1, if 0 ≤ ord a.2.2.2.2.2.1 o.2.2.2.2.2.1 then a.2.2.2.2.2.1 else o.2.2.2.2.2.1,
      List.zipWith (· + ·) o.2.2.2.2.2.2 a.2.2.2.2.2.2) := by simp only [addA, if_neg ho]
  rw [e]
  constructor
  · simp only [h.cnt, g.cnt, List.length_append]; omega
  · simp only [h.sum, g.sum, List.map_append, List.sum_append]
  · intro x hx
    rcases List.mem_append.1 hx with hx | hx
    · have := h.mn x hx; simp only; split <;> omega
    · have := g.mn x hx; simp only; split <;> omega
  · simp only
    split
    · obtain ⟨x, hx, ex⟩ := g.mnE; exact ⟨x, List.mem_append_right _ hx, ex⟩
    · obtain ⟨x, hx, ex⟩ := h.mnE; exact ⟨x, List.mem_append_left _ hx, ex⟩
  · intro x hx
    rcases List.mem_append.1 hx with hx | hx
    · have := h.mx x hx; simp only; split <;> omega
    · have := g.mx x hx; simp only; split <;> omega
  · simp only
    split
    · obtain ⟨x, hx, ex⟩ := g.mxE; exact ⟨x, List.mem_append_right _ hx, ex⟩
    · obtain ⟨x, hx, ex⟩ := h.mxE; exact ⟨x, List.mem_append_left _ hx, ex⟩
  · simp only
    split
    · exact List.mem_append_right _ g.fm
    · exact List.mem_append_left _ h.fm
  · intro x hx
    simp only
    split
    · rename_i c
      have c' := leI_total (ord_lt.1 c)
      rcases List.mem_append.1 hx with hx | hx
      · exact leI_trans c' (h.fl x hx)
      · exact g.fl x hx
    · rename_i c
      have c' : leI o.2.2.2.2.1 a.2.2.2.2.1 := Classical.not_not.1 fun hn => c (ord_lt.2 hn)
      rcases List.mem_append.1 hx with hx | hx
      · exact h.fl x hx
      · exact leI_trans c' (g.fl x hx)
  · simp only
    split
    · exact List.mem_append_right _ g.lm
    · exact List.mem_append_left _ h.lm
  · intro x hx
    simp only
    split
    · rename_i c
      have c' := ord_ge.1 c
      rcases List.mem_append.1 hx with hx | hx
      · exact leI_trans (h.ll x hx) c'
      · exact g.ll x hx
    · rename_i c
      have c' := leI_total fun hn => c (ord_ge.2 hn)
      rcases List.mem_append.1 hx with hx | hx
      · exact h.ll x hx
      · exact leI_trans (g.ll x hx) c'
  · show List.zipWith _ o.2.2.2.2.2.2 a.2.2.2.2.2.2 = _
    rw [h.hist, g.hist]
    unfold histOf
    rw [zip_range]
    exact List.map_congr_left fun k _ => by unfold cntB; rw [List.countP_append]; omega
theorem zipZero (ys : List Int) (n : Nat) (h : ys.length = n) : List.zipWith (· + ·) (List.replicate n (0 : Int)) ys = ys := by
  apply List.ext_getElem
  · simp [h]
  · intro k h1 h2; simp
theorem add_zero {bs : List Int} {a : AC} (h : a.2.2.2.2.2.2.length = bs.length + 1) : addA (zeroA bs) a = a := by
  have z : (zeroA bs).1 = 0 := rfl
  simp only [addA, if_pos z, Int.lt_irrefl, if_false]
  have e1 : ¬ ord a.2.2.2.2.1 a.2.2.2.2.1 < 0 := fun hh => ord_lt.1 hh (leI_refl _)
  have e2 : 0 ≤ ord a.2.2.2.2.2.1 a.2.2.2.2.2.1 := ord_ge.2 (leI_refl _)
  simp only [e1, e2, if_true, if_false, zeroA, Int.zero_add, zipZero _ _ h]

/-! may it be -/
theorem sumZip : ∀ {xs ys : List Int}, xs.length = ys.length → (List.zipWith (· + ·) xs ys).sum = xs.sum + ys.sum
  | [], [], _ => by simp
  | x :: xs, y :: ys, h => by
    have := sumZip (xs := xs) (ys := ys) (by simpa using h)
    simp only [List.zipWith_cons_cons, List.sum_cons, this]; omega
  | [], _ :: _, h => by simp at h
  | _ :: _, [], h => by simp at h
theorem sumRep (n : Nat) : (List.replicate n (0 : Int)).sum = 0 := by
  induction n with
  | zero => rfl
  | succ n ih => rw [List.replicate_succ, List.sum_cons, ih]; rfl
theorem sumSet : ∀ (n k : Nat), k < n → ((List.replicate n (0 : Int)).set k 1).sum = 1
  | 0, _, h => by omega
  | n + 1, 0, _ => by rw [List.replicate_succ, List.set_cons_zero, List.sum_cons, sumRep]; rfl
  | n + 1, k + 1, h => by rw [List.replicate_succ, List.set_cons_succ, List.sum_cons, sumSet n k (by omega)]; rfl
theorem oneA_may {bs : List Int} {x : IT} (hb : boundsMay bs = true) (hx : itemMay x = true) : accMay (oneA x bs) bs = true := by
  have hk := buck_le bs x.2.2.2
  have hv : inV x.2.2.2 = true := by simp only [itemMay, Bool.and_eq_true] at hx; exact hx.2.2.2.2.2
  have hm : histMay (oneA x bs) bs = true := by
    simp only [histMay, oneA, Bool.and_eq_true, List.all_eq_true, decide_eq_true_eq]
    refine ⟨fun y hy => ?_, by simp, decide_eq_true (sumSet _ _ (by omega))⟩
    rcases List.mem_or_eq_of_mem_set hy with hy | rfl
    · have := (List.mem_replicate.1 hy).2; subst this; rfl
    · rfl
  have he : endMay (oneA x bs) x = true := by simp [endMay, oneA, hx]
  have ho : ord x x ≤ 0 := ord_le.2 (leI_refl x)
  simp only [accMay, hb, hm, Bool.true_and, Bool.and_eq_true]
  refine ⟨rfl, ?_⟩
  rw [if_neg (by simp [oneA])]
  simp only [accBody, endsMay, Bool.and_eq_true]
  refine ⟨hv, hv, by simp [oneA], ⟨he, he, by simp [oneA], decide_eq_true ho⟩, by simp [oneA], by simp [oneA]⟩
theorem accMay_iff {a : AC} {bs : List Int} (h0 : 0 < a.1) : accMay a bs = true ↔ boundsMay bs = true ∧ histMay a bs = true ∧ a.1 ≤ 8192 ∧ inV a.2.2.1 = true ∧ inV a.2.2.2.1 = true ∧ a.2.2.1 ≤ a.2.2.2.1 ∧ endMay a a.2.2.2.2.1 = true ∧ endMay a a.2.2.2.2.2.1 = true ∧ a.2.2.2.2.1.1 = a.2.2.2.2.2.1.1 ∧ leI a.2.2.2.2.1 a.2.2.2.2.2.1 ∧ a.1 * a.2.2.1 ≤ a.2.1 ∧ a.2.1 ≤ a.1 * a.2.2.2.1 := by
  have hz : ¬ a.1 = 0 := by omega
  simp only [accMay, if_neg hz, accBody, endsMay, inN, Bool.and_eq_true, decide_eq_true_eq, beq_iff_eq, ord_le]
  constructor
  · rintro ⟨h1, h2, ⟨h3, h4⟩, h5, h6, h7, ⟨h8, h9, h10, h11⟩, h12, h13⟩
    exact ⟨h1, h2, h4, h5, h6, h7, h8, h9, h10, h11, h12, h13⟩
  · rintro ⟨h1, h2, h4, h5, h6, h7, h8, h9, h10, h11, h12, h13⟩
    exact ⟨h1, h2, ⟨by omega, h4⟩, h5, h6, h7, ⟨h8, h9, h10, h11⟩, h12, h13⟩
theorem endMay_mono {a b : AC} {x : IT} (h : endMay a x = true) (h1 : b.2.2.1 ≤ a.2.2.1) (h2 : a.2.2.2.1 ≤ b.2.2.2.1) : endMay b x = true := by
  simp only [endMay, Bool.and_eq_true, decide_eq_true_eq] at h ⊢
  exact ⟨h.1, by omega, by omega⟩
theorem accMay_add {bs : List Int} {o a : AC} (ho : 0 < o.1) (ha : 0 < a.1) (h : accMay o bs = true) (g : accMay a bs = true) (hs : o.2.2.2.2.1.1 = a.2.2.2.2.1.1) (ht : o.1 + a.1 ≤ 8192) : accMay (addA o a) bs = true ∧ (addA o a).2.2.2.2.1.1 = o.2.2.2.2.1.1 := by
  have hz : ¬ o.1 = 0 := by omega
  have ok := okA_add (accMay_okA h).1 (accMay_okA g).1
  have oo := (accMay_okA h).1.1
  have oa := (accMay_okA g).1.1
  obtain ⟨o1, o2, o3, o4, o5, o6, o7, o8, o9, o10, o11, o12⟩ := (accMay_iff ho).1 h
  obtain ⟨a1, a2, a3, a4, a5, a6, a7, a8, a9, a10, a11, a12⟩ := (accMay_iff ha).1 g
  have s1 : o.2.2.2.2.2.2.sum = o.1 := by simp only [histMay, Bool.and_eq_true, decide_eq_true_eq] at o2; exact o2.2.2
  have s2 : a.2.2.2.2.2.2.sum = a.1 := by simp only [histMay, Bool.and_eq_true, decide_eq_true_eq] at a2; exact a2.2.2
  have hm : histMay (addA o a) bs = true := by
    simp only [histMay, Bool.and_eq_true, List.all_eq_true, decide_eq_true_eq, inN]
    refine ⟨fun x hx => ?_, ok.1, ?_⟩
    · have := ok.2.2.2.2 x hx
      have e : (addA o a).1 = o.1 + a.1 := rfl
      rw [e] at this; omega
    · show (List.zipWith _ _ _).sum = o.1 + a.1
      rw [sumZip (by omega), s1, s2]
  have e : addA o a = (o.1 + a.1, o.2.1 + a.2.1, if a.2.2.1 < o.2.2.1 then a.2.2.1 else o.2.2.1, if o.2.2.2.1 < a.2.2.2.1 then a.2.2.2.1 else o.2.2.2.1,
      if ord a.2.2.2.2.1 o.2.2.2.2.1 < 0 then a.2.2.2.2.1 else o.2.2.2.2.1, if 0 ≤ ord a.2.2.2.2.2.1 o.2.2.2.2.2.1 then a.2.2.2.2.2.1 else o.2.2.2.2.2.1,
      List.zipWith (· + ·) o.2.2.2.2.2.2 a.2.2.2.2.2.2) := by simp only [addA, if_neg hz]
  have n1 : (addA o a).2.2.1 ≤ o.2.2.1 := by rw [e]; simp only; split <;> omega
  have n2 : (addA o a).2.2.1 ≤ a.2.2.1 := by rw [e]; simp only; split <;> omega
  have n3 : o.2.2.2.1 ≤ (addA o a).2.2.2.1 := by rw [e]; simp only; split <;> omega
  have n4 : a.2.2.2.1 ≤ (addA o a).2.2.2.1 := by rw [e]; simp only; split <;> omega
  have n5 : inV (addA o a).2.2.1 = true := by rw [e]; simp only; split <;> assumption
  have n6 : inV (addA o a).2.2.2.1 = true := by rw [e]; simp only; split <;> assumption
  have ser : (addA o a).2.2.2.2.1.1 = o.2.2.2.2.1.1 := by rw [e]; simp only; split <;> simp [hs]
  refine ⟨(accMay_iff (by show 0 < o.1 + a.1; omega)).2 ⟨o1, hm, ht, n5, n6, by omega, ?_, ?_, ?_, ?_, ?_, ?_⟩, ser⟩
  · have : (addA o a).2.2.2.2.1 = a.2.2.2.2.1 ∨ (addA o a).2.2.2.2.1 = o.2.2.2.2.1 := by rw [e]; simp only; split <;> simp
    rcases this with h | h <;> rw [h]
    · exact endMay_mono a7 n2 n4
    · exact endMay_mono o7 n1 n3
  · have : (addA o a).2.2.2.2.2.1 = a.2.2.2.2.2.1 ∨ (addA o a).2.2.2.2.2.1 = o.2.2.2.2.2.1 := by rw [e]; simp only; split <;> simp
    rcases this with h | h <;> rw [h]
    · exact endMay_mono a8 n2 n4
    · exact endMay_mono o8 n1 n3
  · rw [ser, e]; simp only; split
    · omega
    · exact o9
  · rw [e]; simp only
    split
    · rename_i c
      have c' := leI_total (ord_lt.1 c)
      split
      · exact a10
      · exact leI_trans c' o10
    · rename_i c
      have c' : leI o.2.2.2.2.1 a.2.2.2.2.1 := Classical.not_not.1 fun hn => c (ord_lt.2 hn)
      split
      · exact leI_trans c' a10
      · exact o10
  · show (o.1 + a.1) * (addA o a).2.2.1 ≤ o.2.1 + a.2.1
    have := Int.mul_le_mul_of_nonneg_left n1 (Int.le_of_lt ho)
    have := Int.mul_le_mul_of_nonneg_left n2 (Int.le_of_lt ha)
    rw [Int.add_mul]; omega
  · show o.2.1 + a.2.1 ≤ (o.1 + a.1) * (addA o a).2.2.2.1
    have := Int.mul_le_mul_of_nonneg_left n3 (Int.le_of_lt ho)
    have := Int.mul_le_mul_of_nonneg_left n4 (Int.le_of_lt ha)
    rw [Int.add_mul]; omega

/-! all together -/
theorem allFrom_true {bs : List Int} {σ : Int} (hb : boundsMay bs = true) : ∀ {cs : List AC} {f : Int}, (f = -1 ∨ f = σ) → (∀ a ∈ cs, accMay a bs = true ∧ a.2.2.2.2.1.1 = σ) → allFrom bs f cs = true
  | [], f, _, _ => hb
  | a :: cs, f, hf, h => by
    have ⟨h1, h2⟩ := h a List.mem_cons_self
    simp only [allFrom, h1, Bool.true_and, Bool.and_eq_true]
    refine ⟨?_, allFrom_true hb ?_ fun b hb => h b (List.mem_cons_of_mem _ hb)⟩
    · rcases hf with rfl | rfl
      · simp
      · simp [h2]
    · split
      · exact Or.inr h2
      · exact hf
structure Piece (bs : List Int) (σ : Int) (a : AC) (p : List IT) : Prop where
  is : AccIs bs a p
  may : accMay a bs = true
  ser : a.2.2.2.2.1.1 = σ
theorem fold_piece {bs : List Int} {σ : Int} : ∀ (zs : List (AC × List IT)) (o : AC) (p : List IT), Piece bs σ o p → (∀ z ∈ zs, Piece bs σ z.1 z.2) → p.length + (zs.map (·.2)).flatten.length ≤ 8192 → Piece bs σ ((zs.map (·.1)).foldl addIf o) (p ++ (zs.map (·.2)).flatten)
  | [], o, p, h, _, _ => by simpa using h
  | z :: zs, o, p, h, g, hl => by
    have gz := g z List.mem_cons_self
    have e : addIf o z.1 = addA o z.1 := if_pos gz.is.pos
    simp only [List.map_cons, List.flatten_cons, List.length_append] at hl
    have m := accMay_add h.is.pos gz.is.pos h.may gz.may (by rw [h.ser, gz.ser]) (by rw [h.is.cnt, gz.is.cnt]; omega)
    have r := fold_piece zs (addA o z.1) (p ++ z.2) ⟨h.is.add gz.is, m.1, by rw [m.2, h.ser]⟩ (fun y hy => g y (List.mem_cons_of_mem _ hy)) (by rw [List.length_append]; omega)
    simp only [List.map_cons, List.foldl_cons, e, List.flatten_cons]
    rw [List.append_assoc] at r
    exact r
theorem join_piece {bs : List Int} {σ : Int} (hb : boundsMay bs = true) (zs : List (AC × List IT)) (h0 : zs ≠ []) (g : ∀ z ∈ zs, Piece bs σ z.1 z.2) (hl : (zs.map (·.2)).flatten.length ≤ 8192) : (joinA bs (zs.map (·.1))).2 = 0 ∧ Piece bs σ (joinA bs (zs.map (·.1))).1 (zs.map (·.2)).flatten := by
  have ha : allFrom bs (-1) (zs.map (·.1)) = true := allFrom_true hb (Or.inl rfl) fun a ha => by
    obtain ⟨z, hz, rfl⟩ := List.mem_map.1 ha
    exact ⟨(g z hz).may, (g z hz).ser⟩
  have ht : ∀ (zs : List (AC × List IT)), (∀ z ∈ zs, Piece bs σ z.1 z.2) → tot (zs.map (·.1)) = ((zs.map (·.2)).flatten.length : Nat) := by
    intro zs
    induction zs with
    | nil => intro _; rfl
    | cons z zs ih =>
      intro g
      rw [List.map_cons, tot_cons, ih fun y hy => g y (List.mem_cons_of_mem _ hy), (g z List.mem_cons_self).is.cnt]
      simp only [List.map_cons, List.flatten_cons, List.length_append]; omega
  have hn : ¬ 8192 < tot (zs.map (·.1)) := by rw [ht zs g]; omega
  cases zs with
  | nil => exact absurd rfl h0
  | cons z zs =>
    have gz := g z List.mem_cons_self
    have e : addIf (zeroA bs) z.1 = z.1 := (if_pos gz.is.pos).trans (add_zero (accMay_okA gz.may).1.1)
    simp only [joinA, ha, if_true, if_neg hn]
    refine ⟨trivial, ?_⟩
    simp only [List.map_cons, List.foldl_cons, e, List.flatten_cons]
    exact fold_piece zs z.1 z.2 gz (fun y hy => g y (List.mem_cons_of_mem _ hy)) (by simpa using hl)
end Go.Proofs.Ytoffmcfaeolcjaa
