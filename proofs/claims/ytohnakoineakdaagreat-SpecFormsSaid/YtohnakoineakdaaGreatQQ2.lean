/- The plain law of acc: One, Join. -/
import Derived.Test.YtohnakoineakdaaGreatQQ1
namespace Go.Proofs.YtohnakoineakdaaGreat
open Go Go.Ev
set_option linter.unusedVariables false
set_option linter.unusedSimpArgs false

/-! One -/
def buck (bs : List Int) (v : Int) : Nat := bs.findIdx fun b => decide (v ≤ b)
theorem bucket_l0 (n : Nat) (bs : List Int) (v : Int) (hb : bs.length ≤ 8) : ∀ (k m i : Nat), i + k = bs.length → k < m → acc_bucket_l0 n bs v m (i : Int) = some ((i + buck (bs.drop i) v : Nat) : Int) := by
  intro k
  induction k with
  | zero =>
    intro m i hi hm
    obtain ⟨m, rfl, hm⟩ := sucM hm
    have : bs.drop i = [] := List.drop_eq_nil_of_le (by omega)
    have h1 : ¬ ((i : Int) < (bs.length : Int)) := by omega
    have h2 : i = bs.length := by omega
    rw [acc_bucket_l0_S]
    simp [this, h1, buck, h2]
  | succ k ih =>
    intro m i hi hm
    obtain ⟨m, rfl, hm⟩ := sucM hm
    have hlt : i < bs.length := by omega
    have h1 : ((i : Int) < (bs.length : Int)) := by omega
    have h2 : (0 : Int) ≤ (i : Int) := by omega
    rw [acc_bucket_l0_S, dropLt hlt]
    have ih' := ih m (i + 1) (by omega) (by omega)
    simp only [h1, h2, and_self, if_true, decide_true, cond_true, Int.toNat_natCast, getLt hlt, wrapS (i := i) (by omega), ih', buck, List.findIdx_cons]
    by_cases h : v ≤ bs[i]
    · simp [h]
    · simp [h]; omega
theorem buck_le (bs : List Int) (v : Int) : buck bs v ≤ bs.length := List.findIdx_le_length
theorem bucket_eq (n : Nat) (hn : 20 ≤ n) (bs : List Int) (hb : bs.length ≤ 8) (v : Int) : acc_bucket n bs v = some (buck bs v : Int) := by
  have := bucket_l0 n bs v hb bs.length n 0 (by omega) (by omega)
  rw [acc_bucket_S]
  simpa using this
def oneA (x : IT) (bs : List Int) : AC := (1, x.2.2.2, x.2.2.2, x.2.2.2, x, x, (List.replicate (bs.length + 1) (0 : Int)).set (buck bs x.2.2.2) 1)
theorem bnd8 {bs : List Int} (h : boundsMay bs = true) : bs.length ≤ 8 := by simp [boundsMay] at h; exact h.1
theorem One_eq (n : Nat) (hn : 20 ≤ n) (x : IT) (bs : List Int) : acc_One n x bs = some (if itemMay x = true ∧ boundsMay bs = true then (oneA x bs, 0) else (AC0, 100)) := by
  simp only [acc_One_S, ItemMay_eq, BoundsMay_eq n (by omega), Option.bind_some]
  cases hx : itemMay x with
  | false => simp [AC0, nl]
  | true =>
    cases hb : boundsMay bs with
    | false => simp [AC0, nl]
    | true =>
      have h8 := bnd8 hb
      have hk := buck_le bs x.2.2.2
      simp only [Bool.not_true, cond_false, wrapS (i := bs.length) (by omega), bucket_eq n hn bs h8, Option.bind_some, Int.toNat_natCast, List.length_replicate, if_true, and_self]
      rw [if_pos (by omega), if_pos (by omega)]
      rfl

/-! allMay -/
def allFrom (bs : List Int) : Int → List AC → Bool
  | _, [] => boundsMay bs
  | f, a :: cs => accMay a bs && (!(decide (0 < a.1) && (decide (0 ≤ f) && a.2.2.2.2.1.1 != f)) && allFrom bs (if 0 < a.1 then a.2.2.2.2.1.1 else f) cs)
theorem allMay_l0 (n : Nat) (hn : 20 ≤ n) (bs : List Int) (cs : List AC) (ha : cs.length ≤ 1073741824) : ∀ (k m i : Nat) (f : Int), i + k = cs.length → k < m → acc_allMay_l0 n c97.F c92.F bs cs m f (i : Int) = some (allFrom bs f (cs.drop i)) := by
  intro k
  induction k with
  | zero =>
    intro m i f hi hm
    obtain ⟨m, rfl, hm⟩ := sucM hm
    have : cs.drop i = [] := List.drop_eq_nil_of_le (by omega)
    have h1 : ¬ ((i : Int) < (cs.length : Int)) := by omega
    rw [acc_allMay_l0_S]
    simp [this, h1, allFrom, BoundsMay_eq n (by omega)]
  | succ k ih =>
    intro m i f hi hm
    obtain ⟨m, rfl, hm⟩ := sucM hm
    have hlt : i < cs.length := by omega
    have h1 : ((i : Int) < (cs.length : Int)) := by omega
    have h2 : (0 : Int) ≤ (i : Int) := by omega
    rw [acc_allMay_l0_S, dropLt hlt]
    simp only [h1, h2, and_self, if_true, decide_true, cond_true, Int.toNat_natCast, getLt hlt, acc_allMay_j1_S, wrapS (i := i) (by omega), ih m (i + 1) _ (by omega) (by omega), May_eq n hn, Option.bind_some, allFrom, GT.gt, GE.ge]
    cases accMay cs[i] bs with
    | false => rfl
    | true =>
      by_cases h0 : 0 < cs[i].1
      · by_cases hf : 0 ≤ f
        · cases hs : cs[i].2.2.2.2.1.1 != f <;> simp [h0, hf, hs]
        · simp [h0, hf]
      · simp [h0]
theorem allMay_eq (n : Nat) (hn : 20 ≤ n) (bs : List Int) (cs : List AC) (ha : cs.length ≤ 1073741824) (hm : cs.length < n) : acc_allMay n bs cs = some (allFrom bs (-1) cs) := by
  have := allMay_l0 n hn bs cs ha cs.length n 0 (-1) (by omega) hm
  rw [acc_allMay_S]
  simpa using this
theorem allFrom_mem {bs : List Int} : ∀ {cs : List AC} {f : Int}, allFrom bs f cs = true → ∀ a ∈ cs, accMay a bs = true
  | [], _, _, _, h => by simp at h
  | a :: cs, f, h, b, hb => by
    simp only [allFrom, Bool.and_eq_true] at h
    rcases List.mem_cons.1 hb with rfl | hb
    · exact h.1
    · exact allFrom_mem h.2.2 b hb
theorem allFrom_bnd {bs : List Int} : ∀ {cs : List AC} {f : Int}, allFrom bs f cs = true → boundsMay bs = true
  | [], _, h => h
  | a :: cs, f, h => by simp only [allFrom, Bool.and_eq_true] at h; exact allFrom_bnd h.2.2

/-! add -/
def addA (o a : AC) : AC :=
  let p : AC := if o.1 = 0 then (0, 0, a.2.2.1, a.2.2.2.1, a.2.2.2.2.1, a.2.2.2.2.2.1, []) else o
  (o.1 + a.1, o.2.1 + a.2.1, if a.2.2.1 < p.2.2.1 then a.2.2.1 else p.2.2.1, if p.2.2.2.1 < a.2.2.2.1 then a.2.2.2.1 else p.2.2.2.1,
    if ord a.2.2.2.2.1 p.2.2.2.2.1 < 0 then a.2.2.2.2.1 else p.2.2.2.2.1, if 0 ≤ ord a.2.2.2.2.2.1 p.2.2.2.2.2.1 then a.2.2.2.2.2.1 else p.2.2.2.2.2.1,
    List.zipWith (· + ·) o.2.2.2.2.2.2 a.2.2.2.2.2.2)
theorem setTake {xs ys : List Int} {i : Nat} (h : i < xs.length) (g : i < ys.length) (v : Int) (hv : v = xs[i] + ys[i]) : (xs.set i v).take (i + 1) ++ List.zipWith (· + ·) ((xs.set i v).drop (i + 1)) (ys.drop (i + 1)) = xs.take i ++ List.zipWith (· + ·) (xs.drop i) (ys.drop i) := by
  subst hv
  rw [dropLt h, dropLt g]
  simp only [List.zipWith_cons_cons]
  rw [List.drop_set_of_lt (by omega)]
  have : (xs.set i (xs[i] + ys[i])).take (i + 1) = xs.take i ++ [xs[i] + ys[i]] := by
    rw [List.take_succ_eq_append_getElem (by simpa using h)]
    simp [List.take_set_of_le]
  rw [this]; simp
theorem add_l3 (n : Nat) (o a : AC) (h1 h2 h3 h4 h5 h6 h7 h8 h9 h10 : Int) (hs : a.2.2.2.2.2.2.length ≤ 1073741824) (ha : ∀ x ∈ a.2.2.2.2.2.2, 0 ≤ x ∧ x ≤ 8192) :
    ∀ (k m i : Nat) (xs : List Int), i + k = a.2.2.2.2.2.2.length → k < m → xs.length = a.2.2.2.2.2.2.length → (∀ j, i ≤ j → ∀ (h : j < xs.length), 0 ≤ xs[j] ∧ xs[j] ≤ 8192) →
    acc_add_l3 n c49.F o a h1 h2 h3 h4 h5 h6 h7 h8 h9 h10 m (i : Int) xs = some (Go.IntKind.i64.wrap (o.1 + a.1), Go.IntKind.i64.wrap (o.2.1 + a.2.1), (if a.2.2.1 < h1 then a.2.2.1 else h1), (if h2 < a.2.2.2.1 then a.2.2.2.1 else h2), (h3, h4, h5, h6), (h7, h8, h9, h10), xs.take i ++ List.zipWith (· + ·) (xs.drop i) (a.2.2.2.2.2.2.drop i)) := by
  intro k
  induction k with
  | zero =>
    intro m i xs hi hm hl hx
    obtain ⟨m, rfl, hm⟩ := sucM hm
    have e1 : a.2.2.2.2.2.2.drop i = [] := List.drop_eq_nil_of_le (by omega)
    have e2 : xs.take i = xs := List.take_of_length_le (by omega)
    have hlt : ¬ ((i : Int) < (a.2.2.2.2.2.2.length : Int)) := by omega
    rw [acc_add_l3_S]
    simp [e1, e2, hlt]
  | succ k ih =>
    intro m i xs hi hm hl hx
    obtain ⟨m, rfl, hm⟩ := sucM hm
    have hlt : i < a.2.2.2.2.2.2.length := by omega
    have hlx : i < xs.length := by omega
    have g1 : ((i : Int) < (a.2.2.2.2.2.2.length : Int)) := by omega
    have g2 : (0 : Int) ≤ (i : Int) := by omega
    have g3 : ((i : Int) < (xs.length : Int)) := by omega
    have b1 := ha _ (List.getElem_mem hlt)
    have b2 := hx i (Nat.le_refl i) hlx
    rw [acc_add_l3_S]
    simp only [g1, g2, g3, and_self, if_true, decide_true, cond_true, Int.toNat_natCast, getLt hlt, getLt hlx, wrapS (i := i) (by omega)]
    rw [wrapOK (x := xs[i] + _) (by omega) (by omega)]
    rw [ih m (i + 1) _ (by omega) (by omega) (by simpa using hl) (fun j hj h => by
      have hj' : j < xs.length := by simpa using h
      rw [List.getElem_set_ne (by omega)]
      exact hx j (by omega) hj'), setTake hlx hlt _ rfl]
def smA (a : AC) : Prop := 0 ≤ a.1 ∧ a.1 ≤ 8192 ∧ -9007199254740992 ≤ a.2.1 ∧ a.2.1 ≤ 9007199254740992 ∧ ∀ x ∈ a.2.2.2.2.2.2, 0 ≤ x ∧ x ≤ 8192
theorem add_eq (n : Nat) (hn : 20 ≤ n) (o a : AC) (hl : o.2.2.2.2.2.2.length = a.2.2.2.2.2.2.length) (h9 : a.2.2.2.2.2.2.length ≤ 9) (ho : smA o) (ha : smA a) : acc_add n o a = some (addA o a) := by
  have L := fun p1 p2 p3 p4 p5 p6 p7 p8 p9 p10 => add_l3 n o a p1 p2 p3 p4 p5 p6 p7 p8 p9 p10 (by omega) ha.2.2.2.2 a.2.2.2.2.2.2.length n 0 o.2.2.2.2.2.2 (by omega) (by omega) hl (fun j _ h => ho.2.2.2.2 _ (List.getElem_mem h))
  obtain ⟨o1, o2, o3, o4, -⟩ := ho
  obtain ⟨a1, a2, a3, a4, -⟩ := ha
  have w1 : Go.IntKind.i64.wrap (o.1 + a.1) = o.1 + a.1 := wrapOK (by omega) (by omega)
  have w2 : Go.IntKind.i64.wrap (o.2.1 + a.2.1) = o.2.1 + a.2.1 := wrapOK (by omega) (by omega)
  simp only [w1, w2, List.take_zero, List.drop_zero, List.nil_append, Int.cast_ofNat_Int] at L
  simp only [acc_add_S, acc_add_j0_S, acc_add_j1_S, acc_add_j2_S, Order_eq n (by omega), Option.bind_some]
  simp only [L, addA]
  by_cases h0 : o.1 = 0
  · have e0 : (o.1 == 0) = true := by simp [h0]
    rw [e0]
    simp only [cond_true, if_pos h0]
    by_cases c1 : ord a.2.2.2.2.1 (a.2.2.2.2.1.1, a.2.2.2.2.1.2.1, a.2.2.2.2.1.2.2.1, a.2.2.2.2.1.2.2.2) < 0 <;>
    by_cases c2 : ord a.2.2.2.2.2.1 (a.2.2.2.2.2.1.1, a.2.2.2.2.2.1.2.1, a.2.2.2.2.2.1.2.2.1, a.2.2.2.2.2.1.2.2.2) ≥ 0 <;>
    simp [c1, c2, h0]
  · have e0 : (o.1 == 0) = false := by simp [h0]
    rw [e0]
    simp only [cond_false, if_neg h0]
    by_cases c1 : ord a.2.2.2.2.1 (o.2.2.2.2.1.1, o.2.2.2.2.1.2.1, o.2.2.2.2.1.2.2.1, o.2.2.2.2.1.2.2.2) < 0 <;>
    by_cases c2 : ord a.2.2.2.2.2.1 (o.2.2.2.2.2.1.1, o.2.2.2.2.2.1.2.1, o.2.2.2.2.2.1.2.2.1, o.2.2.2.2.2.1.2.2.2) ≥ 0 <;>
    simp [c1, c2]
end Go.Proofs.YtohnakoineakdaaGreat
