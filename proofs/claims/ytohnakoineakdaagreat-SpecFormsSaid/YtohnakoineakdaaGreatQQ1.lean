/- The plain law of acc and session: what the program's functions come to. -/
import Derived.Test.YtohnakoineakdaaGreatQSpecAp
namespace Go.Proofs.YtohnakoineakdaaGreat
open Go Go.Ev
set_option linter.unusedVariables false
set_option linter.unusedSimpArgs false

abbrev IT := Int × Int × Int × Int
abbrev AC := Int × Int × Int × Int × IT × IT × List Int
abbrev SE := Int × Int × AC
def IT0 : IT := (0, 0, 0, 0)
def AC0 : AC := (0, 0, 0, 0, (0, 0, 0, 0), (0, 0, 0, 0), [])
def SE0 : SE := (0, 0, 0, 0, 0, 0, (0, 0, 0, 0), (0, 0, 0, 0), [])

theorem wrapOK {x : Int} (h0 : -9223372036854775808 ≤ x) (h1 : x ≤ 9223372036854775807) : Go.IntKind.i64.wrap x = x := by
  rw [IntKind.wrap_i64]; omega
theorem wrapS {i : Nat} (h : i < 4611686018427387904) : Go.IntKind.i64.wrap ((i : Int) + 1) = ((i + 1 : Nat) : Int) := by
  rw [wrapOK] <;> omega
theorem wrapP {i : Nat} (h0 : 0 < i) (h : i < 4611686018427387904) : Go.IntKind.i64.wrap ((i : Int) - 1) = ((i - 1 : Nat) : Int) := by
  rw [wrapOK] <;> omega
theorem getLt {α : Type} {xs : List α} {i : Nat} (h : i < xs.length) (d : α) : xs.getD i d = xs[i] := by
  simp [List.getD, h]
theorem dropLt {α : Type} {xs : List α} {i : Nat} (h : i < xs.length) : xs.drop i = xs[i] :: xs.drop (i + 1) := List.drop_eq_getElem_cons h
theorem sucM {k m : Nat} (h : k < m) : ∃ m', m = m' + 1 ∧ k ≤ m' := ⟨m - 1, by omega, by omega⟩

theorem decLe (x y : Int) : decide (x ≤ y) = !decide (y < x) := by by_cases h : x ≤ y <;> simp [h] <;> omega
theorem decLt (x y : Int) : decide (x < y) = !decide (y ≤ x) := by by_cases h : x < y <;> simp [h] <;> omega

/-! items -/
def inV (x : Int) : Bool := decide (-1099511627776 ≤ x ∧ x ≤ 1099511627776)
theorem within_eq (n : Nat) (x : Int) : acc_within n x 1099511627776 = some (inV x) := by
  have w : Go.IntKind.i64.wrap (0 - 1099511627776) = -1099511627776 := by rw [wrapOK] <;> omega
  unfold acc_within inV
  rw [w]
  by_cases h : -1099511627776 ≤ x <;> simp [h, GE.ge]

def itemMay (x : IT) : Bool := decide (0 ≤ x.1) && (decide (x.1 ≤ 1048575) && (inV x.2.1 && (decide (1 ≤ x.2.2.1) && (decide (x.2.2.1 ≤ 1073741823) && inV x.2.2.2))))
theorem ItemMay_eq (n : Nat) (x : IT) : acc_ItemMay n x = some (itemMay x) := by
  unfold itemMay
  simp only [acc_ItemMay_S, within_eq, Option.bind_some, GE.ge]
  cases decide (0 ≤ x.1) <;> cases decide (x.1 ≤ 1048575) <;> cases inV x.2.1 <;> cases decide (1 ≤ x.2.2.1) <;> cases decide (x.2.2.1 ≤ 1073741823) <;> rfl

def cmpA (a b : Int) : Int := if a < b then -1 else if b < a then 1 else 0
theorem Compare_eq (n : Nat) (a b : Int) : cmp_Compare_int n a b = some (cmpA a b) := by
  unfold cmpA
  simp only [cmp_Compare_int_S, cmp_isNaN_int, bne_self_eq_false, Option.bind_some, cond_false, GT.gt]
  by_cases h : a < b
  · simp [h]
  · by_cases g : b < a <;> simp [h, g]
theorem Or_eq (n : Nat) (hn : 3 ≤ n) (a b : Int) : cmp_Or_int n [a, b] = some (if a = 0 then b else a) := by
  obtain ⟨n, rfl⟩ : ∃ k, n = k + 3 := ⟨n - 3, by omega⟩
  have w1 : Go.IntKind.i64.wrap (0 + 1) = 1 := by rw [wrapOK] <;> omega
  have w2 : Go.IntKind.i64.wrap (1 + 1) = 2 := by rw [wrapOK] <;> omega
  simp only [cmp_Or_int_S, cmp_Or_int_l0_S, w1, w2]
  by_cases h : a = 0
  · by_cases g : b = 0
    · simp [h, g]
    · have gb : (b != 0) = true := by simp [g]
      simp [h, gb]
  · have gb : (a != 0) = true := by simp [h]
    simp [h, gb]
def ord (a b : IT) : Int := if cmpA a.2.1 b.2.1 = 0 then cmpA a.2.2.1 b.2.2.1 else cmpA a.2.1 b.2.1
theorem Order_eq (n : Nat) (hn : 3 ≤ n) (a b : IT) : acc_Order n a b = some (ord a b) := by
  have e (x y : Int) : ((List.replicate 2 (0 : Int)).set 0 x).set 1 y = [x, y] := rfl
  simp only [acc_Order_S, ord, Compare_eq, e, Or_eq n hn, Option.bind_some]

/-! bounds -/
def bndFrom (p : Option Int) : List Int → Bool
  | [] => true
  | b :: bs => inV b && ((match p with | none => true | some q => decide (q < b)) && bndFrom (some b) bs)
def boundsMay (bs : List Int) : Bool := decide (bs.length ≤ 8) && bndFrom none bs
theorem bnd_l0 (n : Nat) (bs : List Int) (hb : bs.length ≤ 8) : ∀ (k m i : Nat), i + k = bs.length → k < m → acc_BoundsMay_l0 n c82.F bs m (i : Int) = some (bndFrom (if i = 0 then none else some (bs.getD (i - 1) 0)) (bs.drop i)) := by
  intro k
  induction k with
  | zero =>
    intro m i hi hm
    obtain ⟨m, rfl, hm⟩ := sucM hm
    rw [acc_BoundsMay_l0_S]
    have : bs.drop i = [] := List.drop_eq_nil_of_le (by omega)
    have h1 : ¬ ((i : Int) < (bs.length : Int)) := by omega
    simp [this, h1, bndFrom]
  | succ k ih =>
    intro m i hi hm
    obtain ⟨m, rfl, hm⟩ := sucM hm
    have hlt : i < bs.length := by omega
    rw [acc_BoundsMay_l0_S, dropLt hlt]
    have h1 : ((i : Int) < (bs.length : Int)) := by omega
    have h2 : (0 : Int) ≤ (i : Int) := by omega
    have ih' := ih m (i + 1) (by omega) (by omega)
    simp only [within_eq, Option.bind_some, h1, h2, and_self, if_true, decide_true, cond_true, Int.toNat_natCast, getLt hlt, wrapS (i := i) (by omega), ih', bndFrom]
    rw [if_neg (by omega : ¬ i + 1 = 0)]
    have e1 : bs.getD (i + 1 - 1) 0 = bs[i] := by simp [List.getD, hlt]
    rw [e1]
    by_cases h0 : i = 0
    · subst h0
      cases inV bs[0] <;> simp
    · have hp : (0 : Int) < (i : Int) := by omega
      have hq : (0 : Int) ≤ ((i - 1 : Nat) : Int) ∧ ((i - 1 : Nat) : Int) < (bs.length : Int) := by omega
      simp only [GT.gt, hp, decide_true, cond_true, wrapP (i := i) (by omega) (by omega), hq, and_self, if_true, Int.toNat_natCast, if_neg h0]
      have : decide (bs.getD (i - 1) 0 ≥ bs[i]) = ! decide (bs.getD (i - 1) 0 < bs[i]) := decLe _ _
      rw [this]
      cases inV bs[i] <;> cases decide (bs.getD (i - 1) 0 < bs[i]) <;> simp
theorem BoundsMay_eq (n : Nat) (hn : 10 ≤ n) (bs : List Int) : acc_BoundsMay n bs = some (boundsMay bs) := by
  rw [acc_BoundsMay_S]; unfold boundsMay
  by_cases h : bs.length ≤ 8
  · have h1 : ¬ ((8 : Int) < (bs.length : Int)) := by omega
    have := bnd_l0 n bs h bs.length n 0 (by omega) (by omega)
    simp [GT.gt, h1, h] at this ⊢
    exact this
  · have h1 : ((8 : Int) < (bs.length : Int)) := by omega
    simp [GT.gt, h1, h]

/-! buckets -/
def inN (x : Int) : Bool := decide (0 ≤ x) && decide (x ≤ 8192)
def histMay (a : AC) (bs : List Int) : Bool := a.2.2.2.2.2.2.all inN && (decide (a.2.2.2.2.2.2.length = bs.length + 1) && decide (a.2.2.2.2.2.2.sum = a.1))
theorem hist_l0 (n : Nat) (a : AC) (bs : List Int) (ha : a.2.2.2.2.2.2.length ≤ 9) (hb : bs.length ≤ 8) : ∀ (k m i : Nat) (s : Int), i + k = a.2.2.2.2.2.2.length → k < m → 0 ≤ s → s ≤ 8192 * i → acc_hist_l0 n a bs m s (i : Int) = some ((a.2.2.2.2.2.2.drop i).all inN && (decide (a.2.2.2.2.2.2.length = bs.length + 1) && decide (s + (a.2.2.2.2.2.2.drop i).sum = a.1))) := by
  intro k
  induction k with
  | zero =>
    intro m i s hi hm h0 hs
    obtain ⟨m, rfl, hm⟩ := sucM hm
    rw [acc_hist_l0_S]
    have : a.2.2.2.2.2.2.drop i = [] := List.drop_eq_nil_of_le (by omega)
    have h1 : ¬ ((i : Int) < (a.2.2.2.2.2.2.length : Int)) := by omega
    rw [wrapS (i := bs.length) (by omega)]
    simp only [this, h1, decide_false, cond_false, List.all_nil, Bool.true_and, List.sum_nil, Int.add_zero]
    by_cases h : a.2.2.2.2.2.2.length = bs.length + 1
    · have e : ((a.2.2.2.2.2.2.length : Int) == ((bs.length + 1 : Nat) : Int)) = true := by simp; omega
      rw [e]
      simp only [cond_true, h, decide_true, Bool.true_and]
      congr 1
    · have e : ((a.2.2.2.2.2.2.length : Int) == ((bs.length + 1 : Nat) : Int)) = false := by simp; omega
      rw [e]
      simp [h]
  | succ k ih =>
    intro m i s hi hm h0 hs
    obtain ⟨m, rfl, hm⟩ := sucM hm
    have hlt : i < a.2.2.2.2.2.2.length := by omega
    rw [acc_hist_l0_S, dropLt hlt]
    have h1 : ((i : Int) < (a.2.2.2.2.2.2.length : Int)) := by omega
    have h2 : (0 : Int) ≤ (i : Int) := by omega
    simp only [h1, h2, and_self, if_true, decide_true, cond_true, Int.toNat_natCast, getLt hlt, wrapS (i := i) (by omega), List.all_cons, List.sum_cons]
    by_cases g0 : a.2.2.2.2.2.2[i] < 0
    · simp [inN, g0, Int.not_le.2 g0]
    by_cases g1 : a.2.2.2.2.2.2[i] > 8192
    case pos =>
      have : ¬ a.2.2.2.2.2.2[i] ≤ 8192 := by omega
      simp [inN, g0, g1, this]
    · have e : inN a.2.2.2.2.2.2[i] = true := by simp [inN]; omega
      simp only [g0, g1, decide_false, cond_false, e, Bool.true_and]
      rw [wrapOK (by omega) (by omega), ih m (i + 1) _ (by omega) (by omega) (by omega) (by omega)]; simp only [Int.add_assoc]; rfl
theorem hist_eq (n : Nat) (hn : 20 ≤ n) (a : AC) (bs : List Int) (ha : a.2.2.2.2.2.2.length ≤ 9) (hb : bs.length ≤ 8) : acc_hist n a bs = some (histMay a bs) := by
  rw [acc_hist_S]; unfold histMay
  have := hist_l0 n a bs ha hb a.2.2.2.2.2.2.length n 0 0 (by omega) (by omega) (by omega) (by omega)
  simp only [List.drop_zero, Int.zero_add] at this
  exact this

/-! ends -/
def isI0 (x : IT) : Bool := x.1 == 0 && (x.2.1 == 0 && (x.2.2.1 == 0 && (x.2.2.2 == 0 && true)))
def bareA (a : AC) : Bool := a.2.1 == 0 && (a.2.2.1 == 0 && (a.2.2.2.1 == 0 && (isI0 a.2.2.2.2.1 && isI0 a.2.2.2.2.2.1)))
theorem bare_eq (n : Nat) (a : AC) : acc_bare n a = some (bareA a) := by
  unfold acc_bare bareA isI0
  cases a.2.1 == 0 <;> cases a.2.2.1 == 0 <;> cases a.2.2.2.1 == 0 <;> try rfl
  cases (a.2.2.2.2.1.1 == 0 && (a.2.2.2.2.1.2.1 == 0 && (a.2.2.2.2.1.2.2.1 == 0 && (a.2.2.2.2.1.2.2.2 == 0 && true)))) <;> rfl
def endMay (a : AC) (x : IT) : Bool := itemMay x && (decide (a.2.2.1 ≤ x.2.2.2) && decide (x.2.2.2 ≤ a.2.2.2.1))
def endsMay (a : AC) : Bool := endMay a a.2.2.2.2.1 && (endMay a a.2.2.2.2.2.1 && (a.2.2.2.2.1.1 == a.2.2.2.2.2.1.1 && decide (ord a.2.2.2.2.1 a.2.2.2.2.2.1 ≤ 0)))
theorem ends_l0 (n : Nat) (hn : 3 ≤ n) (a : AC) : ∀ m, 3 ≤ m → acc_ends_l0 n c53.F c49.F a m 0 = some (endsMay a) := by
  intro m hm
  obtain ⟨m, rfl⟩ : ∃ k, m = k + 3 := ⟨m - 3, by omega⟩
  have w1 : Go.IntKind.i64.wrap (0 + 1) = 1 := by rw [wrapOK] <;> omega
  have w2 : Go.IntKind.i64.wrap (1 + 1) = 2 := by rw [wrapOK] <;> omega
  have e0 : ((List.replicate 2 ((0 : Int), (0 : Int), (0 : Int), (0 : Int))).set 0 a.2.2.2.2.1).set 1 a.2.2.2.2.2.1 = [a.2.2.2.2.1, a.2.2.2.2.2.1] := rfl
  simp only [acc_ends_l0_S, e0, w1, w2, ItemMay_eq, Order_eq n hn, Option.bind_some]
  have t1 : Int.toNat 1 = 1 := rfl
  simp only [List.length_cons, List.length_nil, Int.toNat_zero, t1, List.getD_cons_zero, List.getD_cons_succ]
  simp only [GT.gt, decLt, endsMay, endMay]
  cases itemMay a.2.2.2.2.1 <;> cases decide (a.2.2.1 ≤ a.2.2.2.2.1.2.2.2) <;> cases decide (a.2.2.2.2.1.2.2.2 ≤ a.2.2.2.1) <;> cases itemMay a.2.2.2.2.2.1 <;> cases decide (a.2.2.1 ≤ a.2.2.2.2.2.1.2.2.2) <;> cases decide (a.2.2.2.2.2.1.2.2.2 ≤ a.2.2.2.1) <;> cases (a.2.2.2.2.1.1 == a.2.2.2.2.2.1.1) <;> simp
theorem ends_eq (n : Nat) (hn : 3 ≤ n) (a : AC) : acc_ends n a = some (endsMay a) := by
  rw [acc_ends_S]
  exact ends_l0 n hn a n hn

/-! what is known -/
def accBody (a : AC) : Bool := inV a.2.2.1 && (inV a.2.2.2.1 && (decide (a.2.2.1 ≤ a.2.2.2.1) && (endsMay a && (decide (a.1 * a.2.2.1 ≤ a.2.1) && decide (a.2.1 ≤ a.1 * a.2.2.2.1)))))
def accMay (a : AC) (bs : List Int) : Bool := boundsMay bs && (histMay a bs && (inN a.1 && (if a.1 = 0 then bareA a else accBody a)))
theorem mulB {c v : Int} (h0 : 0 ≤ c) (h1 : c ≤ 8192) (h2 : -1099511627776 ≤ v) (h3 : v ≤ 1099511627776) : -9007199254740992 ≤ c * v ∧ c * v ≤ 9007199254740992 := by
  constructor
  · have : c * (-v) ≤ 8192 * 1099511627776 := Int.le_trans (Int.mul_le_mul_of_nonneg_left (by omega : -v ≤ 1099511627776) h0) (Int.mul_le_mul_of_nonneg_right h1 (by omega))
    rw [Int.mul_neg] at this; omega
  · have : c * v ≤ 8192 * 1099511627776 := Int.le_trans (Int.mul_le_mul_of_nonneg_left h3 h0) (Int.mul_le_mul_of_nonneg_right h1 (by omega))
    omega
theorem May_eq (n : Nat) (hn : 20 ≤ n) (a : AC) (bs : List Int) : acc_May n a bs = some (accMay a bs) := by
  rw [acc_May_S]
  unfold accMay
  simp only [BoundsMay_eq n (by omega), bare_eq, within_eq, ends_eq n (by omega), Option.bind_some]
  cases hb : boundsMay bs with
  | false => rfl
  | true =>
    have hb8 : bs.length ≤ 8 := by simp [boundsMay] at hb; exact hb.1
    simp only [Bool.not_true, cond_false, Bool.true_and, wrapS (i := bs.length) (by omega)]
    by_cases hl : (a.2.2.2.2.2.2.length : Int) > ((bs.length + 1 : Nat) : Int)
    · have : ¬ a.2.2.2.2.2.2.length = bs.length + 1 := by omega
      have hd : decide ((a.2.2.2.2.2.2.length : Int) > ((bs.length + 1 : Nat) : Int)) = true := decide_eq_true hl
      simp only [hd, cond_true, histMay, this, decide_false, Bool.false_and, Bool.and_false]
    · rw [hist_eq n hn a bs (by omega) hb8]
      simp only [hl, decide_false, cond_false, Option.bind_some]
      cases histMay a bs with
      | false => rfl
      | true =>
        simp only [Bool.not_true, cond_false, Bool.true_and, inN]
        by_cases h0 : a.1 < 0
        · have : ¬ 0 ≤ a.1 := by omega
          simp [h0, this]
        by_cases h1 : a.1 > 8192
        · have : ¬ a.1 ≤ 8192 := by omega
          simp [h0, h1, this]
        have h0' : 0 ≤ a.1 := by omega
        have h1' : a.1 ≤ 8192 := by omega
        by_cases hz : a.1 = 0
        · simp [hz]
        simp only [h0, h1, h0', h1', decide_false, cond_false, decide_true, Bool.true_and, hz, if_false]
        have : (a.1 == 0) = false := by simp [hz]
        simp only [this, cond_false, accBody]
        cases hv : inV a.2.2.1 with
        | false => rfl
        | true =>
          cases hw : inV a.2.2.2.1 with
          | false => rfl
          | true =>
            simp only [inV, decide_eq_true_eq] at hv hw
            have m1 := mulB h0' h1' hv.1 hv.2
            have m2 := mulB h0' h1' hw.1 hw.2
            simp only [cond_true, GE.ge]
            rw [wrapOK (by omega) (by omega), wrapOK (by omega) (by omega)]
            cases decide (a.2.2.1 ≤ a.2.2.2.1) <;> cases endsMay a <;> cases decide (a.1 * a.2.2.1 ≤ a.2.1) <;> rfl
end Go.Proofs.YtohnakoineakdaaGreat
