/- The plain law of window.May, admit.May, spec.may. -/
import Derived.Test.YtohnakoineakdaaGreatQQ3
import Derived.Test.YtohnakoineakdaaGreatQSpecCp
namespace Go.Proofs.YtohnakoineakdaaGreat
open Go Go.Ev
set_option linter.unusedVariables false
set_option linter.unusedSimpArgs false

abbrev QY := Int × Int × Int × Int × List Int × Int
abbrev CF := List QY × Int × Int × Int × Int

/-! loops that look through a row -/
theorem isNaN_eq (n : Nat) (a : Int) : cmp_isNaN_int n a = some false := by unfold cmp_isNaN_int; simp
theorem Less_eq (n : Nat) (a b : Int) : cmp_Less_int n a b = some (decide (a < b)) := by rw [cmp_Less_int_S]; simp [isNaN_eq]

def markMay (m : Int) : Bool := decide (-4398046511104 ≤ m) && decide (m ≤ 4398046511104)
theorem LeastMay_eq (n : Nat) (m : Int) : admit_LeastMay n m = some (markMay m) := by
  unfold admit_LeastMay markMay
  by_cases h : -4398046511104 ≤ m <;> simp [h, GE.ge]

theorem idx_int_l0 (n : Nat) (xs : List Int) (hx : xs.length ≤ 1073741824) : ∀ (k m i : Nat), i + k = xs.length → k < m → ∃ r : Int, slices_IndexFunc_int_int_l0 n c54.F xs m (i : Int) = some r ∧ (0 ≤ r ↔ ((xs.drop i).all markMay) = false) := by
  intro k
  induction k with
  | zero =>
    intro m i hi hm
    obtain ⟨m, rfl, hm⟩ := sucM hm
    rw [slices_IndexFunc_int_int_l0_S]
    have : xs.drop i = [] := List.drop_eq_nil_of_le (by omega)
    have h1 : ¬ ((i : Int) < (xs.length : Int)) := by omega
    exact ⟨-1, by simp [h1], by simp [this]⟩
  | succ k ih =>
    intro m i hi hm
    obtain ⟨m, rfl, hm⟩ := sucM hm
    have hlt : i < xs.length := by omega
    rw [slices_IndexFunc_int_int_l0_S, dropLt hlt]
    have h1 : ((i : Int) < (xs.length : Int)) := by omega
    have h2 : (0 : Int) ≤ (i : Int) := by omega
    obtain ⟨r, e1, e2⟩ := ih m (i + 1) (by omega) (by omega)
    simp only [spec_may_1_S, LeastMay_eq, Option.bind_some, h1, h2, and_self, if_true, decide_true, cond_true, Int.toNat_natCast, getLt hlt, wrapS (i := i) (by omega), e1, List.all_cons]
    cases hm : markMay xs[i] with
    | true => exact ⟨r, by simp, by simpa using e2⟩
    | false => exact ⟨i, by simp, by simp⟩
theorem Contains_int (n : Nat) (xs : List Int) (hx : xs.length ≤ 1073741824) (hn : xs.length < n) : slices_ContainsFunc_int_int n xs () = some (!(xs.all markMay)) := by
  obtain ⟨r, e1, e2⟩ := idx_int_l0 n xs hx xs.length n 0 (by omega) (by omega)
  rw [slices_ContainsFunc_int_int_S, slices_IndexFunc_int_int_S]
  have e1 : slices_IndexFunc_int_int_l0 n c54.F xs n 0 = some r := e1
  simp only [e1, Option.bind_some]
  rw [List.drop_zero] at e2
  cases h : xs.all markMay with
  | true => simp [h] at e2; simp [GE.ge]; omega
  | false => simp [h] at e2; simp [GE.ge, e2]

/-- Do the marks rise? -/
def rising : List Int → Bool
  | [] => true
  | x :: l => match l with
    | [] => true
    | y :: _ => decide (x ≤ y) && rising l
theorem sorted_two (n : Nat) (hn : 10 ≤ n) (a b : Int) : slices_IsSorted_int_int n [a, b] = some (decide (a ≤ b)) := by
  rw [slices_IsSorted_int_int_S]
  obtain ⟨n1, rfl⟩ : ∃ n1, n = n1 + 2 := ⟨n - 2, by omega⟩
  have e0 : Go.IntKind.i64.wrap ((([a, b] : List Int).length : Int) - 1) = 1 := by rw [wrapOK] <;> simp
  simp only [e0]
  rw [slices_IsSorted_int_int_l0_S]
  have e1 : Go.IntKind.i64.wrap (1 - 1 : Int) = 0 := by rw [wrapOK] <;> simp
  simp only [e1, Less_eq, Option.bind_some]
  have e2 : decide (a ≤ b) = !decide (b < a) := decLe _ _
  rw [e2]
  rw [show (n1 + 1) = (n1 + 1) from rfl, slices_IsSorted_int_int_l0_S]
  by_cases h : b < a <;> simp [h]
theorem sorted_one (n : Nat) (hn : 10 ≤ n) (a : Int) : slices_IsSorted_int_int n [a] = some true := by
  rw [slices_IsSorted_int_int_S]
  obtain ⟨n1, rfl⟩ : ∃ n1, n = n1 + 2 := ⟨n - 2, by omega⟩
  have e0 : Go.IntKind.i64.wrap ((([a] : List Int).length : Int) - 1) = 0 := by rw [wrapOK] <;> simp
  simp only [e0]
  rw [slices_IsSorted_int_int_l0_S]
  simp

/-! a query -/
theorem gcd_l0 (n : Nat) : ∀ (b m : Nat) (a : Nat), b < m → floor_Gcd_l0 n m (a : Int) (b : Int) = some (((Nat.gcd a b : Nat) : Int), 0) := by
  intro b
  induction b using Nat.strongRecOn with
  | ind b ih =>
    intro m a hm
    obtain ⟨m, rfl, hm⟩ := sucM hm
    rw [floor_Gcd_l0_S]
    by_cases h0 : b = 0
    · subst h0; simp
    · have h1 : (0 : Int) < (b : Int) := by omega
      have h2 : (b : Int) ≠ 0 := by omega
      have e : (a : Int).tmod (b : Int) = ((a % b : Nat) : Int) := (Int.ofNat_tmod a b).symm
      have ih' := ih (a % b) (Nat.mod_lt _ (by omega)) m b (by have := Nat.mod_lt a (show 0 < b by omega); omega)
      simp only [GT.gt, h1, decide_true, cond_true, ne_eq, h2, not_false_eq_true, e, ih']
      rw [Nat.gcd_comm b, ← Nat.gcd_rec, Nat.gcd_comm]

def slidingB (q : QY) : Bool := decide (1 ≤ q.2.2.2.1) && (decide (q.2.2.2.1 ≤ q.2.2.1) && (decide ((q.2.2.1 - 1).tdiv q.2.2.2.1 < 64) && decide (q.2.2.1.tdiv (Nat.gcd q.2.2.1.toNat q.2.2.2.1.toNat : Nat) ≤ 256)))
theorem tdivIn {a b : Int} (ha : 0 ≤ a) (h1 : a ≤ 4611686018427387904) (hb : 0 ≤ b) : 0 ≤ a.tdiv b ∧ a.tdiv b ≤ 4611686018427387904 := by
  rw [Int.tdiv_eq_ediv_of_nonneg ha]
  refine ⟨Int.ediv_nonneg ha hb, ?_⟩
  have := Int.ediv_le_self b ha
  omega
theorem sliding_eq (n : Nat) (hn : 1073741825 < n) (q : QY) (h1 : 1 ≤ q.2.2.1) (h2 : q.2.2.1 ≤ 1073741824) : window_sliding n q = some (slidingB q) := by
  obtain ⟨kd, ag, sz, sl, bs, rk⟩ := q
  simp only at h1 h2
  rw [window_sliding_S]
  unfold slidingB
  simp only [GT.gt, GE.ge]
  by_cases a1 : sl < 1
  · have : ¬ 1 ≤ sl := by omega
    simp [a1, this]
  have a1' : 1 ≤ sl := by omega
  by_cases a2 : sz < sl
  · have : ¬ sl ≤ sz := by omega
    simp [a1, a1', a2, this]
  have a2' : sl ≤ sz := by omega
  have a3 : sl ≠ 0 := by omega
  have e1 : Go.IntKind.i64.wrap (sz - 1) = sz - 1 := wrapOK (by omega) (by omega)
  have t1 := tdivIn (a := sz - 1) (b := sl) (by omega) (by omega) (by omega)
  have e2 : Go.IntKind.i64.wrap ((sz - 1).tdiv sl) = (sz - 1).tdiv sl := wrapOK (by omega) (by omega)
  have g1 : (sz : Int) = (sz.toNat : Int) := by omega
  have g2 : (sl : Int) = (sl.toNat : Int) := by omega
  have gg : floor_Gcd n sz sl = some (((Nat.gcd sz.toNat sl.toNat : Nat) : Int), 0) := by
    rw [floor_Gcd_S]
    have b1 : ¬ sz < 1 := by omega
    simp only [b1, a1, decide_false, cond_false]
    rw [g1, g2]
    exact gcd_l0 n sl.toNat n sz.toNat (by omega)
  have gp : 0 < Nat.gcd sz.toNat sl.toNat := Nat.gcd_pos_of_pos_left _ (by omega)
  have gn : ((Nat.gcd sz.toNat sl.toNat : Nat) : Int) ≠ 0 := by omega
  have t2 := tdivIn (a := sz) (b := ((Nat.gcd sz.toNat sl.toNat : Nat) : Int)) (by omega) (by omega) (by omega)
  have e3 : Go.IntKind.i64.wrap (sz.tdiv ((Nat.gcd sz.toNat sl.toNat : Nat) : Int)) = sz.tdiv ((Nat.gcd sz.toNat sl.toNat : Nat) : Int) := wrapOK (by omega) (by omega)
  simp only [a1, a2, a1', a2', decide_false, decide_true, cond_false, cond_true, ne_eq, a3, not_false_eq_true, e1, e2, gg, Option.bind_some, gn, e3, Bool.true_and]
  by_cases a4 : 64 ≤ (sz - 1).tdiv sl
  · have : ¬ (sz - 1).tdiv sl < 64 := by omega
    simp [a4, this]
  · have : (sz - 1).tdiv sl < 64 := by omega
    simp [a4, this]

def asksB (q : QY) : Bool := decide (0 ≤ q.2.1) && (decide (q.2.1 ≤ 7) && ((q.2.1 == 7 || q.2.2.2.2.2 == 0) && (decide (0 ≤ q.2.2.2.2.2) && (decide (q.2.2.2.2.2 ≤ 1000) && ((q.2.1 == 6 || q.2.1 == 7) == decide (0 < q.2.2.2.2.1.length) && boundsMay q.2.2.2.2.1)))))
theorem asks_eq (n : Nat) (hn : 10 ≤ n) (q : QY) : window_asks n q = some (asksB q) := by
  obtain ⟨kd, ag, sz, sl, bs, rk⟩ := q
  rw [window_asks_S]
  unfold asksB
  simp only [GT.gt, BoundsMay_eq n hn, Option.bind_some]
  have el : decide ((0 : Int) < (bs.length : Int)) = decide (0 < bs.length) := by congr 1; exact propext ⟨fun h => by omega, fun h => by omega⟩
  simp only [el]
  by_cases a1 : ag < 0
  · have : ¬ 0 ≤ ag := by omega
    simp [a1, this]
  have a1' : 0 ≤ ag := by omega
  by_cases a2 : 7 < ag
  · have : ¬ ag ≤ 7 := by omega
    simp [a1, a1', a2, this]
  have a2' : ag ≤ 7 := by omega
  by_cases a3 : ag = 7
  · subst a3
    by_cases b1 : rk < 0
    · have : ¬ 0 ≤ rk := by omega
      simp [b1, this]
    have b1' : 0 ≤ rk := by omega
    by_cases b2 : 1000 < rk
    · have : ¬ rk ≤ 1000 := by omega
      simp [b1, b1', b2, this]
    have b2' : rk ≤ 1000 := by omega
    simp [b1, b2, b1', b2']
    cases decide (0 < bs.length) <;> simp
  · have a3' : (ag != 7) = true := by simp [a3]
    have a3'' : (ag == 7) = false := by simp [a3]
    by_cases b0 : rk = 0
    · subst b0
      simp [a1, a1', a2, a2', a3', a3'']
      by_cases a4 : ag = 6
      · subst a4; cases decide (0 < bs.length) <;> simp
      · have : (ag == 6) = false := by simp [a4]
        simp [this]
        cases decide (0 < bs.length) <;> simp
    · have b0' : (rk != 0) = true := by simp [b0]
      have b0'' : (rk == 0) = false := by simp [b0]
      simp [a1, a1', a2, a2', a3', a3'', b0', b0'']

def qMay (q : QY) : Bool := decide (1 ≤ q.2.2.1) && (decide (q.2.2.1 ≤ 1073741824) && (asksB q && (if q.1 = 1 then slidingB q else (q.1 == 0 || q.1 == 2) && q.2.2.2.1 == 0)))
theorem wMay_eq (n : Nat) (hn : 1073741825 < n) (q : QY) : window_May n q = some (qMay q) := by
  rw [window_May_S]
  unfold qMay
  simp only [GT.gt, asks_eq n (by omega), Option.bind_some, window_May_j0_S]
  by_cases a1 : q.2.2.1 < 1
  · have : ¬ 1 ≤ q.2.2.1 := by omega
    simp [a1, this]
  have a1' : 1 ≤ q.2.2.1 := by omega
  by_cases a2 : 1073741824 < q.2.2.1
  · have : ¬ q.2.2.1 ≤ 1073741824 := by omega
    simp [a1, a1', a2, this]
  have a2' : q.2.2.1 ≤ 1073741824 := by omega
  simp only [a1, a2, a1', a2', decide_false, decide_true, cond_false, cond_true, Bool.true_and]
  cases asksB q with
  | false => simp
  | true =>
    by_cases k1 : q.1 = 1
    · simp [k1, sliding_eq n hn q a1' a2']
    · have k1' : (q.1 == 1) = false := by simp [k1]
      by_cases k0 : q.1 = 0
      · simp [k0, k1']
      · have k0' : (q.1 == 0) = false := by simp [k0]
        by_cases k2 : q.1 = 2
        · simp [k2]
        · have k2' : (q.1 == 2) = false := by simp [k2]
          simp [k1, k1', k0', k2']
end Go.Proofs.YtohnakoineakdaaGreat
