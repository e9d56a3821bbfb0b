/- The plain law of admit.May, spec.may. -/
import Derived.Test.YtohnakoineakdaaGreatQQ4
namespace Go.Proofs.YtohnakoineakdaaGreat
open Go Go.Ev
set_option linter.unusedVariables false
set_option linter.unusedSimpArgs false

theorem idx_q_l0 (n : Nat) (hn : 1073741825 < n) (xs : List QY) (hx : xs.length ≤ 1073741824) : ∀ (k m i : Nat), i + k = xs.length → k < m → ∃ r : Int, slices_IndexFunc_api_Query_l0 n c84.F xs m (i : Int) = some r ∧ (0 ≤ r ↔ ((xs.drop i).all qMay) = false) := by
  intro k
  induction k with
  | zero =>
    intro m i hi hm
    obtain ⟨m, rfl, hm⟩ := sucM hm
    rw [slices_IndexFunc_api_Query_l0_S]
    have : xs.drop i = [] := List.drop_eq_nil_of_le (by omega)
    have h1 : ¬ ((i : Int) < (xs.length : Int)) := by omega
    exact ⟨-1, by simp [h1], by simp [this]⟩
  | succ k ih =>
    intro m i hi hm
    obtain ⟨m, rfl, hm⟩ := sucM hm
    have hlt : i < xs.length := by omega
    rw [slices_IndexFunc_api_Query_l0_S, dropLt hlt]
    have h1 : ((i : Int) < (xs.length : Int)) := by omega
    have h2 : (0 : Int) ≤ (i : Int) := by omega
    obtain ⟨r, e1, e2⟩ := ih m (i + 1) (by omega) (by omega)
    simp only [admit_May_1_S, wMay_eq n hn, Option.bind_some, h1, h2, and_self, if_true, decide_true, cond_true, Int.toNat_natCast, getLt hlt, wrapS (i := i) (by omega), e1, List.all_cons]
    cases hm : qMay xs[i] with
    | true => exact ⟨r, by simp, by simpa using e2⟩
    | false => exact ⟨i, by simp, by simp⟩
theorem Contains_q (n : Nat) (hn : 1073741825 < n) (xs : List QY) (hx : xs.length ≤ 1073741824) : slices_ContainsFunc_api_Query n xs () = some (!(xs.all qMay)) := by
  obtain ⟨r, e1, e2⟩ := idx_q_l0 n hn xs hx xs.length n 0 (by omega) (by omega)
  rw [slices_ContainsFunc_api_Query_S, slices_IndexFunc_api_Query_S]
  have e1 : slices_IndexFunc_api_Query_l0 n c84.F xs n 0 = some r := e1
  simp only [e1, Option.bind_some]
  rw [List.drop_zero] at e2
  cases h : xs.all qMay with
  | true => simp [h] at e2; simp [GE.ge]; omega
  | false => simp [h] at e2; simp [GE.ge, e2]

def inR (a b x : Int) : Bool := decide (a ≤ x) && decide (x ≤ b)
def cfgMay (c : CF) : Bool := decide (1 ≤ c.1.length ∧ c.1.length ≤ 8) && (c.1.all qMay && (inR 0 1073741824 c.2.1 && (inR 1 4096 c.2.2.1 && (inR 1 64 c.2.2.2.1 && inR 1 8 c.2.2.2.2))))
theorem aMay_eq (n : Nat) (hn : 1073741825 < n) (c : CF) : admit_May n c = some (cfgMay c) := by
  obtain ⟨qs, la, ro, se, so⟩ := c
  rw [admit_May_S]
  unfold cfgMay
  simp only [GT.gt, GE.ge]
  by_cases a1 : qs.length < 1
  · have : ((qs.length : Nat) : Int) < 1 := by omega
    have h2 : ¬ (1 ≤ qs.length ∧ qs.length ≤ 8) := by omega
    simp [this, h2]
  by_cases a2 : 8 < qs.length
  · have h1 : ¬ ((qs.length : Nat) : Int) < 1 := by omega
    have h3 : (8 : Int) < ((qs.length : Nat) : Int) := by omega
    have h2 : ¬ (1 ≤ qs.length ∧ qs.length ≤ 8) := by omega
    simp [h1, h2, h3]
  have h1 : ¬ ((qs.length : Nat) : Int) < 1 := by omega
  have h3 : ¬ (8 : Int) < ((qs.length : Nat) : Int) := by omega
  have h2 : 1 ≤ qs.length ∧ qs.length ≤ 8 := by omega
  simp only [h1, h3, h2, decide_false, cond_false, Contains_q n hn qs (by omega), Option.bind_some, and_self, decide_true, Bool.true_and]
  cases qs.all qMay with
  | false => simp
  | true =>
    simp only [Bool.not_true, cond_false, Bool.true_and, inR]
    cases decide (0 ≤ la) <;> cases decide (la ≤ 1073741824) <;> cases decide (1 ≤ ro) <;> cases decide (ro ≤ 4096) <;> cases decide (1 ≤ se) <;> cases decide (se ≤ 64) <;> cases decide (1 ≤ so) <;> simp

/-- May the items be: each by itself, no number twice? -/
def itemsGo (seen : List Int) : List IT → Bool
  | [] => true
  | x :: xs => itemMay x && (!(seen.contains x.2.2.1) && itemsGo (x.2.2.1 :: seen) xs)
def mayS (c : CF) (xs : List IT) (ms : List Int) : Bool := itemsGo [] xs && (cfgMay c && (decide (xs.length ≤ 8192) && (ms.all markMay && rising ms)))

theorem mget_seen (s : Int) : ∀ seen : List Int, mget (seen.map fun x => (x, true)) s = seen.contains s
  | [] => rfl
  | x :: l => by
    have ih := mget_seen s l
    unfold mget at ih ⊢
    simp only [List.map_cons, List.lookup, List.contains_cons]
    cases h : s == x with
    | true => simp
    | false => simpa using ih
theorem itemMay_seq {x : IT} (h : itemMay x = true) : 1 ≤ x.2.2.1 ∧ x.2.2.1 ≤ 1073741823 := by
  simp only [itemMay, Bool.and_eq_true, decide_eq_true_eq] at h
  exact ⟨h.2.2.2.1, h.2.2.2.2.1⟩
theorem wfSeq {x : IT} (h : itemMay x = true) : wfI x.2.2.1 = true := by
  have := itemMay_seq h
  simp [wfI]; omega

theorem may_l0 (n : Nat) (hn : 1073741825 < n) (c : CF) (xs : List IT) (hx : xs.length ≤ 1099511627776) (ms : List Int) (hm1 : ms.length ≤ 1073741824) (hs : slices_IsSorted_int_int n ms = some (rising ms)) :
    ∀ (k m i : Nat) (seen : List Int), i + k = xs.length → k < m → spec_may_l0 n c53.F c56.F c57.F c58.F c xs ms m (i : Int) (seen.map fun x => (x, true)) = some (itemsGo seen (xs.drop i) && (cfgMay c && (decide (xs.length ≤ 8192) && (ms.all markMay && rising ms)))) := by
  intro k
  induction k with
  | zero =>
    intro m i seen hi hm
    obtain ⟨m, rfl, hm⟩ := sucM hm
    rw [spec_may_l0_S]
    have : xs.drop i = [] := List.drop_eq_nil_of_le (by omega)
    have h1 : ¬ ((i : Int) < (xs.length : Int)) := by omega
    have h2 : decide ((xs.length : Int) ≤ 8192) = decide (xs.length ≤ 8192) := by congr 1; exact propext ⟨fun h => by omega, fun h => by omega⟩
    simp only [this, h1, decide_false, cond_false, aMay_eq n hn, Option.bind_some, itemsGo, Bool.true_and, h2, Contains_int n ms hm1 (by omega), hs]
    cases cfgMay c <;> cases decide (xs.length ≤ 8192) <;> cases ms.all markMay <;> simp
  | succ k ih =>
    intro m i seen hi hm
    obtain ⟨m, rfl, hm⟩ := sucM hm
    have hlt : i < xs.length := by omega
    rw [spec_may_l0_S, dropLt hlt]
    have h1 : ((i : Int) < (xs.length : Int)) := by omega
    have h2 : (0 : Int) ≤ (i : Int) := by omega
    have ih' := ih m (i + 1) (xs[i].2.2.1 :: seen) (by omega) (by omega)
    rw [List.map_cons] at ih'
    simp only [ItemMay_eq, Option.bind_some, h1, h2, and_self, if_true, decide_true, cond_true, Int.toNat_natCast, getLt hlt, wrapS (i := i) (by omega), ih', itemsGo, mget_seen]
    cases hi : itemMay xs[i] with
    | false => simp
    | true =>
      rw [if_pos (wfSeq hi)]
      cases seen.contains xs[i].2.2.1 with
      | true => simp
      | false => simp [wfSeq hi]

theorem may_eq (n : Nat) (hn : 1099511627776 < n) (c : CF) (xs : List IT) (hx : xs.length ≤ 1099511627776) (ms : List Int) (hm1 : ms.length ≤ 1073741824) (hs : slices_IsSorted_int_int n ms = some (rising ms)) :
    spec_may n c xs ms = some (mayS c xs ms) := by
  rw [spec_may_S]
  have := may_l0 n (by omega) c xs hx ms hm1 hs xs.length n 0 [] (by omega) (by omega)
  rw [List.drop_zero] at this
  exact this
theorem may_two (n : Nat) (hn : 1099511627776 < n) (c : CF) (xs : List IT) (hx : xs.length ≤ 1099511627776) (a b : Int) : spec_may n c xs [a, b] = some (mayS c xs [a, b]) :=
  may_eq n hn c xs hx _ (by simp) (by rw [sorted_two n (by omega)]; simp [rising])
theorem may_one (n : Nat) (hn : 1099511627776 < n) (c : CF) (xs : List IT) (hx : xs.length ≤ 1099511627776) (a : Int) : spec_may n c xs [a] = some (mayS c xs [a]) :=
  may_eq n hn c xs hx _ (by simp) (by rw [sorted_one n (by omega)]; rfl)
end Go.Proofs.YtohnakoineakdaaGreat
