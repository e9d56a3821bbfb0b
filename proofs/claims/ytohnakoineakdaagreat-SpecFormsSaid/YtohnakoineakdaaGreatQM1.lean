/- SpecForms: true at every input. -/
import Derived.Test.YtohnakoineakdaaGreatQQ7
namespace Go.Proofs.YtohnakoineakdaaGreat
open Go Go.Ev
set_option linter.unusedVariables false
set_option linter.unusedSimpArgs false

theorem item_eq (n : Nat) (a b c d : Int) : bournelaw21_item n a b c d = some (a, b, c, d) := rfl
theorem count_eq (n : Nat) (a b : Int) : bournelaw21_count n a b = some (cfg1 a b) := rfl
theorem set2 (x y z : IT) : ((List.replicate 2 z).set 0 x).set 1 y = [x, y] := rfl
theorem two_set : ((List.replicate 2 ((0 : Int), (0 : Int), (0 : Int), (0 : Int))).set 0 (0, 5, 1, 1)).set 1 (0, 6, 2, 1) = two := rfl

def good : List RE × Int := ([(0, 0, (0, 10), 2, false, [])], 0)
theorem forms_j0 (n : Nat) (hn : 1099511627816 < n) : bournelaw21_SpecForms_j0 n c25.F c27.F c28.F c14.F c16.F c19.F (cfg1 2 9) (0, 5, 1, 1) (0, 6, 2, 1) good = some true := by
  rw [bournelaw21_SpecForms_j0_S]
  have h1 : mayS ([], 2, 9, 2, 1) two [3, 30] = false := by decide +kernel
  have h2 : mayS ([], 2, 9, 2, 1) two [30] = false := by decide +kernel
  have e1 := Results_bad n (by omega) ([], 2, 9, 2, 1) two (by decide) 3 30 h1
  have e2 := Held_bad n (by omega) ([], 2, 9, 2, 1) two (by decide) 30 h2
  rw [two_set]
  have e3 : ((Go.Ev.nl QY, (cfg1 2 9).snd) : CF) = ([], 2, 9, 2, 1) := rfl
  rw [e3, e1]
  simp only [Option.bind_some]
  rw [e2]
  rfl
theorem forms_j1 (n : Nat) (hn : 1099511627816 < n) (la a b : Int) (bad : Bool) (xs : List IT) (hx : xs.length ≤ 1099511627776) (h1 : mayS (cfg1 la 9) xs [a, b] = false)
    (h2 : (bad = true ∧ mayS (cfg1 la 9) xs [b] = false) ∨ (bad = false ∧ la = 2 ∧ xs = two ∧ b = 30)) : bournelaw21_SpecForms_j1 n c25.F c27.F c28.F c14.F c16.F c19.F (cfg1 2 9) good a b bad la xs = some true := by
  rw [bournelaw21_SpecForms_j1_S]
  have e1 := Results_bad n (by omega) (cfg1 la 9) xs hx a b h1
  have e3 : (((cfg1 2 9).fst, la, (cfg1 2 9).snd.snd) : CF) = cfg1 la 9 := rfl
  rw [e3, e1]
  simp only [Option.bind_some]
  rcases h2 with ⟨rfl, h2⟩ | ⟨rfl, rfl, rfl, rfl⟩
  · rw [Held_bad n (by omega) (cfg1 la 9) xs hx b h2]
    rfl
  · obtain ⟨k, rfl⟩ : ∃ k, n = k + 40 := ⟨n - 40, by omega⟩
    rw [held_eq]
    rfl

theorem may_no {c : CF} {x : IT} {xs : List IT} {ms : List Int} (h : itemMay x = false) : mayS c (x :: xs) ms = false := by simp [mayS, itemsGo, h]
theorem may_nc {c : CF} {xs : List IT} {ms : List Int} (h : cfgMay c = false) : mayS c xs ms = false := by simp [mayS, h]
theorem may_nm {c : CF} {xs : List IT} {ms : List Int} (h : (ms.all markMay && rising ms) = false) : mayS c xs ms = false := by simp only [mayS, h]; simp

theorem Forms_true (n : Nat) (hn : 1099511627816 < n) (which x : Int) : bournelaw21_SpecForms n which x = some true := by
  rw [bournelaw21_SpecForms_S, awake_eq]
  have hg : spec_Results n (cfg1 2 9) two 3 30 = some good := by
    obtain ⟨k, rfl⟩ : ∃ k, n = k + 40 := ⟨n - 40, by omega⟩
    exact good_eq k
  simp only [Option.bind_some, Bool.not_true, cond_false, count_eq, item_eq, two_set, hg, mask1023]
  rw [if_pos (by rfl)]
  rw [wrapOK (x := 1 + x % 1024) (by omega) (by omega)]
  generalize hd : 1 + x % 1024 = d
  have hd1 : 1 ≤ d ∧ d ≤ 1024 := by omega
  rw [wrapOK (x := 1099511627776 + d) (by omega) (by omega), wrapOK (x := 1 - d) (by omega) (by omega), wrapOK (x := 4398046511104 + d) (by omega) (by omega), wrapOK (x := -4398046511104 - d) (by omega) (by omega), wrapOK (x := 30 + d) (by omega) (by omega), wrapOK (x := 0 - d) (by omega) (by omega)]
  generalize (Go.IntKind.u64.wrap which).tmod 9 = k
  by_cases k0 : k = 0
  · subst k0; exact forms_j0 n hn
  rw [show (k == 0) = false by simp [k0]]
  by_cases k1 : k = 1
  · subst k1
    exact forms_j1 n hn 2 3 30 true [(0, 5, 1, 1), (0, 6, 1, 1)] (by decide) (by decide +kernel) (.inl ⟨rfl, by decide +kernel⟩)
  rw [show (k == 1) = false by simp [k1]]
  by_cases k2 : k = 2
  · subst k2
    have h : itemMay (0, 1099511627776 + d, 1, 1) = false := by simp [itemMay, inV]; omega
    exact forms_j1 n hn 2 3 30 true [(0, 1099511627776 + d, 1, 1), (0, 6, 2, 1)] (by simp) (may_no h) (.inl ⟨rfl, may_no h⟩)
  rw [show (k == 2) = false by simp [k2]]
  by_cases k3 : k = 3
  · subst k3
    have h : itemMay (0, 5, 1 - d, 1) = false := by simp [itemMay, inV]; omega
    exact forms_j1 n hn 2 3 30 true [(0, 5, 1 - d, 1), (0, 6, 2, 1)] (by simp) (may_no h) (.inl ⟨rfl, may_no h⟩)
  rw [show (k == 3) = false by simp [k3]]
  by_cases k4 : k = 4
  · subst k4
    have h : markMay (4398046511104 + d) = false := by simp [markMay]; omega
    exact forms_j1 n hn 2 3 (4398046511104 + d) true two (by decide) (may_nm (by simp [h])) (.inl ⟨rfl, may_nm (by simp [h])⟩)
  rw [show (k == 4) = false by simp [k4]]
  by_cases k5 : k = 5
  · subst k5
    have h : itemMay (0, 0, 0, 0) = false := by decide +kernel
    exact forms_j1 n hn 2 3 30 true (List.replicate 8193 (0, 0, 0, 0)) (by rw [List.length_replicate]; omega) (may_no h) (.inl ⟨rfl, may_no h⟩)
  rw [show (k == 5) = false by simp [k5]]
  by_cases k6 : k = 6
  · subst k6
    have h : markMay (-4398046511104 - d) = false := by simp [markMay]; omega
    exact forms_j1 n hn 2 (-4398046511104 - d) 30 false two (by decide) (may_nm (by simp [h])) (.inr ⟨rfl, rfl, rfl, rfl⟩)
  rw [show (k == 6) = false by simp [k6]]
  by_cases k7 : k = 7
  · subst k7
    have h : rising [30 + d, 30] = false := by simp [rising]; omega
    exact forms_j1 n hn 2 (30 + d) 30 false two (by decide) (may_nm (by simp [h])) (.inr ⟨rfl, rfl, rfl, rfl⟩)
  rw [show (k == 7) = false by simp [k7]]
  have h : cfgMay (cfg1 (0 - d) 9) = false := by
    have : inR 0 1073741824 (0 - d) = false := by simp [inR]; omega
    simp only [cfgMay, cfg1, this]; simp
  exact forms_j1 n hn (0 - d) 3 30 true two (by decide) (may_nc h) (.inl ⟨rfl, may_nc h⟩)
end Go.Proofs.YtohnakoineakdaaGreat
