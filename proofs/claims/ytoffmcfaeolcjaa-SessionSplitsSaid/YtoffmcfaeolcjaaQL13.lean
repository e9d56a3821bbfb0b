/- SessionSplits: true at every input. -/
import Derived.Test.YtoffmcfaeolcjaaQP8
namespace Go.Proofs.Ytoffmcfaeolcjaa
open Go Go.Ev
set_option linter.unusedVariables false
set_option linter.unusedSimpArgs false

theorem splits_end (n : Nat) (hn : 200 ≤ n) (g : Int) (hg : gapMay g = true) (hg16 : g ≤ 16) (xs ys all : List IT) (hx : ∀ x ∈ xs, (itemMay x = true ∧ x.1 = 0) ∧ x.2.1 ≤ 63) (hy : ∀ x ∈ ys, (itemMay x = true ∧ x.1 = 0) ∧ 1000 ≤ x.2.1)
    (hp : all.Perm (xs ++ ys)) (hs : (all.map fun x => x.2.2.1).Nodup) (hl : all.length ≤ 24) :
    ∃ a b, session_Add n [] g [] xs = some (a, 0) ∧ session_Add n [] g [] ys = some (b, 0) ∧ session_Add n [] g [] all = some (a ++ b, 0) ∧ session_Add n a g [] ys = some (a ++ b, 0) ∧ bournelaw0_CopySessions n a = some a ∧ bournelaw0_SameSessions n (a ++ b) (a ++ b) = some true ∧ a.length + b.length ≤ 24 := by
  have hlen := hp.length_eq
  simp only [List.length_append] at hlen
  have z := Is.nil [] 0 g
  obtain ⟨a, ha, ia⟩ := add_run (X := []) (xs := xs) hn hg z (fun x h => (hx x h).1) (by simp only [List.length_nil]; omega)
  obtain ⟨b, hb, ib⟩ := add_run (X := []) (xs := ys) hn hg z (fun x h => (hy x h).1) (by simp only [List.length_nil]; omega)
  obtain ⟨c, hc, ic⟩ := add_run (X := []) (xs := all) hn hg z (fun x h => by
    rcases List.mem_append.1 (hp.mem_iff.1 h) with h | h
    · exact (hx x h).1
    · exact (hy x h).1) (by simp only [List.length_nil]; omega)
  obtain ⟨d, hd, id⟩ := add_run (xs := ys) hn hg ia (fun x h => (hy x h).1) (by simp only [List.append_nil]; omega)
  simp only [List.append_nil] at ia ib ic id
  have iab : Is [] 0 g (a ++ b) (xs ++ ys) := ia.app ib fun x h y h' => by
    have := (hx x h).2; have := (hy y h').2; omega
  have e1 : c = a ++ b := is_uniq hg ic iab hp hs
  have pd : (ys ++ xs).Perm all := (List.perm_append_comm).trans hp.symm
  have e2 : c = d := is_uniq hg ic id pd.symm hs
  have la := ia.len
  have lb := ib.len
  subst e1
  subst e2
  refine ⟨a, b, ha, hb, hc, hd, CopySes_eq n a (by omega) (by omega) (fun s h => by rw [ia.hist s h]; decide), ?_, by omega⟩
  exact SameSes_refl n (a ++ b) (by rw [List.length_append]; omega) (by rw [List.length_append]; omega) (fun s h => by rw [iab.hist s h]; decide) (by omega)
theorem Splits_l0 (n : Nat) (hn : 200 ≤ n) (ts : List Int) (gap : Int) : ∀ (k m i : Nat) (xs ys all : List IT), i + k = 24 → k < m → i ≤ ts.length →
    (∀ x ∈ xs, (itemMay x = true ∧ x.1 = 0) ∧ x.2.1 ≤ 63) → (∀ x ∈ ys, (itemMay x = true ∧ x.1 = 0) ∧ 1000 ≤ x.2.1) → all.Perm (xs ++ ys) → (all.map fun x => x.2.2.1) = (List.range i).map (fun (j : Nat) => (j : Int) + 1) →
    bournelaw6_SessionSplits_l0 n c45.F c46.F c37.F c34.F c17.F c39.F ts gap m (i : Int) xs ys all = some true := by
  have hg : gapMay (1 + gap % 16) = true := by simp only [gapMay, Bool.and_eq_true, decide_eq_true_eq]; omega
  have fin : ∀ (i : Nat) (xs ys all : List IT), i ≤ 24 → (∀ x ∈ xs, (itemMay x = true ∧ x.1 = 0) ∧ x.2.1 ≤ 63) → (∀ x ∈ ys, (itemMay x = true ∧ x.1 = 0) ∧ 1000 ≤ x.2.1) → all.Perm (xs ++ ys) → (all.map fun x => x.2.2.1) = (List.range i).map (fun (j : Nat) => (j : Int) + 1) →
      ∃ a b, session_Add n [] (1 + gap % 16) [] xs = some (a, 0) ∧ session_Add n [] (1 + gap % 16) [] ys = some (b, 0) ∧ session_Add n [] (1 + gap % 16) [] all = some (a ++ b, 0) ∧ session_Add n a (1 + gap % 16) [] ys = some (a ++ b, 0) ∧ bournelaw0_CopySessions n a = some a ∧ bournelaw0_SameSessions n (a ++ b) (a ++ b) = some true ∧ a.length + b.length ≤ 24 := by
    intro i xs ys all hi hx hy hp hs
    have hl : all.length = i := by have := congrArg List.length hs; simpa using this
    have hnd : (all.map fun x => x.2.2.1).Nodup := by
      rw [hs]
      exact List.Pairwise.map _ (fun a b hab e => hab (by omega)) List.nodup_range
    exact splits_end n hn _ hg (by omega) xs ys all hx hy hp hnd (by omega)
  intro k
  induction k with
  | zero =>
    intro m i xs ys all hi hm hts hx hy hp hs
    obtain ⟨m, rfl, hm⟩ := sucM hm
    obtain ⟨a, b, f1, f2, f3, f4, f5, f6, f7⟩ := fin i xs ys all (by omega) hx hy hp hs
    have h2 : ¬ ((i : Int) < 24) := by omega
    rw [bournelaw6_SessionSplits_l0_S]
    simp only [mask15, gap15, nl, f1, f2, f3, f4, f5, f6, h2, decide_false, cond_false, Option.bind_some, bournelaw0_Num, beq_self_eq_true, cond_true]
    by_cases h1 : (i : Int) < (ts.length : Int)
    · simp only [h1, decide_true, cond_true]
      rw [if_pos (by omega)]
    · simp only [h1, decide_false, cond_false]
      rw [if_pos (by omega)]
  | succ k ih =>
    intro m i xs ys all hi hm hts hx hy hp hs
    obtain ⟨m, rfl, hm⟩ := sucM hm
    rw [bournelaw6_SessionSplits_l0_S]
    by_cases h1 : (i : Int) < (ts.length : Int)
    · have h2 : (i : Int) < 24 := by omega
      have h3 : (0 : Int) ≤ (i : Int) := by omega
      have hal : all.length = i := by have := congrArg List.length hs; simpa using this
      have hpl := hp.length_eq
      rw [List.length_append] at hpl
      simp only [h1, h2, h3, and_self, decide_true, cond_true, if_true, bournelaw6_item, Option.bind_some, wrapS (i := i) (by omega), mask63, set1, List.length_cons, List.length_nil, bournelaw6_SessionSplits_j1_S, Int.toNat_natCast]
      generalize ts.getD i 0 = v
      have hs' : ∀ (t : Int), ((all ++ [((0 : Int), t, ((i + 1 : Nat) : Int), (1 : Int))]).map fun x => x.2.2.1) = (List.range (i + 1)).map (fun (j : Nat) => (j : Int) + 1) := fun t => by
        rw [List.range_succ]
        simp only [List.map_append, hs, List.map_cons, List.map_nil]
        rfl
      generalize Go.IntKind.i64.wrap (((BitVec.ofInt Go.IntKind.i64.bits (Int.fdiv v (2 ^ Min.min (Int.toNat 6) Go.IntKind.i64.bits)) &&& BitVec.ofInt Go.IntKind.i64.bits 1).toNat : Nat) : Int) = w
      cases hw : (w == (1 : Int)) with
      | true =>
        simp only [cond_true]
        rw [if_pos (by omega), if_pos (by omega), wrapOK (x := v % 64 + 1000) (by omega) (by omega)]
        refine ih m (i + 1) xs (ys ++ [_]) _ (by omega) (by omega) (by omega) hx ?_ ?_ (hs' _)
        · intro x h
          rcases List.mem_append.1 h with h | h
          · exact hy x h
          · rw [List.mem_singleton.1 h]
            exact ⟨⟨item_ok (by omega) (by omega) (by omega) (by omega) (by omega) (by omega), rfl⟩, by show (1000 : Int) ≤ v % 64 + 1000; omega⟩
        · rw [← List.append_assoc]; exact hp.append_right _
      | false =>
        simp only [cond_false]
        rw [if_pos (by omega), if_pos (by omega)]
        refine ih m (i + 1) (xs ++ [_]) ys _ (by omega) (by omega) (by omega) ?_ hy ?_ (hs' _)
        · intro x h
          rcases List.mem_append.1 h with h | h
          · exact hx x h
          · rw [List.mem_singleton.1 h]
            exact ⟨⟨item_ok (by omega) (by omega) (by omega) (by omega) (by omega) (by omega), rfl⟩, by show v % 64 ≤ (63 : Int); omega⟩
        · refine (hp.append_right _).trans ?_
          rw [List.append_assoc, List.append_assoc]
          exact List.Perm.append_left _ List.perm_append_comm
    · obtain ⟨a, b, f1, f2, f3, f4, f5, f6, f7⟩ := fin i xs ys all (by omega) hx hy hp hs
      simp only [mask15, gap15, nl, f1, f2, f3, f4, f5, f6, h1, decide_false, cond_false, Option.bind_some, bournelaw0_Num, beq_self_eq_true, cond_true]
      rw [if_pos (by omega)]
theorem Splits_true (n : Nat) (hn : 200 ≤ n) (ts : List Int) (gap : Int) : bournelaw6_SessionSplits n ts gap = some true := by
  rw [bournelaw6_SessionSplits_S, awake_eq]
  simp only [Option.bind_some, Bool.not_true, cond_false, nl]
  exact Splits_l0 n hn ts gap 24 n 0 [] [] [] rfl (by omega) (by omega) (by simp) (by simp) (List.Perm.refl _) rfl
end Go.Proofs.Ytoffmcfaeolcjaa
