/- SessionForms: true at every input. -/
import Derived.Test.YtoffmcfaeolcjaaQP8
namespace Go.Proofs.Ytoffmcfaeolcjaa
open Go Go.Ev
set_option linter.unusedVariables false
set_option linter.unusedSimpArgs false

def fa : AC := (1, 5, 5, 5, (0, 10, 1, 5), (0, 10, 1, 5), [1])
def fb : AC := (1, 6, 6, 6, (0, 20, 2, 6), (0, 20, 2, 6), [1])
theorem forms_add : addS [] 3 [] [(0, 10, 1, 5), (0, 20, 2, 6)] = ([(10, 10, fa), (20, 20, fb)], 0) := by kernel_rfl
theorem forms_may : sesMay [(10, 10, fa), (20, 20, fb)] 3 [] = true := by decide +kernel
theorem fa_may : accMay fa [] = true := by decide +kernel
theorem fb_may : accMay fb [] = true := by decide +kernel
theorem forms_j0 (n : Nat) (hn : 200 ≤ n) (r6 : IT) (gap : Int) (raw : Bool) (ss : List SE) (a b c : Int) (hl : ss.length ≤ 10) (h1 : sesMay ss gap [] = !raw) (h2 : raw = false → sesOne ss [(a, b, c, r6.2.2.2)] = false) :
    bournelaw6_SessionForms_j0 n c45.F c46.F c37.F c17.F c41.F r6 gap raw ss a b c = some true := by
  rw [bournelaw6_SessionForms_j0_S]
  have ha : addS ss gap [] [(a, b, c, r6.2.2.2)] = ([], 600) := by
    unfold addS
    rw [if_neg]
    rintro ⟨h3, h4⟩
    cases raw with
    | true => rw [h1] at h3; cases h3
    | false => rw [h2 rfl] at h4; cases h4
  simp only [nl, set1]
  rw [Add_eq n (by omega) ss gap [] _ (by simp only [List.length_cons, List.length_nil]; omega) (by simp only [List.length_cons, List.length_nil]; omega), ha, sMay_eq n (by omega) ss gap [] (by omega) (by omega), h1]
  simp [bournelaw0_Num]
theorem Forms_true (n : Nat) (hn : 200 ≤ n) (which x : Int) : bournelaw6_SessionForms n which x = some true := by
  rw [bournelaw6_SessionForms_S, awake_eq]
  have e2 (x y : IT) : ((List.replicate 2 ((0 : Int), (0 : Int), (0 : Int), (0 : Int))).set 0 x).set 1 y = [x, y] := rfl
  have e3 (x : SE) : (List.replicate 1 ((0 : Int), (0 : Int), (0 : Int), (0 : Int), (0 : Int), (0 : Int), ((0 : Int), (0 : Int), (0 : Int), (0 : Int)), ((0 : Int), (0 : Int), (0 : Int), (0 : Int)), ([] : List Int))).set 0 x = [x] := rfl
  have hA : session_Add n [] 3 [] [(0, 10, 1, 5), (0, 20, 2, 6)] = some ([(10, 10, fa), (20, 20, fb)], 0) := by rw [Add_eq n (by omega) _ _ _ _ (by decide) (by simp only [List.length_cons, List.length_nil]; omega), forms_add]
  have hM : session_May n [(10, 10, fa), (20, 20, fb)] 3 [] = some true := by rw [sMay_eq n (by omega) _ _ _ (by decide) (by simp only [List.length_cons, List.length_nil]; omega), forms_may]
  simp only [Option.bind_some, Bool.not_true, cond_false, nl, bournelaw6_item, mask1023, e2, hA, hM, bournelaw0_Num, bne_self_eq_false]
  rw [wrapOK (x := 1 + x % 1024) (by omega) (by omega)]
  generalize hd : 1 + x % 1024 = d
  have hd1 : 1 ≤ d ∧ d ≤ 1024 := by omega
  have hl : (((([(10, 10, fa), (20, 20, fb)] : List SE).length : Nat) : Int) != 2) = false := rfl
  have w1 : Go.IntKind.i64.wrap (1 - d) = 1 - d := wrapOK (by omega) (by omega)
  have w2 : Go.IntKind.i64.wrap (1073741824 + d) = 1073741824 + d := wrapOK (by omega) (by omega)
  have w3 : Go.IntKind.i64.wrap (10 - d) = 10 - d := wrapOK (by omega) (by omega)
  have w4 : Go.IntKind.i64.wrap (20 + d) = 20 + d := wrapOK (by omega) (by omega)
  have w5 : Go.IntKind.i64.wrap (1 + d) = 1 + d := wrapOK (by omega) (by omega)
  have w6 : Go.IntKind.i64.wrap (1099511627776 + d) = 1099511627776 + d := wrapOK (by omega) (by omega)
  have i0 : (0 : Int) ≤ 0 ∧ (0 : Int) < ((([(10, 10, fa), (20, 20, fb)] : List SE).length : Nat) : Int) := by decide
  have i1 : (0 : Int) ≤ 1 ∧ (1 : Int) < ((([(10, 10, fa), (20, 20, fb)] : List SE).length : Nat) : Int) := by decide
  have t1 : Int.toNat 1 = 1 := rfl
  have t0 : Int.toNat 0 = 0 := rfl
  simp only [hl, cond_false, w1, w2, w3, w4, w5, w6, if_pos i0, if_pos i1, t0, t1]
  have g3 : gapMay 3 = true := rfl
  generalize (Go.IntKind.u64.wrap which).tmod 10 = k
  cases (k == 0)
  case true =>
    refine forms_j0 n hn _ _ true _ _ _ _ (by decide) ?_ (fun h => by cases h)
    have : gapMay (1 - d) = false := by simp only [gapMay, Bool.and_eq_false_iff, decide_eq_false_iff_not]; omega
    simp [sesMay, this]
  cases (k == 1)
  case true =>
    refine forms_j0 n hn _ _ true _ _ _ _ (by decide) ?_ (fun h => by cases h)
    have : gapMay (1073741824 + d) = false := by simp only [gapMay, Bool.and_eq_false_iff, decide_eq_false_iff_not]; omega
    simp [sesMay, this]
  cases (k == 2)
  case true =>
    refine forms_j0 n hn _ _ true _ _ _ _ (by rw [List.length_set]; decide) ?_ (fun h => by cases h)
    have hne : ((10 - d) != 10) = true := by simp; omega
    show (gapMay 3 && (boundsMay [] && (accMay fa [] && (!(fa.1 == 0) && (!((10 - d) != 10) && _))))) = false
    rw [hne]; simp
  cases (k == 3)
  case true =>
    refine forms_j0 n hn _ _ true _ _ _ _ (by rw [List.length_set]; decide) ?_ (fun h => by cases h)
    have hne : ((20 + d) != 20) = true := by simp; omega
    show (gapMay 3 && (boundsMay [] && (accMay fa [] && (!(fa.1 == 0) && (!((10 : Int) != 10) && (!((10 : Int) != 10) && (!((0 : Int) != 0) && (true && (accMay fb [] && (!(fb.1 == 0) && (!((20 : Int) != 20) && (!((20 + d) != 20) && _)))))))))))) = false
    rw [hne]; simp
  cases (k == 4)
  case true =>
    refine forms_j0 n hn _ _ true _ _ _ _ (by rw [List.length_set]; decide) ?_ (fun h => by cases h)
    have hne : accMay (1 + d, 5, 5, 5, (0, 10, 1, 5), (0, 10, 1, 5), [1]) [] = false := by
      have : histMay (1 + d, 5, 5, 5, (0, 10, 1, 5), (0, 10, 1, 5), [1]) [] = false := by
        have : ¬ ((1 : Int) = 1 + d) := by omega
        simp [histMay, this]
      simp [accMay, this]
    show (gapMay 3 && (boundsMay [] && (accMay (1 + d, 5, 5, 5, (0, 10, 1, 5), (0, 10, 1, 5), [1]) [] && _))) = false
    rw [hne]; simp
  cases (k == 5)
  case true =>
    refine forms_j0 n hn _ _ true _ _ _ _ (by decide) ?_ (fun h => by cases h)
    decide +kernel
  cases (k == 6)
  case true =>
    simp only [cond_true]
    rw [if_pos (by decide)]
    refine forms_j0 n hn _ _ true _ _ _ _ (by decide) ?_ (fun h => by cases h)
    decide +kernel
  cases (k == 7)
  case true =>
    exact forms_j0 n hn _ _ false _ _ _ _ (by decide) forms_may (fun _ => by decide +kernel)
  cases (k == 8)
  case true =>
    refine forms_j0 n hn _ _ false _ _ _ _ (by decide) forms_may (fun _ => ?_)
    have : itemMay ((0 : Int), 1099511627776 + d, (3 : Int), (1 : Int)) = false := by
      have : inV (1099511627776 + d) = false := by simp only [inV, decide_eq_false_iff_not]; omega
      simp [itemMay, this]
    simp [sesOne, oneFrom, this]
  case false =>
    refine forms_j0 n hn _ _ false _ _ _ _ (by decide) forms_may (fun _ => ?_)
    have : itemMay ((0 : Int), (15 : Int), 1 - d, (1 : Int)) = false := by
      have : ¬ (1 ≤ 1 - d) := by omega
      simp [itemMay, this]
    simp [sesOne, oneFrom, this]
end Go.Proofs.Ytoffmcfaeolcjaa
