/- SessionRows: true at every input. -/
import Derived.Test.YtoffmcfaeolcjaaQP8
namespace Go.Proofs.Ytoffmcfaeolcjaa
open Go Go.Ev
set_option linter.unusedVariables false
set_option linter.unusedSimpArgs false

theorem gap31 (gap : Int) : Go.IntKind.i64.wrap (1 + gap % 32) = 1 + gap % 32 := wrapOK (by omega) (by omega)
def nxt (at_ : Int) (v : Int) (x : IT) : Int := if x.2.1 > at_ then (if x.2.1 < v then x.2.1 else v) else v
theorem nxt_fold (at_ : Int) : ∀ (xs : List IT) (v : Int), xs.foldl (nxt at_) v ≤ v ∧ (∀ x ∈ xs, at_ < x.2.1 → xs.foldl (nxt at_) v ≤ x.2.1) ∧ (xs.foldl (nxt at_) v = v ∨ ∃ x ∈ xs, at_ < x.2.1 ∧ xs.foldl (nxt at_) v = x.2.1)
  | [], v => by simp
  | y :: xs, v => by
    obtain ⟨h1, h2, h3⟩ := nxt_fold at_ xs (nxt at_ v y)
    rw [List.foldl_cons]
    have e1 : nxt at_ v y ≤ v := by unfold nxt; split <;> (try split) <;> omega
    have e2 : at_ < y.2.1 → nxt at_ v y ≤ y.2.1 := by intro h; unfold nxt; split <;> (try split) <;> omega
    refine ⟨by omega, fun x hx hat => ?_, ?_⟩
    · rcases List.mem_cons.1 hx with rfl | hx
      · have := e2 hat; omega
      · exact h2 x hx hat
    · rcases h3 with h3 | ⟨x, hx, h4, h5⟩
      · by_cases c : nxt at_ v y = v
        · left; rw [h3, c]
        · right
          refine ⟨y, List.mem_cons_self, ?_, ?_⟩
          · unfold nxt at c; split at c
            · assumption
            · exact absurd rfl c
          · rw [h3]; unfold nxt at c ⊢
            split at c
            · rename_i c1
              rw [if_pos c1]
              split at c
              · rename_i c2; rw [if_pos c2]
              · exact absurd rfl c
            · exact absurd rfl c
      · exact Or.inr ⟨x, List.mem_cons_of_mem _ hx, h4, h5⟩
theorem Rows_l4 (n : Nat) (hn : 200 ≤ n) (g : Int) (xs : List IT) (a : List SE) (many i at_ : Int) (hk : xs.length ≤ 30) (ih3) : ∀ (k m j : Nat) (v : Int), j + k = xs.length → k < m →
    bournelaw6_SessionRows_l4 n c45.F c46.F c37.F c17.F c39.F c41.F g (xs.length : Int) many i at_ xs a ih3 m v (j : Int) =
      (bif Decidable.decide (Go.IntKind.i64.wrap ((xs.drop j).foldl (nxt at_) v - at_) ≥ g) then some false else if 0 ≤ i ∧ i < (a.length : Int) then bif Decidable.decide ((xs.drop j).foldl (nxt at_) v > (a.getD i.toNat SE0).2.1) then some false else ih3 g (xs.length : Int) many i ((xs.drop j).foldl (nxt at_) v) xs a else none) := by
  intro k
  induction k with
  | zero =>
    intro m j v hj hm
    obtain ⟨m, rfl, hm⟩ := sucM hm
    have e : xs.drop j = [] := List.drop_eq_nil_of_le (by omega)
    have h1 : ¬ ((j : Int) < (xs.length : Int)) := by omega
    rw [bournelaw6_SessionRows_l4_S, e]
    simp only [h1, decide_false, cond_false, List.foldl_nil]
    rfl
  | succ k ih =>
    intro m j v hj hm
    obtain ⟨m, rfl, hm⟩ := sucM hm
    have hlt : j < xs.length := by omega
    have h1 : ((j : Int) < (xs.length : Int)) := by omega
    have h2 : (0 : Int) ≤ (j : Int) := by omega
    rw [bournelaw6_SessionRows_l4_S, dropLt hlt]
    simp only [h1, h2, and_self, if_true, decide_true, cond_true, Int.toNat_natCast, getLt hlt, bournelaw6_SessionRows_j5_S, wrapS (i := j) (by omega), List.foldl_cons]
    by_cases c : xs[j].2.1 > at_
    · have e : nxt at_ v xs[j] = (if xs[j].2.1 < v then xs[j].2.1 else v) := if_pos c
      simp only [c, decide_true, cond_true]
      rw [← e]
      exact ih m (j + 1) _ (by omega) (by omega)
    · have e : nxt at_ v xs[j] = v := if_neg c
      simp only [c, decide_false, cond_false]
      refine Eq.trans ?_ (ih m (j + 1) (nxt at_ v xs[j]) (by omega) (by omega))
      rw [e]
theorem Rows_l3 (n : Nat) (hn : 200 ≤ n) (g : Int) (hg : 0 < g) (xs : List IT) (hk : xs.length ≤ 30) (ht : ∀ x ∈ xs, -500 ≤ x.2.1 ∧ x.2.1 ≤ 523) (L : List SP) (hL : IsL [] 7 g L xs) (many : Int) (i : Nat) (hi : i < L.length) (ih2) :
    ∀ (k m : Nat) (at_ : Int), (∃ y ∈ (L[i]).2, y.2.1 = at_) → ((L[i]).1.2.1 - at_).toNat ≤ k → k < m →
    bournelaw6_SessionRows_l3 n c45.F c46.F c37.F c17.F c39.F c41.F ih2 m g (xs.length : Int) many (i : Int) at_ xs (L.map (·.1)) = ih2 g (xs.length : Int) many (Go.IntKind.i64.wrap ((i : Int) + 1)) xs (L.map (·.1)) := by
  obtain ⟨hp, hok, hap⟩ := hL
  have hz := hok _ (List.getElem_mem hi)
  have hlen : (L.map (·.1)).length = L.length := List.length_map _
  have h1 : ((i : Int) < ((L.map (·.1)).length : Int)) := by omega
  have h2 : (0 : Int) ≤ (i : Int) := by omega
  have hget : (L.map (·.1)).getD i SE0 = (L[i]).1 := by rw [getLt (by omega)]; simp
  have mX : ∀ z ∈ L, ∀ y ∈ z.2, y ∈ xs := fun z hz y hy => hp.mem_iff.1 (List.mem_flatten.2 ⟨z.2, List.mem_map.2 ⟨z, hz, rfl⟩, hy⟩)
  have hl : -500 ≤ (L[i]).1.2.1 ∧ (L[i]).1.2.1 ≤ 523 := by
    obtain ⟨y, hy, ey⟩ := hz.last_mem
    have := ht y (mX _ (List.getElem_mem hi) y hy); omega
  have hd : ∀ j, (L.map (·.1)).getD j ((0 : Int), (0 : Int), (0 : Int), (0 : Int), (0 : Int), (0 : Int), ((0 : Int), (0 : Int), (0 : Int), (0 : Int)), ((0 : Int), (0 : Int), (0 : Int), (0 : Int)), Go.Ev.nl Int) = (L.map (·.1)).getD j SE0 := fun _ => rfl
  intro k
  induction k with
  | zero =>
    intro m at_ hat hk0 hm
    obtain ⟨m, rfl, hm⟩ := sucM hm
    rw [bournelaw6_SessionRows_l3_S]
    have c : ¬ at_ < (L[i]).1.2.1 := by omega
    simp only [h1, h2, and_self, if_true, Int.toNat_natCast, hd, hget, c, decide_false, cond_false]
  | succ k ih =>
    intro m at_ hat hk0 hm
    obtain ⟨m, rfl, hm⟩ := sucM hm
    rw [bournelaw6_SessionRows_l3_S]
    by_cases c : at_ < (L[i]).1.2.1
    · simp only [h1, h2, and_self, if_true, Int.toNat_natCast, hd, hget, c, decide_true, cond_true]
      rw [wrapOK (x := (L[i]).1.2.1 + 1) (by omega) (by omega)]
      have l4 := Rows_l4 n hn g xs (L.map (·.1)) many (i : Int) at_ hk (bournelaw6_SessionRows_l3 n c45.F c46.F c37.F c17.F c39.F c41.F ih2 m) xs.length n 0 ((L[i]).1.2.1 + 1) (by omega) (by omega)
      simp only [Int.cast_ofNat_Int, List.drop_zero, Int.toNat_natCast, hget, h1, h2, and_self, if_true] at l4
      rw [l4]
      obtain ⟨f1, f2, f3⟩ := nxt_fold at_ xs ((L[i]).1.2.1 + 1)
      generalize List.foldl (nxt at_) ((L[i]).1.2.1 + 1) xs = v at f1 f2 f3 ⊢
      obtain ⟨y, hy, ey⟩ := hat
      obtain ⟨l, hl', el⟩ := hz.last_mem
      obtain ⟨b, hb, b1, b2⟩ := hz.conn y hy ⟨l, hl', by omega⟩
      have vb := f2 b (mX _ (List.getElem_mem hi) b hb) (by omega)
      have bl := hz.last_le b hb
      rcases f3 with f3 | ⟨x, hx, f4, f5⟩
      · omega
      · have yt := ht y (mX _ (List.getElem_mem hi) y hy)
        rw [wrapOK (by omega) (by omega)]
        have d1 : ¬ v - at_ ≥ g := by omega
        have d2 : ¬ v > (L[i]).1.2.1 := by omega
        simp only [d1, d2, decide_false, cond_false]
        refine ih m v ?_ (by omega) (by omega)
        have := hp.mem_iff.2 hx
        obtain ⟨q, hq, hxq⟩ := List.mem_flatten.1 this
        obtain ⟨w, hw, rfl⟩ := List.mem_map.1 hq
        rcases pairMem hap _ (List.getElem_mem hi) w hw with e | r | r
        · exact ⟨x, by rw [e]; exact hxq, f5.symm⟩
        · exfalso
          have := r b hb x hxq; omega
        · exfalso
          have := r x hxq y hy; omega
    · simp only [h1, h2, and_self, if_true, Int.toNat_natCast, hd, hget, c, decide_false, cond_false]
theorem Rows_l2 (n : Nat) (hn : 3000 ≤ n) (g : Int) (hg : 0 < g) (xs : List IT) (hk : xs.length ≤ 30) (ht : ∀ x ∈ xs, -500 ≤ x.2.1 ∧ x.2.1 ≤ 523) (L : List SP) (hL : IsL [] 7 g L xs) :
    ∀ (k m i : Nat) (many : Int), i + k = L.length → k < m → 0 ≤ many → many + (((L.drop i).map (·.2)).flatten.length : Nat) = xs.length →
    bournelaw6_SessionRows_l2 n c45.F c46.F c37.F c17.F c39.F c41.F m g (xs.length : Int) many (i : Int) xs (L.map (·.1)) = some true := by
  have hlen : (L.map (·.1)).length = L.length := List.length_map _
  have hd : ∀ j, (L.map (·.1)).getD j ((0 : Int), (0 : Int), (0 : Int), (0 : Int), (0 : Int), (0 : Int), ((0 : Int), (0 : Int), (0 : Int), (0 : Int)), ((0 : Int), (0 : Int), (0 : Int), (0 : Int)), Go.Ev.nl Int) = (L.map (·.1)).getD j SE0 := fun _ => rfl
  have hLn : L.length ≤ 30 := by
    have := len_flat hL.2.1; have := hL.1.length_eq; omega
  intro k
  induction k with
  | zero =>
    intro m i many hi hm h0 hs
    obtain ⟨m, rfl, hm⟩ := sucM hm
    have h1 : ¬ ((i : Int) < ((L.map (·.1)).length : Int)) := by omega
    have e : L.drop i = [] := List.drop_eq_nil_of_le (by omega)
    rw [e] at hs
    simp only [List.map_nil, List.flatten_nil, List.length_nil] at hs
    rw [bournelaw6_SessionRows_l2_S]
    simp only [h1, decide_false, cond_false]
    have : many = (xs.length : Int) := by omega
    simp [this]
  | succ k ih =>
    intro m i many hi hm h0 hs
    obtain ⟨m, rfl, hm⟩ := sucM hm
    have hlt : i < L.length := by omega
    have h1 : ((i : Int) < ((L.map (·.1)).length : Int)) := by omega
    have h2 : (0 : Int) ≤ (i : Int) := by omega
    have hget : (L.map (·.1)).getD i SE0 = (L[i]).1 := by rw [getLt (by omega)]; simp
    have hz := hL.2.1 _ (List.getElem_mem hlt)
    have mX : ∀ z ∈ L, ∀ y ∈ z.2, y ∈ xs := fun z hz y hy => hL.1.mem_iff.1 (List.mem_flatten.2 ⟨z.2, List.mem_map.2 ⟨z, hz, rfl⟩, hy⟩)
    rw [dropLt hlt, List.map_cons, List.flatten_cons, List.length_append] at hs
    rw [bournelaw6_SessionRows_l2_S]
    simp only [h1, h2, and_self, if_true, decide_true, cond_true, Int.toNat_natCast, hd, hget]
    have ec := hz.pc.is.cnt
    rw [wrapOK (x := many + _) (by omega) (by omega)]
    obtain ⟨f, hf, ef⟩ := hz.first_mem
    have ft := ht f (mX _ (List.getElem_mem hlt) f hf)
    have lt : (L[i]).1.2.1 ≤ 523 := by
      obtain ⟨y, hy, ey⟩ := hz.last_mem
      have := ht y (mX _ (List.getElem_mem hlt) y hy); omega
    rw [Rows_l3 n (by omega) g hg xs hk ht L hL _ i hlt _ 2000 n (L[i]).1.1 ⟨f, hf, ef⟩ (by omega) (by omega), wrapS (by omega)]
    exact ih m (i + 1) _ (by omega) (by omega) (by omega) (by omega)
theorem Rows_l1 (n : Nat) (hn : 3000 ≤ n) (ts : List Int) (gap : Int) (xs : List IT) (hk : xs.length ≤ 30) (hk2 : (if 30 < (ts.length : Int) then 30 else (ts.length : Int)) = (xs.length : Int)) (hx : ∀ x ∈ xs, (itemMay x = true ∧ x.1 = 7) ∧ -500 ≤ x.2.1 ∧ x.2.1 ≤ 523) (hs : (xs.map fun x => x.2.2.1).Nodup) :
    ∀ (j m : Nat), j ≤ xs.length → j < m → bournelaw6_SessionRows_l1 n c45.F c46.F c37.F c17.F c39.F c41.F ts gap xs m ((j : Int) - 1) (xs.drop j).reverse = some true := by
  have hg : gapMay (1 + gap % 32) = true := by simp only [gapMay, Bool.and_eq_true, decide_eq_true_eq]; omega
  intro j
  induction j with
  | zero =>
    intro m hj hm
    obtain ⟨m, rfl, hm⟩ := sucM hm
    obtain ⟨a, ha, ia⟩ := add_run (n := n) (X := []) (xs := xs) (by omega) hg (Is.nil [] 7 _) (fun x h => (hx x h).1) (by simp only [List.length_nil]; omega)
    obtain ⟨b, hb, ib⟩ := add_run (n := n) (X := []) (xs := xs.reverse) (by omega) hg (Is.nil [] 7 _) (fun x h => (hx x (List.mem_reverse.1 h)).1) (by simp only [List.length_nil, List.length_reverse]; omega)
    rw [List.append_nil] at ia ib
    have e := is_uniq hg ia ib (List.reverse_perm xs).symm hs
    subst e
    have la := ia.len
    have f1 := SameSes_refl n a (by omega) (by omega) (fun s h => by rw [ia.hist s h]; decide) (by omega)
    have f2 : session_May n a (1 + gap % 32) [] = some true := by rw [sMay_eq n (by omega) a _ [] (by omega) (by omega), ia.may bnd0 hg]
    have h0 : ¬ ((((0 : Nat) : Int) - 1) ≥ 0) := by omega
    rw [bournelaw6_SessionRows_l1_S]
    simp only [h0, decide_false, cond_false, mask31, gap31, nl, List.drop_zero, ha, hb, Option.bind_some, bournelaw0_Num, bne_self_eq_false, f1, f2, Bool.not_true, hk2]
    obtain ⟨L, rfl, hL⟩ := ia
    exact Rows_l2 n hn (1 + gap % 32) (by omega) xs hk (fun x h => (hx x h).2) L hL L.length n 0 0 (by omega) (by rw [List.length_map] at la; omega) (by omega) (by rw [List.drop_zero, hL.1.length_eq]; omega)
  | succ j ih =>
    intro m hj hm
    obtain ⟨m, rfl, hm⟩ := sucM hm
    have hlt : j < xs.length := by omega
    have e0 : (((j + 1 : Nat) : Int) - 1) = (j : Int) := by omega
    have h0 : (j : Int) ≥ 0 := by omega
    have h1 : (j : Int) < (xs.length : Int) := by omega
    have h2 : (0 : Int) ≤ (j : Int) := by omega
    rw [e0, bournelaw6_SessionRows_l1_S]
    simp only [h0, h1, h2, and_self, if_true, decide_true, cond_true, Int.toNat_natCast, getLt hlt, set1]
    rw [if_pos (by simp only [List.length_reverse, List.length_drop, List.length_cons, List.length_nil]; omega), wrapOK (x := (j : Int) - 1) (by omega) (by omega)]
    have e1 : (xs.drop (j + 1)).reverse ++ [xs[j]] = (xs.drop j).reverse := by rw [dropLt hlt, List.reverse_cons]
    rw [e1]
    exact ih m (by omega) (by omega)
theorem Rows_l0 (n : Nat) (hn : 3000 ≤ n) (ts : List Int) (gap : Int) : ∀ (k m i : Nat) (xs : List IT), i + k = min ts.length 30 → k < m →
    (∀ x ∈ xs, (itemMay x = true ∧ x.1 = 7) ∧ -500 ≤ x.2.1 ∧ x.2.1 ≤ 523) → (xs.map fun x => x.2.2.1) = (List.range i).map (fun (j : Nat) => (j : Int) + 1) →
    bournelaw6_SessionRows_l0 n c45.F c46.F c37.F c17.F c39.F c41.F ts gap m (i : Int) xs = some true := by
  have hK : (if 30 < (ts.length : Int) then 30 else (ts.length : Int)) = ((min ts.length 30 : Nat) : Int) := by split <;> omega
  intro k
  induction k with
  | zero =>
    intro m i xs hi hm hx hs
    obtain ⟨m, rfl, hm⟩ := sucM hm
    have hxl : xs.length = i := by have := congrArg List.length hs; simpa using this
    have h1 : ¬ ((i : Int) < ((min ts.length 30 : Nat) : Int)) := by omega
    have hnd : (xs.map fun x => x.2.2.1).Nodup := by
      rw [hs]
      exact List.Pairwise.map _ (fun a b hab e => hab (by omega)) List.nodup_range
    rw [bournelaw6_SessionRows_l0_S]
    simp only [hK, h1, decide_false, cond_false, nl]
    have e : xs.drop xs.length = [] := List.drop_length
    have r := Rows_l1 n hn ts gap xs (by omega) (by rw [hK]; omega) hx hnd xs.length n (Nat.le_refl _) (by omega)
    rw [e] at r
    rw [wrapOK (by omega) (by omega), show ((min ts.length 30 : Nat) : Int) = (xs.length : Int) by omega]
    exact r
  | succ k ih =>
    intro m i xs hi hm hx hs
    obtain ⟨m, rfl, hm⟩ := sucM hm
    have hxl : xs.length = i := by have := congrArg List.length hs; simpa using this
    have h1 : ((i : Int) < ((min ts.length 30 : Nat) : Int)) := by omega
    have h2 : (0 : Int) ≤ (i : Int) ∧ (i : Int) < (ts.length : Int) := by omega
    rw [bournelaw6_SessionRows_l0_S]
    simp only [hK, h1, h2, and_self, if_true, decide_true, cond_true, bournelaw6_item, Option.bind_some, mask1023, set1, wrapS (i := i) (by omega), Int.toNat_natCast, List.length_cons, List.length_nil]
    generalize ts.getD i 0 = v
    rw [if_pos (by omega), wrapOK (x := v % 1024 - 500) (by omega) (by omega)]
    refine ih m (i + 1) _ (by omega) (by omega) ?_ ?_
    · intro x h
      rcases List.mem_append.1 h with h | h
      · exact hx x h
      · rw [List.mem_singleton.1 h]
        exact ⟨⟨item_ok (by omega) (by omega) (by omega) (by omega) (by omega) (by omega), rfl⟩, by show (-500 : Int) ≤ v % 1024 - 500; omega, by show v % 1024 - 500 ≤ (523 : Int); omega⟩
    · rw [List.range_succ]
      simp only [List.map_append, hs, List.map_cons, List.map_nil]
      rfl
theorem Rows_true (n : Nat) (hn : 3000 ≤ n) (ts : List Int) (gap : Int) : bournelaw6_SessionRows n ts gap = some true := by
  rw [bournelaw6_SessionRows_S, awake_eq]
  simp only [Option.bind_some, Bool.not_true, cond_false, nl]
  exact Rows_l0 n hn ts gap (min ts.length 30) n 0 [] (by omega) (by omega) (by simp) rfl
end Go.Proofs.Ytoffmcfaeolcjaa
