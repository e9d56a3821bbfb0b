/- SessionChain: true at every input. -/
import Derived.Test.YtoffmcfaeolcjaaQP8
namespace Go.Proofs.Ytoffmcfaeolcjaa
open Go Go.Ev
set_option linter.unusedVariables false
set_option linter.unusedSimpArgs false

structure Chain (g : Int) (Q0 : List (Int × List IT)) (f t : Int) (p xs : List IT) (firsts : List Int) : Prop where
  flat : xs = ((Q0 ++ [(f, p)]).map (·.2)).flatten
  fs : firsts = (Q0 ++ [(f, p)]).map (·.1)
  fi : ∀ q ∈ Q0 ++ [(f, p)], (∃ x ∈ q.2, x.2.1 = q.1) ∧ ∀ x ∈ q.2, q.1 ≤ x.2.1
  last : ∃ x ∈ p, x.2.1 = t
  le : ∀ x ∈ xs, x.2.1 ≤ t
  ok : ∀ x ∈ xs, itemMay x = true ∧ x.1 = 3
  conn : ∀ q ∈ Q0 ++ [(f, p)], Conn g q.2
  ap : (Q0 ++ [(f, p)]).Pairwise fun z w => Apart g z.2 w.2
theorem Chain.mem {g : Int} {Q0 : List (Int × List IT)} {f t : Int} {p xs : List IT} {firsts : List Int} (h : Chain g Q0 f t p xs firsts) {q : Int × List IT} (hq : q ∈ Q0 ++ [(f, p)]) {x : IT} (hx : x ∈ q.2) : x ∈ xs := by
  rw [h.flat]; exact List.mem_flatten.2 ⟨q.2, List.mem_map.2 ⟨q, hq, rfl⟩, hx⟩
theorem Chain.new {g : Int} {Q0 : List (Int × List IT)} {f t : Int} {p xs : List IT} {firsts : List Int} (h : Chain g Q0 f t p xs firsts) {x : IT} (hx : itemMay x = true ∧ x.1 = 3) (ht : t + g ≤ x.2.1) (hg : 0 < g) : Chain g (Q0 ++ [(f, p)]) x.2.1 x.2.1 [x] (xs ++ [x]) (firsts ++ [x.2.1]) where
  flat := by rw [h.flat]; simp
  fs := by rw [h.fs]; simp
  fi := fun q hq => by
    rcases List.mem_append.1 hq with hq | hq
    · exact h.fi q hq
    · rw [List.mem_singleton.1 hq]; simp
  last := ⟨x, List.mem_singleton.2 rfl, rfl⟩
  le := fun y hy => by
    rcases List.mem_append.1 hy with hy | hy
    · have := h.le y hy; omega
    · rw [List.mem_singleton.1 hy]; omega
  ok := fun y hy => by
    rcases List.mem_append.1 hy with hy | hy
    · exact h.ok y hy
    · rw [List.mem_singleton.1 hy]; exact hx
  conn := fun q hq => by
    rcases List.mem_append.1 hq with hq | hq
    · exact h.conn q hq
    · rw [List.mem_singleton.1 hq]
      intro a ha ⟨b, hb, hab⟩
      rw [List.mem_singleton.1 ha, List.mem_singleton.1 hb] at hab
      omega
  ap := List.pairwise_append.2 ⟨h.ap, List.pairwise_singleton _ _, fun z hz w hw y hy u hu => by
    rw [List.mem_singleton.1 hw] at hu
    rw [List.mem_singleton.1 hu]
    have := h.le y (h.mem hz hy)
    omega⟩
theorem Chain.ext {g : Int} {Q0 : List (Int × List IT)} {f t : Int} {p xs : List IT} {firsts : List Int} (h : Chain g Q0 f t p xs firsts) {x : IT} (hx : itemMay x = true ∧ x.1 = 3) (h0 : t ≤ x.2.1) (ht : x.2.1 < t + g) : Chain g Q0 f x.2.1 (p ++ [x]) (xs ++ [x]) firsts := by
  have mp : (f, p) ∈ Q0 ++ [(f, p)] := List.mem_append_right _ (List.mem_singleton.2 rfl)
  obtain ⟨l, hl, el⟩ := h.last
  obtain ⟨a0, -, a1⟩ := List.pairwise_append.1 h.ap
  constructor
  · rw [h.flat]; simp
  · rw [h.fs]; simp
  · intro q hq
    rcases List.mem_append.1 hq with hq | hq
    · exact h.fi q (List.mem_append_left _ hq)
    · rw [List.mem_singleton.1 hq]
      obtain ⟨⟨y, hy, ey⟩, hf⟩ := h.fi _ mp
      refine ⟨⟨y, List.mem_append_left _ hy, ey⟩, fun u hu => ?_⟩
      rcases List.mem_append.1 hu with hu | hu
      · exact hf u hu
      · rw [List.mem_singleton.1 hu]
        have := hf l hl
        simp only at this ⊢; omega
  · exact ⟨x, List.mem_append_right _ (List.mem_singleton.2 rfl), rfl⟩
  · intro y hy
    rcases List.mem_append.1 hy with hy | hy
    · have := h.le y hy; omega
    · rw [List.mem_singleton.1 hy]; omega
  · intro y hy
    rcases List.mem_append.1 hy with hy | hy
    · exact h.ok y hy
    · rw [List.mem_singleton.1 hy]; exact hx
  · intro q hq
    rcases List.mem_append.1 hq with hq | hq
    · exact h.conn q (List.mem_append_left _ hq)
    · rw [List.mem_singleton.1 hq]
      intro a ha ⟨b, hb, hab⟩
      simp only at ha hb ⊢
      rcases List.mem_append.1 ha with ha | ha
      · by_cases c : ∃ b ∈ p, a.2.1 < b.2.1
        · obtain ⟨d, hd, h1⟩ := h.conn _ mp a ha c
          exact ⟨d, List.mem_append_left _ hd, h1⟩
        · have hal := h.le a (h.mem mp ha)
          have : ¬ a.2.1 < t := fun cc => c ⟨l, hl, by omega⟩
          rcases List.mem_append.1 hb with hb | hb
          · exact absurd ⟨b, hb, hab⟩ c
          · rw [List.mem_singleton.1 hb] at hab
            exact ⟨x, List.mem_append_right _ (List.mem_singleton.2 rfl), hab, by omega⟩
      · rw [List.mem_singleton.1 ha] at hab
        rcases List.mem_append.1 hb with hb | hb
        · have := h.le b (h.mem mp hb); omega
        · rw [List.mem_singleton.1 hb] at hab; omega
  · refine List.pairwise_append.2 ⟨a0, List.pairwise_singleton _ _, fun z hz w hw y hy u hu => ?_⟩
    rw [List.mem_singleton.1 hw] at hu
    have r := a1 z hz (f, p) (List.mem_singleton.2 rfl)
    rcases List.mem_append.1 hu with hu | hu
    · exact r y hy u hu
    · rw [List.mem_singleton.1 hu]
      have := r y hy l hl; omega
theorem Chain_l2 (n : Nat) (L : List SP) (firsts : List Int) (g : Int) (hl : L.length ≤ 100) (hfl : firsts.length = L.length) (hok : ∀ z ∈ L, SOK [] 3 g z) (hF : ∀ (i : Nat) (h : i < L.length), (L[i]).1.1 = firsts.getD i 0) (hcap : (L.map (·.2)).flatten.length ≤ 1000) :
    ∀ (k m i : Nat), i + k = L.length → k < m → bournelaw6_SessionChain_l2 n c45.F c46.F c37.F c17.F (L.length : Int) firsts (L.map (·.1), 0) m ((((L.drop i).map (·.2)).flatten.length : Nat) : Int) (i : Int) = some true := by
  have hlen : (L.map (·.1)).length = L.length := List.length_map _
  have hd : ∀ j, (L.map (·.1)).getD j ((0 : Int), (0 : Int), (0 : Int), (0 : Int), (0 : Int), (0 : Int), ((0 : Int), (0 : Int), (0 : Int), (0 : Int)), ((0 : Int), (0 : Int), (0 : Int), (0 : Int)), Go.Ev.nl Int) = (L.map (·.1)).getD j SE0 := fun _ => rfl
  intro k
  induction k with
  | zero =>
    intro m i hi hm
    obtain ⟨m, rfl, hm⟩ := sucM hm
    have h1 : ¬ ((i : Int) < (L.length : Int)) := by omega
    have e : L.drop i = [] := List.drop_eq_nil_of_le (by omega)
    rw [bournelaw6_SessionChain_l2_S, e]
    simp only [h1, decide_false, cond_false]
    rfl
  | succ k ih =>
    intro m i hi hm
    obtain ⟨m, rfl, hm⟩ := sucM hm
    have hlt : i < L.length := by omega
    have h1 : ((i : Int) < (L.length : Int)) := by omega
    have h2 : (0 : Int) ≤ (i : Int) := by omega
    have h3 : ((i : Int) < ((L.map (·.1)).length : Int)) := by omega
    have h4 : ((i : Int) < (firsts.length : Int)) := by omega
    have hget : (L.map (·.1)).getD i SE0 = (L[i]).1 := by rw [getLt (by omega)]; simp
    have hz := hok _ (List.getElem_mem hlt)
    have ec := hz.pc.is.cnt
    have cap : ((L.drop (i + 1)).map (·.2)).flatten.length ≤ 1000 ∧ (L[i]).2.length ≤ 1000 := by
      have e := List.take_append_drop i L
      have : (L.map (·.2)).flatten.length = ((L.take i).map (·.2)).flatten.length + ((L.drop i).map (·.2)).flatten.length := by
        conv => lhs; rw [← e]
        rw [List.map_append, List.flatten_append, List.length_append]
      rw [dropLt hlt, List.map_cons, List.flatten_cons, List.length_append] at this
      omega
    rw [bournelaw6_SessionChain_l2_S]
    simp only [h1, h2, h3, h4, and_self, if_true, decide_true, cond_true, Int.toNat_natCast, hd, hget, hF i hlt, bne_self_eq_false, cond_false]
    rw [wrapS (i := i) (by omega), ec, dropLt hlt, List.map_cons, List.flatten_cons, List.length_append, wrapOK (by omega) (by omega)]
    rw [show (((L[i]).2.length + ((L.drop (i + 1)).map (·.2)).flatten.length : Nat) : Int) - ((L[i]).2.length : Int) = ((((L.drop (i + 1)).map (·.2)).flatten.length : Nat) : Int) by omega]
    exact ih m (i + 1) (by omega) (by omega)
theorem Chain_l3 (n : Nat) (want : Int) (firsts : List Int) (r : List SE × Int) : ∀ (m : Nat) (a b : Int), bournelaw6_SessionChain_l3 n c45.F c46.F c37.F c17.F want firsts r m a b = bournelaw6_SessionChain_l2 n c45.F c46.F c37.F c17.F want firsts r m a b := by
  intro m
  induction m with
  | zero => intro a b; rfl
  | succ m ih =>
    intro a b
    rw [bournelaw6_SessionChain_l3_S, bournelaw6_SessionChain_l2_S]
    simp only [ih]
theorem chain_end (n : Nat) (hn : 200 ≤ n) (g : Int) (hg : gapMay g = true) {Q0 : List (Int × List IT)} {f t : Int} {p xs : List IT} {firsts : List Int} (h : Chain g Q0 f t p xs firsts) (hl : xs.length ≤ 31) (hs : (xs.map fun x => x.2.2.1).Nodup) :
    ∃ ss, session_Add n [] g [] xs = some (ss, 0) ∧ ss.length = Q0.length + 1 ∧ (ss.getD Q0.length SE0).2.1 = t ∧ bournelaw6_SessionChain_l2 n c45.F c46.F c37.F c17.F ((Q0.length + 1 : Nat) : Int) firsts (ss, 0) n (xs.length : Int) 0 = some true := by
  obtain ⟨ss, h1, h2⟩ := add_run (n := n) (X := []) (xs := xs) hn hg (Is.nil [] 3 g) h.ok (by simp only [List.length_nil]; omega)
  rw [List.append_nil] at h2
  have hpair : ((Q0 ++ [(f, p)]).map (·.2)).Pairwise (Apart g) := List.pairwise_map.2 h.ap
  obtain ⟨L, rfl, hL, hok⟩ := is_parts bnd0 hg (ps := (Q0 ++ [(f, p)]).map (·.2)) (fun q hq => by
    obtain ⟨z, hz, rfl⟩ := List.mem_map.1 hq
    obtain ⟨⟨x, hx, -⟩, -⟩ := h.fi z hz
    refine ⟨List.ne_nil_of_mem hx, fun y hy => h.ok y (h.mem hz hy), ?_, h.conn z hz⟩
    have : z.2.length ≤ xs.length := by
      rw [h.flat]
      exact (List.sublist_flatten_of_mem (List.mem_map.2 ⟨z, hz, rfl⟩)).length_le
    omega) hpair h2 (by rw [← h.flat]) hs
  have hLl : L.length = Q0.length + 1 := by have := congrArg List.length hL; simpa using this
  have hLx : (L.map (·.2)).flatten.length = xs.length := by rw [hL, ← h.flat]
  have gi : ∀ (i : Nat) (hi : i < L.length), (L[i]).2 = ((Q0 ++ [(f, p)])[i]'(by simp; omega)).2 := fun i hi => by
    have : (L.map (·.2))[i]'(by simpa using hi) = ((Q0 ++ [(f, p)]).map (·.2))[i]'(by simp; omega) := by simp only [hL]
    rw [List.getElem_map, List.getElem_map] at this
    exact this
  have hlQ : L.length ≤ 31 := by have := len_flat hok; omega
  refine ⟨L.map (·.1), h1, by rw [List.length_map, hLl], ?_, ?_⟩
  · have hq : Q0.length < L.length := by omega
    rw [getLt (by rw [List.length_map]; exact hq)]
    have e2 : (L[Q0.length]).2 = p := by rw [gi _ hq]; simp
    have hz := hok _ (List.getElem_mem hq)
    obtain ⟨y, hy, ey⟩ := h.last
    obtain ⟨u, hu, eu⟩ := hz.last_mem
    have c1 := hz.last_le y (by rw [e2]; exact hy)
    rw [e2] at hu
    have c2 := h.le u (h.mem (q := (f, p)) (List.mem_append_right _ (List.mem_singleton.2 rfl)) hu)
    simp only [List.getElem_map]
    omega
  · have e : xs.length = ((L.drop 0).map (·.2)).flatten.length := by rw [List.drop_zero, hLx]
    rw [← hLl, e]
    have hfl : firsts.length = L.length := by rw [h.fs, hLl]; simp
    refine Chain_l2 n L firsts g (by omega) hfl hok (fun i hi => ?_) (by omega) L.length n 0 (by omega) (by omega)
    have hz := hok _ (List.getElem_mem hi)
    have hi' : i < (Q0 ++ [(f, p)]).length := by simp; omega
    have hq : (Q0 ++ [(f, p)])[i] ∈ Q0 ++ [(f, p)] := List.getElem_mem hi'
    obtain ⟨⟨x, hx, ex⟩, hmin⟩ := h.fi _ hq
    rw [← gi i hi] at hx
    obtain ⟨y, hy, ey⟩ := hz.first_mem
    have c1 := hz.first_le x hx
    rw [gi i hi] at hy
    have c2 := hmin y hy
    have : firsts.getD i 0 = ((Q0 ++ [(f, p)])[i]).1 := by
      rw [getLt (by omega)]
      simp only [h.fs, List.getElem_map]
    rw [this]; omega
theorem set1i (x : Int) : (List.replicate 1 (0 : Int)).set 0 x = [x] := rfl
theorem Chain_l0 (n : Nat) (hn : 200 ≤ n) (ts : List Int) (gap : Int) : ∀ (k m i : Nat) (Q0 : List (Int × List IT)) (f t : Int) (p xs : List IT) (firsts : List Int), i + k = 30 → k < m → i ≤ ts.length → Chain (1 + gap % 16) Q0 f t p xs firsts → 0 ≤ t → t ≤ 31 * i →
    (xs.map fun x => x.2.2.1) = (List.range (i + 1)).map (fun (j : Nat) => (j : Int) + 1) → firsts.length ≤ i + 1 →
    bournelaw6_SessionChain_l0 n c45.F c46.F c37.F c17.F ts gap m t ((Q0.length + 1 : Nat) : Int) (xs.length : Int) (i : Int) xs firsts = some true := by
  have hg : gapMay (1 + gap % 16) = true := by simp only [gapMay, Bool.and_eq_true, decide_eq_true_eq]; omega
  have hd : ∀ (ss : List SE) (j : Nat), ss.getD j ((0 : Int), (0 : Int), (0 : Int), (0 : Int), (0 : Int), (0 : Int), ((0 : Int), (0 : Int), (0 : Int), (0 : Int)), ((0 : Int), (0 : Int), (0 : Int), (0 : Int)), Go.Ev.nl Int) = ss.getD j SE0 := fun _ _ => rfl
  have fin : ∀ (i : Nat) (Q0 : List (Int × List IT)) (f t : Int) (p xs : List IT) (firsts : List Int), i ≤ 30 → Chain (1 + gap % 16) Q0 f t p xs firsts → (xs.map fun x => x.2.2.1) = (List.range (i + 1)).map (fun (j : Nat) => (j : Int) + 1) →
      ∃ ss, session_Add n [] (1 + gap % 16) [] xs = some (ss, 0) ∧ ss.length = Q0.length + 1 ∧ (ss.getD Q0.length SE0).2.1 = t ∧ bournelaw6_SessionChain_l2 n c45.F c46.F c37.F c17.F ((Q0.length + 1 : Nat) : Int) firsts (ss, 0) n (xs.length : Int) 0 = some true ∧ Q0.length ≤ 31 := by
    intro i Q0 f t p xs firsts hi h hs
    have hl : xs.length = i + 1 := by have := congrArg List.length hs; simpa using this
    have hnd : (xs.map fun x => x.2.2.1).Nodup := by
      rw [hs]
      exact List.Pairwise.map _ (fun a b hab e => hab (by omega)) List.nodup_range
    obtain ⟨ss, h1, h2, h3, h4⟩ := chain_end n hn _ hg h (by omega) hnd
    refine ⟨ss, h1, h2, h3, h4, ?_⟩
    obtain ⟨tt, h5, h6⟩ := add_run (n := n) (X := []) (xs := xs) hn hg (Is.nil [] 3 _) h.ok (by simp only [List.length_nil]; omega)
    rw [h1] at h5
    have : ss = tt := by simpa using h5
    subst this
    have := h6.len
    rw [List.append_nil] at this
    omega
  intro k
  induction k with
  | zero =>
    intro m i Q0 f t p xs firsts hi hm hts h h0 ht hs hfl
    obtain ⟨m, rfl, hm⟩ := sucM hm
    obtain ⟨ss, f1, f2, f3, f4, f5⟩ := fin i Q0 f t p xs firsts (by omega) h hs
    have h2 : ¬ ((i : Int) < 30) := by omega
    have h5 : (0 : Int) ≤ (Q0.length : Int) ∧ (Q0.length : Int) < ((Q0.length + 1 : Nat) : Int) := by omega
    rw [bournelaw6_SessionChain_l0_S]
    simp only [mask15, gap15, nl, f1, f2, h2, decide_false, cond_false, Option.bind_some, bournelaw0_Num, bne_self_eq_false, hd, show Go.IntKind.i64.wrap (((Q0.length + 1 : Nat) : Int) - 1) = (Q0.length : Int) from by rw [wrapOK (by omega) (by omega)]; omega, h5, if_true, and_self, Int.toNat_natCast, f3, Chain_l3, f4]
    by_cases h1 : (i : Int) < (ts.length : Int)
    · simp only [h1, decide_true, cond_true]
    · simp only [h1, decide_false, cond_false]
  | succ k ih =>
    intro m i Q0 f t p xs firsts hi hm hts h h0 ht hs hfl
    obtain ⟨m, rfl, hm⟩ := sucM hm
    rw [bournelaw6_SessionChain_l0_S]
    by_cases h1 : (i : Int) < (ts.length : Int)
    · have h2 : (i : Int) < 30 := by omega
      have h3 : (0 : Int) ≤ (i : Int) := by omega
      have hxl : xs.length = i + 1 := by have := congrArg List.length hs; simpa using this
      have hff : firsts.length = Q0.length + 1 := by rw [h.fs]; simp
      simp only [h1, h2, h3, and_self, decide_true, cond_true, if_true, bournelaw6_item, Option.bind_some, wrapS (i := i) (by omega), mask31, mask15, gap15, set1, set1i, List.length_cons, List.length_nil, bournelaw6_SessionChain_j1_S, Int.toNat_natCast]
      generalize ts.getD i 0 = v
      rw [wrapOK (x := t + v % 32) (by omega) (by omega), wrapOK (x := (i : Int) + 2) (by omega) (by omega), wrapS (i := Q0.length + 1) (by omega), wrapS (i := xs.length) (by omega)]
      have hx : itemMay ((3 : Int), t + v % 32, (i : Int) + 2, (1 : Int)) = true ∧ ((3 : Int), t + v % 32, (i : Int) + 2, (1 : Int)).1 = 3 := ⟨item_ok (by omega) (by omega) (by omega) (by omega) (by omega) (by omega), rfl⟩
      have hs' : ((xs ++ [((3 : Int), t + v % 32, (i : Int) + 2, (1 : Int))]).map fun x => x.2.2.1) = (List.range (i + 1 + 1)).map (fun (j : Nat) => (j : Int) + 1) := by
        rw [List.range_succ (n := i + 1)]
        simp only [List.map_append, hs, List.map_cons, List.map_nil]
        congr 2
      have hl' : xs.length + 1 = (xs ++ [((3 : Int), t + v % 32, (i : Int) + 2, (1 : Int))]).length := by simp
      by_cases c : v % 32 ≥ 1 + gap % 16
      · simp only [c, decide_true, cond_true]
        rw [if_pos (by omega), if_pos (by omega), hl']
        have hq : Q0.length + 1 = (Q0 ++ [(f, p)]).length := by simp
        rw [hq]
        exact ih m (i + 1) (Q0 ++ [(f, p)]) (t + v % 32) (t + v % 32) [_] _ _ (by omega) (by omega) (by omega) (h.new hx (by show t + (1 + gap % 16) ≤ t + v % 32; omega) (by omega)) (by omega) (by omega) hs' (by simp only [List.length_append, List.length_cons, List.length_nil]; omega)
      · simp only [c, decide_false, cond_false]
        rw [if_pos (by omega), hl']
        exact ih m (i + 1) Q0 f (t + v % 32) (p ++ [_]) _ _ (by omega) (by omega) (by omega) (h.ext hx (by show t ≤ t + v % 32; omega) (by show t + v % 32 < t + (1 + gap % 16); omega)) (by omega) (by omega) hs' (by omega)
    · obtain ⟨ss, f1, f2, f3, f4, f5⟩ := fin i Q0 f t p xs firsts (by omega) h hs
      have h5 : (0 : Int) ≤ (Q0.length : Int) ∧ (Q0.length : Int) < ((Q0.length + 1 : Nat) : Int) := by omega
      simp only [mask15, gap15, nl, f1, f2, h1, decide_false, cond_false, Option.bind_some, bournelaw0_Num, bne_self_eq_false, hd, show Go.IntKind.i64.wrap (((Q0.length + 1 : Nat) : Int) - 1) = (Q0.length : Int) from by rw [wrapOK (by omega) (by omega)]; omega, h5, if_true, and_self, Int.toNat_natCast, f3, Chain_l3, f4]
theorem Chain_true (n : Nat) (hn : 200 ≤ n) (ts : List Int) (gap : Int) : bournelaw6_SessionChain n ts gap = some true := by
  rw [bournelaw6_SessionChain_S, awake_eq]
  simp only [Option.bind_some, Bool.not_true, cond_false, nl, bournelaw6_item, set1, set1i, List.nil_append]
  have hx : itemMay ((3 : Int), (0 : Int), (1 : Int), (1 : Int)) = true := by decide
  refine Chain_l0 n hn ts gap 30 n 0 [] 0 0 [(3, 0, 1, 1)] [(3, 0, 1, 1)] [0] rfl (by omega) (by omega) ⟨rfl, rfl, ?_, ⟨_, List.mem_singleton.2 rfl, rfl⟩, ?_, ?_, ?_, List.pairwise_singleton _ _⟩ (by omega) (by omega) rfl (by simp)
  · intro q hq
    rw [List.mem_singleton.1 hq]; simp
  · intro x h; rw [List.mem_singleton.1 h]; simp
  · intro x h; rw [List.mem_singleton.1 h]; exact ⟨hx, rfl⟩
  · intro q hq
    rw [List.mem_singleton.1 hq]
    intro a ha ⟨b, hb, hab⟩
    rw [List.mem_singleton.1 ha, List.mem_singleton.1 hb] at hab
    omega
end Go.Proofs.Ytoffmcfaeolcjaa
