/- Contracts of package series. -/
import Derived.Test.YtoffmcfaeolcjaaInts
import Derived.WalkKit
import Derived.Maps.OwnSet
import Derived.Lib.Hide
import Derived.Deep.QuietTactic
import Derived.BigQuiet
import Derived.Outline
import Derived.RegionTactic
import Derived.Deep.RegionLaw
import Derived.WalkSpells
import Derived.WalkLawsBesides
namespace Go.Proofs.Ytoffmcfaeolcjaa
open Go.RowKit Go.Maps

theorem may_any (x : Int) (w : World) : Calls Try.prog 47 #[.int .i64 x] w fun e w' => e = .returned (.bool (decide (0 ≤ x ∧ x ≤ 1048575))) ∧ w = w' := by
  go_enter Try.func47, Try.ntmps47
  go_wp2
  all_goals (go_ret; refine ⟨?_, rfl⟩; congr 2; simp; try omega)

theorem new_no (x : Int) (w : World) (h : x < 1 ∨ 64 < x) : Calls Try.prog 15 #[.int .i64 x] w fun e w' => e = .returned (.tuple #[.pointer none, .int .i64 1200]) ∧ w = w' := by
  have hmm := @run_makeMap Try.prog
  go_enter Try.func15, Try.ntmps15
  go_wp2
  all_goals (first | (go_ret2; exact ⟨rfl, rfl⟩) | (exfalso; omega))

theorem new_yes (x : Int) (w : World) (h : 1 ≤ x) (h2 : x ≤ 64) : Calls Try.prog 15 #[.int .i64 x] w fun e w' => e = .returned (.tuple #[.pointer (some ⟨w.heap.size + 1, 0, none⟩), .int .i64 0]) ∧ w' = (w.alloc (.map #[] 0)).alloc (.cells #[.int .i64 x, .slice none 0 0, .map (some w.heap.size)] 85) := by
  have hmm := @run_makeMap Try.prog
  go_enter Try.func15, Try.ntmps15
  go_wp2
  go_ret2
  exact ⟨rfl, rfl⟩


/-- The registry behind a pointer to block b, its blocks F. -/
def RegIs (w : World) (b : Nat) (F : List Nat) (most : Int) (ids : List Int) : Prop :=
  ∃ m v, w.heap[b]? = some (.cells #[.int .i64 most, v, .map (some m)] 85 (0, 0)) ∧ w.ownsRow 0 3 1 v ids.length (ids.map (Value.int .i64)) ∧ SetAt w m ids.length ids ∧ F = b :: m :: v.ownBlock.toList

theorem RegIs.lt {w : World} {b : Nat} {F : List Nat} {most : Int} {ids : List Int} (h : RegIs w b F most ids) : ∀ f ∈ F, f < w.heap.size := by
  obtain ⟨m, v, hb, ho, hs, rfl⟩ := h
  intro f hf
  simp only [List.mem_cons, Option.mem_toList] at hf
  rcases hf with rfl | rfl | hf
  · exact heap_lt hb
  · exact hs.lt
  · exact (ho.lt f hf).2
theorem RegIs.kept {w w' : World} {b : Nat} {F G : List Nat} {most : Int} {ids : List Int} (h : RegIs w b F most ids) (hg : Only G w w') (hd : ∀ f ∈ F, f ∉ G) : RegIs w' b F most ids := by
  obtain ⟨m, v, hb, ho, hs, rfl⟩ := h
  refine ⟨m, v, hg.heap hb (hd _ (by simp)), hg.ownsRow ho fun k hk => hd k (by simp [hk]), hs.kept hg (hd _ (by simp)), rfl⟩

theorem slice_of_owns {w : World} {base : Nat} {e : TypeId} {size : Nat} {v : Value} {n : Nat} {xs : List Value} (h : w.ownsRow base e size v n xs) : ∃ va vc, v = .slice va n vc := by
  rcases h.2 with ⟨rfl, rfl⟩ | ⟨g, cap, cur, rfl, _⟩
  · exact ⟨_, _, rfl⟩
  · exact ⟨_, _, rfl⟩

theorem own_ne {w : World} {b : Nat} {cs : Array Value} {t : TypeId} {fr : Nat × Nat} (h : w.heap[b]? = some (.cells cs t fr)) {e : TypeId} (hne : t ≠ e) {base size : Nat} {v : Value} {n : Nat} {xs : List Value} (ho : w.ownsRow base e size v n xs) : ∀ k, v.ownBlock = some k → k ≠ b := by
  rintro k hk rfl
  rcases ho.2 with ⟨rfl, rfl⟩ | ⟨g, cap, cur, rfl, _, hg, _⟩
  · cases hk
  · cases hk
    rw [h] at hg
    cases hg
    exact hne rfl
theorem SetAt.ne {w : World} {b : Nat} {cs : Array Value} {t : TypeId} {fr : Nat × Nat} (h : w.heap[b]? = some (.cells cs t fr)) {m n : Nat} {S : List Int} (hs : SetAt w m n S) : m ≠ b := by
  rintro rfl
  obtain ⟨D, ⟨es, clock, hm, _⟩, _⟩ := hs
  rw [h] at hm
  cases hm
theorem SetAt.ne_own {w : World} {m n : Nat} {S : List Int} (hs : SetAt w m n S) {base : Nat} {e : TypeId} {size : Nat} {v : Value} {k : Nat} {xs : List Value} (ho : w.ownsRow base e size v k xs) : v.ownBlock ≠ some m := by
  intro hk
  rcases ho.2 with ⟨rfl, rfl⟩ | ⟨g, cap, cur, rfl, _, hg, _⟩
  · cases hk
  · cases hk
    exact SetAt.ne hg hs rfl

theorem add_after {x most : Int} {b m g cap N : Nat} {v : Value} {w W w1 : World} {ids : List Int} (hwx : (Lit.int .i64 x).wf = true)
    (hb : w.heap[b]? = some (.cells #[.int .i64 most, v, .map (some m)] 85 (0, 0))) (hown : w.ownsRow 0 3 1 v N (ids.map (Value.int .i64))) (hset : SetAt w m N ids) (hN : ids.length = N) (hN2 : N ≤ 64)
    (o : Only [] w W) (hgrow : W.grownBy w1 v.ownBlock) (hown1 : w1.ownsRow 0 3 1 (.slice (some ⟨g, 0, none⟩) (N + 1) cap) (N + 1) (ids.map (Value.int .i64) ++ [.int .i64 x])) (hat : v.ownBlock = some g ∨ g = W.heap.size) :
    w1.cell? ⟨b, 1, none⟩ = some v ∧ w1.cell? ⟨b, 2, none⟩ = some (.map (some m)) ∧ w1.frozen? ⟨b, 1, none⟩ = false ∧ ∃ (v0 : Value) (st : Nat) (w2 : World), (Instr.mapEntry 83 (.map (some m)) (.int .i64 x)).run Try.prog (w1.setCell ⟨b, 1, none⟩ (.slice (some ⟨g, 0, none⟩) (N + 1) cap)) = .ok (.tuple #[v0, .int .i64 st]) w2 ∧
      ∃ w3, (Instr.entryStore 83 (.map (some m)) (.int .i64 st) (.bool true)).run Try.prog w2 = .ok () w3 ∧
      ∃ F', RegIs w3 b F' most (ids ++ [x]) ∧ Only (b :: m :: v.ownBlock.toList) w w3 ∧ ∀ f ∈ F', f ∈ b :: m :: v.ownBlock.toList ∨ w.heap.size ≤ f := by
  have hbo := own_ne hb (by decide) hown
  have hmb := hset.ne hb
  have hmo := hset.ne_own hown
  have o1 : Only v.ownBlock.toList w w1 := (o.mono (by simp)).trans (Only.of_grown hgrow) fun k hk => .inl hk
  have hb1 := o1.heap hb (by simp only [Option.mem_toList]; intro h; exact hbo _ h rfl)
  have hs1 := hset.kept o1 (by simpa using hmo)
  have o2 : Only [b] w1 (w1.setCell ⟨b, 1, none⟩ (.slice (some ⟨g, 0, none⟩) (N + 1) cap)) := (Only.refl _ _).setCell (by simp) _
  have hs2 := hs1.kept o2 (by simpa using hmb)
  obtain ⟨v0, st, w2, r1, w3, r2, hs3, o3⟩ := hs2.entry hwx (by unfold maxLen; omega)
  have hb2 := heap_setCell_at hb1 1 (.slice (some ⟨g, 0, none⟩) (N + 1) cap)
  have hbg := own_ne hb1 (by decide) hown1 g rfl
  have hmg := hs1.ne_own hown1
  refine ⟨by rw [cell_of_block hb1]; rfl, by rw [cell_of_block hb1]; rfl, free_of_block hb1 1, v0, st, w2, r1, w3, r2, b :: m :: [g], ⟨m, _, o3.heap hb2 (by simpa using hmb.symm), ?_, ?_, rfl⟩, ?_, ?_⟩
  · have := o3.ownsRow (o2.ownsRow hown1 fun k hk => by cases hk; simpa using hbg) fun k hk => by cases hk; simp only [List.mem_singleton]; rintro rfl; exact hmg rfl
    simpa [hN] using this
  · simpa [hN] using hs3
  · exact ((o1.mono (by simp +contextual)).trans o2 (by simp)).trans o3 (by simp)
  · intro f hf
    simp only [List.mem_cons, List.not_mem_nil, or_false] at hf
    rcases hf with rfl | rfl | rfl
    · simp
    · simp
    · rcases hat with h | h
      · left; simp [h]
      · right; rw [h]; exact o.size

set_option maxHeartbeats 4000000 in
set_option maxRecDepth 100000 in
theorem add_new {x most : Int} {b : Nat} {F : List Nat} {w : World} {ids : List Int} (hx : 0 ≤ x) (hx2 : x ≤ 1048575) (h : RegIs w b F most ids) (hm : (ids.length : Int) < most) (hm2 : most ≤ 64) (hn : x ∉ ids) :
    Calls Try.prog 19 #[.pointer (some ⟨b, 0, none⟩), .int .i64 x] w fun e w' => e = .returned (.int .i64 0) ∧ ∃ F', RegIs w' b F' most (ids ++ [x]) ∧ Only F w w' ∧ ∀ f ∈ F', f ∈ F ∨ w.heap.size ≤ f := by
  obtain ⟨i0, hi, hz0, hz1, hz2⟩ := info_parts infoInt
  obtain ⟨m, v, hb, hown, hset, rfl⟩ := h
  have hwx : (Lit.int .i64 x).wf = true := WalkArith.wf_i64 (by omega)
  have hl := hset.look hwx
  have hbl := heap_lt hb
  rw [decide_eq_false hn] at hl
  have c0 := cell_of_block hb 0
  have c1 := cell_of_block hb 1
  have c2 := cell_of_block hb 2
  have f1 := free_of_block hb 1
  simp only [List.getElem?_toArray, List.getElem?_cons_zero, List.getElem?_cons_succ] at c0 c1 c2
  generalize hN : ids.length = N at *
  have hafter := fun W w1 g cap => add_after (W := W) (w1 := w1) (g := g) (cap := cap) hwx hb hown hset hN (by omega)
  have HA := Lib.hid hafter
  obtain ⟨va, vc, rfl⟩ := slice_of_owns hown
  clear hN hb hset hafter
  go_enter Try.func19, Try.ntmps19
  go_wp2_with (go_at_call 47; refine (may_any _ _).mono ?_; rintro e w' ⟨rfl, rfl⟩)
  go_quiet (fail)
  go_wp2
  go_region_law (refine step_append_lies _ rfl _ _ 22 rfl 0 3 i0 _ 1 8 Try.underlying22 hi hz0 hz1 hz2 rfl (by decide) _ N _ rfl (hown.alloc _) ⟨_, 0, none⟩ 1 1 [.int .i64 x] rfl rfl (World.news_of_block (w := World.drewN _ _) (heap_alloc_new _ _)) (by simp [Value.oneCell']) (by omega) (by unfold maxLen; omega) (by omega) (Nat.zero_le _) _ rfl ?_; intro g cap w1 hown1 hgrow hat hlt; obtain ⟨q1, q1', q2, v0, st, w2, q3, w3, q4, q5⟩ := HA.out _ _ _ _ (((Only.refl _ w).alloc _).drewN _) hgrow hown1 hat; have Q5 := Lib.hid q5; clear q5)
  all_goals (go_wp2; go_ret; exact ⟨rfl, Q5.out⟩)


theorem add_form {x most : Int} {b : Nat} {F : List Nat} {w : World} {ids : List Int} (hx : ¬(0 ≤ x ∧ x ≤ 1048575)) (_h : RegIs w b F most ids) :
    Calls Try.prog 19 #[.pointer (some ⟨b, 0, none⟩), .int .i64 x] w fun e w' => e = .returned (.int .i64 1200) ∧ w = w' := by
  have hd : decide (0 ≤ x ∧ x ≤ 1048575) = false := decide_eq_false hx
  have HX := Lib.hid hx
  clear hx _h
  go_enter Try.func19, Try.ntmps19
  go_wp2_with (go_at_call 47; refine (may_any _ _).mono ?_; rintro e w' ⟨rfl, rfl⟩; rw [hd])
  go_ret
  exact ⟨rfl, rfl⟩

set_option maxRecDepth 100000 in
theorem add_has {x most : Int} {b : Nat} {F : List Nat} {w : World} {ids : List Int} (hx : 0 ≤ x) (hx2 : x ≤ 1048575) (h : RegIs w b F most ids) (hn : x ∈ ids) :
    Calls Try.prog 19 #[.pointer (some ⟨b, 0, none⟩), .int .i64 x] w fun e w' => e = .returned (.int .i64 0) ∧ w = w' := by
  obtain ⟨m, v, hb, hown, hset, rfl⟩ := h
  have hl := hset.look (x := x) (WalkArith.wf_i64 (by omega))
  rw [decide_eq_true hn] at hl
  have c2 := cell_of_block hb 2
  simp only [List.getElem?_toArray, List.getElem?_cons_zero, List.getElem?_cons_succ] at c2
  clear hn hset hown hb
  go_enter Try.func19, Try.ntmps19
  go_wp2_with (go_at_call 47; refine (may_any _ _).mono ?_; rintro e w' ⟨rfl, rfl⟩)
  go_ret
  exact ⟨rfl, rfl⟩

set_option maxRecDepth 100000 in
theorem add_full {x most : Int} {b : Nat} {F : List Nat} {w : World} {ids : List Int} (hx : 0 ≤ x) (hx2 : x ≤ 1048575) (h : RegIs w b F most ids) (hn : x ∉ ids) (hm : most ≤ (ids.length : Int)) :
    Calls Try.prog 19 #[.pointer (some ⟨b, 0, none⟩), .int .i64 x] w fun e w' => e = .returned (.int .i64 1201) ∧ Drew w w' := by
  obtain ⟨m, v, hb, hown, hset, rfl⟩ := h
  have hl := hset.look (x := x) (WalkArith.wf_i64 (by omega))
  rw [decide_eq_false hn] at hl
  obtain ⟨va, vc, rfl⟩ := slice_of_owns hown
  have c0 := cell_of_block hb 0
  have c1 := cell_of_block hb 1
  have c2 := cell_of_block hb 2
  simp only [List.getElem?_toArray, List.getElem?_cons_zero, List.getElem?_cons_succ] at c0 c1 c2
  generalize ids.length = N at *
  clear hn hset hown hb
  go_enter Try.func19, Try.ntmps19
  go_wp2_with (go_at_call 47; refine (may_any _ _).mono ?_; rintro e w' ⟨rfl, rfl⟩)
  go_quiet (fail)
  go_wp2
  go_ret
  exact ⟨rfl, ⟨_, rfl⟩⟩

def addErr (most : Int) (ids : List Int) (x : Int) : Int := if ¬(0 ≤ x ∧ x ≤ 1048575) then 1200 else if x ∈ ids then 0 else if most ≤ (ids.length : Int) then 1201 else 0
def addIds (most : Int) (ids : List Int) (x : Int) : List Int := if 0 ≤ x ∧ x ≤ 1048575 ∧ x ∉ ids ∧ (ids.length : Int) < most then ids ++ [x] else ids

theorem add_any {x most : Int} {b : Nat} {F : List Nat} {w : World} {ids : List Int} (h : RegIs w b F most ids) (hm2 : most ≤ 64) :
    Calls Try.prog 19 #[.pointer (some ⟨b, 0, none⟩), .int .i64 x] w fun e w' => e = .returned (.int .i64 (addErr most ids x)) ∧ ∃ F', RegIs w' b F' most (addIds most ids x) ∧ Only F w w' ∧ ∀ f ∈ F', f ∈ F ∨ w.heap.size ≤ f := by
  unfold addErr addIds
  by_cases hx : 0 ≤ x ∧ x ≤ 1048575
  · rw [if_neg (by simpa using hx)]
    by_cases hn : x ∈ ids
    · rw [if_pos hn, if_neg (by simp [hn])]
      exact (add_has hx.1 hx.2 h hn).mono (by rintro e w' ⟨rfl, rfl⟩; exact ⟨rfl, F, h, .refl _ _, fun f hf => .inl hf⟩)
    · rw [if_neg hn]
      by_cases hm : most ≤ (ids.length : Int)
      · rw [if_pos hm, if_neg (by omega)]
        exact (add_full hx.1 hx.2 h hn hm).mono (by rintro e w' ⟨rfl, hd⟩; exact ⟨rfl, F, h.kept (hd.only (F := [])) (by simp), hd.only, fun f hf => .inl hf⟩)
      · rw [if_neg hm, if_pos ⟨hx.1, hx.2, hn, by omega⟩]
        exact add_new hx.1 hx.2 h (by omega) hm2 hn
  · rw [if_pos hx, if_neg (by omega)]
    exact (add_form hx h).mono (by rintro e w' ⟨rfl, rfl⟩; exact ⟨rfl, F, h, .refl _ _, fun f hf => .inl hf⟩)

set_option maxRecDepth 100000 in
theorem has_any {x most : Int} {b : Nat} {F : List Nat} {w : World} {ids : List Int} (h : RegIs w b F most ids) (hx : (Lit.int .i64 x).wf = true) :
    Calls Try.prog 21 #[.pointer (some ⟨b, 0, none⟩), .int .i64 x] w fun e w' => e = .returned (.bool (decide (x ∈ ids))) ∧ w = w' := by
  obtain ⟨m, v, hb, hown, hset, rfl⟩ := h
  have hl := hset.look hx
  have c2 := cell_of_block hb 2
  simp only [List.getElem?_toArray, List.getElem?_cons_zero, List.getElem?_cons_succ] at c2
  clear hset hown hb
  generalize decide (x ∈ ids) = t at *
  go_enter Try.func21, Try.ntmps21
  go_wp2
  go_ret
  exact ⟨rfl, rfl⟩

theorem ids_any {most : Int} {b : Nat} {F : List Nat} {w : World} {ids : List Int} (h : RegIs w b F most ids) (hl : ids.length ≤ 64) :
    Calls Try.prog 23 #[.pointer (some ⟨b, 0, none⟩)] w fun e w' => ∃ v', e = .returned v' ∧ OwnInts w' v' ids ∧ Only [] w w' ∧ ∀ k, v'.ownBlock = some k → w.heap.size ≤ k := by
  obtain ⟨m, v, hb, hown, hset, rfl⟩ := h
  have hat := Lib.hid (IntsAt.of_owns hown (by omega))
  have c1 := cell_of_block hb 1
  simp only [List.getElem?_toArray, List.getElem?_cons_zero, List.getElem?_cons_succ] at c1
  clear hset hown hb
  go_enter Try.func23, Try.ntmps23
  go_wp2_with (go_at_call 48; refine (clone_ints hat.out).mono ?_; rintro e w' ⟨v', rfl, h1, h2, h3⟩)
  go_ret
  exact ⟨v', rfl, h1, h2, h3⟩

end Go.Proofs.Ytoffmcfaeolcjaa
