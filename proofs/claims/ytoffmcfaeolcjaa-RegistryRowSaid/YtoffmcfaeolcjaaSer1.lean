/- Contracts of the reference's registry. -/
import Derived.Test.YtoffmcfaeolcjaaSer0
namespace Go.Proofs.Ytoffmcfaeolcjaa
open Go.RowKit Go.Maps

theorem refNew_no (x : Int) (w : World) (h : x < 1 ∨ 64 < x) : Calls Try.prog 16 #[.int .i64 x] w fun e w' => e = .returned (.tuple #[.pointer none, .int .i64 1200]) ∧ w = w' := by
  go_enter Try.func16, Try.ntmps16
  go_wp2
  all_goals (first | (go_ret2; exact ⟨rfl, rfl⟩) | (exfalso; omega))

theorem refNew_yes (x : Int) (w : World) (h : 1 ≤ x) (h2 : x ≤ 64) : Calls Try.prog 16 #[.int .i64 x] w fun e w' => e = .returned (.tuple #[.pointer (some ⟨w.heap.size, 0, none⟩), .int .i64 0]) ∧ w' = w.alloc (.cells #[.int .i64 x, .slice none 0 0] 38) := by
  go_enter Try.func16, Try.ntmps16
  go_wp2
  go_ret2
  exact ⟨rfl, rfl⟩

/-- The reference's registry behind a pointer to block b, its blocks F. -/
def RefIs (w : World) (b : Nat) (F : List Nat) (most : Int) (ids : List Int) : Prop :=
  ∃ v, w.heap[b]? = some (.cells #[.int .i64 most, v] 38 (0, 0)) ∧ w.ownsRow 0 3 1 v ids.length (ids.map (Value.int .i64)) ∧ F = b :: v.ownBlock.toList

theorem RefIs.lt {w : World} {b : Nat} {F : List Nat} {most : Int} {ids : List Int} (h : RefIs w b F most ids) : ∀ f ∈ F, f < w.heap.size := by
  obtain ⟨v, hb, ho, rfl⟩ := h
  intro f hf
  simp only [List.mem_cons, Option.mem_toList] at hf
  rcases hf with rfl | hf
  · exact heap_lt hb
  · exact (ho.lt f hf).2
theorem RefIs.kept {w w' : World} {b : Nat} {F G : List Nat} {most : Int} {ids : List Int} (h : RefIs w b F most ids) (hg : Only G w w') (hd : ∀ f ∈ F, f ∉ G) : RefIs w' b F most ids := by
  obtain ⟨v, hb, ho, rfl⟩ := h
  exact ⟨v, hg.heap hb (hd _ (by simp)), hg.ownsRow ho fun k hk => hd k (by simp [hk]), rfl⟩
theorem RefIs.ints {w : World} {b : Nat} {F : List Nat} {most : Int} {ids : List Int} (h : RefIs w b F most ids) (hl : ids.length ≤ 64) : ∃ v, w.cell? ⟨b, 1, none⟩ = some v ∧ IntsAt w v ids := by
  obtain ⟨v, hb, ho, rfl⟩ := h
  exact ⟨v, by rw [cell_of_block hb]; rfl, IntsAt.of_owns ho (by omega)⟩

set_option maxHeartbeats 1000000 in
set_option maxRecDepth 100000 in
theorem refHas_any {x : Int} {b : Nat} {v : Value} {w : World} {ids : List Int} (hc : w.cell? ⟨b, 1, none⟩ = some v) (h : IntsAt w v ids) :
    Calls Try.prog 22 #[.pointer (some ⟨b, 0, none⟩), .int .i64 x] w fun e w' => e = .returned (.bool (decide (x ∈ ids))) ∧ w = w' := by
  obtain ⟨a, c, rfl, hs, h⟩ := h
  by_cases h0 : ids = []
  · subst h0
    clear h
    go_enter Try.func22, Try.ntmps22
    go_wp2
    refine wp_loop_rounds 1 ?_
    rw [rounds_succ]
    go_wp2
    go_ret
    exact ⟨rfl, rfl⟩
  · obtain ⟨b1, o1, rfl, _, hc1⟩ := h.resolve_left h0
    generalize hn : ids.length = n at *
    have HN := Lib.hid hn
    have HC1 := Lib.hid hc1
    clear hn hc1 h h0
    go_enter Try.func22, Try.ntmps22
    go_wp2
    go_loop [5] (fun i => ∃ k : Nat, k ≤ n ∧ i = .int .i64 k ∧ Hid (∀ j, j < k → ids[j]?.getD 0 ≠ x)) (fun i => n - (intOf i).toNat)
    case atStart => exact ⟨0, Nat.zero_le _, rfl, fun j hj => by omega⟩
    case round =>
      obtain ⟨k, hk, rfl, heq⟩ := hrel
      by_cases hlt : k < n
      · have g1 := HC1.out k hlt
        by_cases hz : ids[k]?.getD 0 = x
        · have hz' : (ids[k]?.getD 0 == x) = true := by rw [beq_iff_eq]; exact hz
          have HD := Lib.hid (show decide (x ∈ ids) = true from decide_eq_true (by rw [← hz, List.getElem?_eq_getElem (by rw [HN.out]; exact hlt)]; exact List.getElem_mem _))
          clear hz
          go_wp2
          go_ret
          exact ⟨by rw [HD.out]; rfl, rfl⟩
        · have hz' : (ids[k]?.getD 0 == x) = false := by rw [beq_eq_false_iff_ne]; exact hz
          have HZ := Lib.hid hz
          clear hz
          go_wp2
          exact ⟨⟨k + 1, by omega, by go_num, fun j hj => by rcases Nat.lt_succ_iff_lt_or_eq.1 hj with h | rfl; exact heq.out j h; exact HZ.out⟩, by simp [intOf]; omega⟩
      · have HD := Lib.hid (show decide (x ∈ ids) = false from decide_eq_false (by
          intro hm
          obtain ⟨j, hj, he⟩ := List.mem_iff_getElem.1 hm
          have h1 := HN.out
          exact heq.out j (by omega) (by rw [List.getElem?_eq_getElem hj]; exact he)))
        go_wp2
        go_ret
        exact ⟨by rw [HD.out]; rfl, rfl⟩

theorem refAdd_form {x most : Int} {b : Nat} {F : List Nat} {w : World} {ids : List Int} (hx : ¬(0 ≤ x ∧ x ≤ 1048575)) (_h : RefIs w b F most ids) :
    Calls Try.prog 20 #[.pointer (some ⟨b, 0, none⟩), .int .i64 x] w fun e w' => e = .returned (.int .i64 1200) ∧ w = w' := by
  clear _h
  by_cases hx1 : x < 0
  all_goals
    go_enter Try.func20, Try.ntmps20
    go_wp2_with fail
    go_ret
    exact ⟨rfl, rfl⟩

set_option maxRecDepth 100000 in
theorem refAdd_has {x most : Int} {b : Nat} {F : List Nat} {w : World} {ids : List Int} (hx : 0 ≤ x) (hx2 : x ≤ 1048575) (h : RefIs w b F most ids) (hl : ids.length ≤ 64) (hn : x ∈ ids) :
    Calls Try.prog 20 #[.pointer (some ⟨b, 0, none⟩), .int .i64 x] w fun e w' => e = .returned (.int .i64 0) ∧ w = w' := by
  obtain ⟨v, hc, hi⟩ := h.ints hl
  have hd := decide_eq_true hn
  have HI := Lib.hid hi
  clear h hi hn
  go_enter Try.func20, Try.ntmps20
  go_wp2_with (go_at_call 22; refine (refHas_any hc HI.out).mono ?_; rintro e w' ⟨rfl, rfl⟩; rw [hd])
  go_ret
  exact ⟨rfl, rfl⟩

set_option maxRecDepth 100000 in
theorem refAdd_full {x most : Int} {b : Nat} {F : List Nat} {w : World} {ids : List Int} (hx : 0 ≤ x) (hx2 : x ≤ 1048575) (h : RefIs w b F most ids) (hl : ids.length ≤ 64) (hn : x ∉ ids) (hm : most ≤ (ids.length : Int)) :
    Calls Try.prog 20 #[.pointer (some ⟨b, 0, none⟩), .int .i64 x] w fun e w' => e = .returned (.int .i64 1201) ∧ Drew w w' := by
  obtain ⟨v, hb, ho, rfl⟩ := h
  have hi := IntsAt.of_owns ho (by omega)
  have hd := decide_eq_false hn
  have HI := Lib.hid hi
  obtain ⟨va, vc, rfl⟩ := slice_of_owns ho
  have c0 := cell_of_block hb 0
  have c1 := cell_of_block hb 1
  simp only [List.getElem?_toArray, List.getElem?_cons_zero, List.getElem?_cons_succ] at c0 c1
  generalize ids.length = N at *
  clear hi hn hb ho
  go_enter Try.func20, Try.ntmps20
  go_wp2_with (go_at_call 22; refine (refHas_any c1 HI.out).mono ?_; rintro e w' ⟨rfl, rfl⟩; rw [hd])
  go_quiet (fail)
  go_wp2
  go_ret
  exact ⟨rfl, ⟨_, rfl⟩⟩

theorem refAdd_after {x most : Int} {b g cap N : Nat} {v : Value} {w W w1 : World} {ids : List Int}
    (hb : w.heap[b]? = some (.cells #[.int .i64 most, v] 38 (0, 0))) (hown : w.ownsRow 0 3 1 v N (ids.map (Value.int .i64))) (hN : ids.length = N)
    (o : Only [] w W) (hgrow : W.grownBy w1 v.ownBlock) (hown1 : w1.ownsRow 0 3 1 (.slice (some ⟨g, 0, none⟩) (N + 1) cap) (N + 1) (ids.map (Value.int .i64) ++ [.int .i64 x])) (hat : v.ownBlock = some g ∨ g = W.heap.size) :
    w1.cell? ⟨b, 1, none⟩ = some v ∧ w1.frozen? ⟨b, 1, none⟩ = false ∧
      ∃ F', RefIs (w1.setCell ⟨b, 1, none⟩ (.slice (some ⟨g, 0, none⟩) (N + 1) cap)) b F' most (ids ++ [x]) ∧ Only (b :: v.ownBlock.toList) w (w1.setCell ⟨b, 1, none⟩ (.slice (some ⟨g, 0, none⟩) (N + 1) cap)) ∧ ∀ f ∈ F', f ∈ b :: v.ownBlock.toList ∨ w.heap.size ≤ f := by
  have hbo := own_ne hb (by decide) hown
  have o1 : Only v.ownBlock.toList w w1 := (o.mono (by simp)).trans (Only.of_grown hgrow) fun k hk => .inl hk
  have hb1 := o1.heap hb (by simp only [Option.mem_toList]; intro h; exact hbo _ h rfl)
  have o2 : Only [b] w1 (w1.setCell ⟨b, 1, none⟩ (.slice (some ⟨g, 0, none⟩) (N + 1) cap)) := (Only.refl _ _).setCell (by simp) _
  have hb2 := heap_setCell_at hb1 1 (.slice (some ⟨g, 0, none⟩) (N + 1) cap)
  have hbg := own_ne hb1 (by decide) hown1 g rfl
  refine ⟨by rw [cell_of_block hb1]; rfl, free_of_block hb1 1, b :: [g], ⟨_, hb2, ?_, rfl⟩, ?_, ?_⟩
  · have := o2.ownsRow hown1 fun k hk => by cases hk; simpa using hbg
    simpa [hN] using this
  · exact (o1.mono (by simp +contextual)).trans o2 (by simp)
  · intro f hf
    simp only [List.mem_cons, List.not_mem_nil, or_false] at hf
    rcases hf with rfl | rfl
    · simp
    · rcases hat with h | h
      · left; simp [h]
      · right; rw [h]; exact o.size

set_option maxHeartbeats 4000000 in
set_option maxRecDepth 100000 in
theorem refAdd_new {x most : Int} {b : Nat} {F : List Nat} {w : World} {ids : List Int} (hx : 0 ≤ x) (hx2 : x ≤ 1048575) (h : RefIs w b F most ids) (hm : (ids.length : Int) < most) (hm2 : most ≤ 64) (hn : x ∉ ids) :
    Calls Try.prog 20 #[.pointer (some ⟨b, 0, none⟩), .int .i64 x] w fun e w' => e = .returned (.int .i64 0) ∧ ∃ F', RefIs w' b F' most (ids ++ [x]) ∧ Only F w w' ∧ ∀ f ∈ F', f ∈ F ∨ w.heap.size ≤ f := by
  obtain ⟨i0, hi, hz0, hz1, hz2⟩ := info_parts infoInt
  obtain ⟨v, hb, hown, rfl⟩ := h
  have HI := Lib.hid (IntsAt.of_owns hown (by omega))
  have hd := decide_eq_false hn
  have hbl := heap_lt hb
  have c0 := cell_of_block hb 0
  have c1 := cell_of_block hb 1
  simp only [List.getElem?_toArray, List.getElem?_cons_zero, List.getElem?_cons_succ] at c0 c1
  generalize hN : ids.length = N at *
  have hafter := fun W w1 g cap => refAdd_after (x := x) (W := W) (w1 := w1) (g := g) (cap := cap) hb hown hN
  have HA := Lib.hid hafter
  obtain ⟨va, vc, rfl⟩ := slice_of_owns hown
  clear hN hb hafter hn
  go_enter Try.func20, Try.ntmps20
  go_wp2_with (go_at_call 22; refine (refHas_any c1 HI.out).mono ?_; rintro e w' ⟨rfl, rfl⟩; rw [hd])
  go_quiet (fail)
  go_wp2_with (at_builtin; refine wpList_append_lies _ rfl _ _ 22 rfl 0 3 i0 _ 1 8 Try.underlying22 hi hz0 hz1 hz2 rfl (by decide) _ N _ rfl (hown.alloc _) ⟨_, 0, none⟩ 1 1 [.int .i64 x] rfl rfl (World.news_of_block (w := World.drewN _ _) (heap_alloc_new _ _)) (by simp [Value.oneCell']) (by omega) (by unfold maxLen; omega) (by omega) (Nat.zero_le _) _ rfl ?_; intro g cap w1 hown1 hgrow hat hlt; obtain ⟨q1, q2, q3⟩ := HA.out _ _ _ _ (((Only.refl _ w).alloc _).drewN _) hgrow hown1 hat; have Q3 := Lib.hid q3; clear q3)
  go_ret
  exact ⟨rfl, Q3.out⟩

theorem refAdd_any {x most : Int} {b : Nat} {F : List Nat} {w : World} {ids : List Int} (h : RefIs w b F most ids) (hm2 : most ≤ 64) (hl : ids.length ≤ 64) :
    Calls Try.prog 20 #[.pointer (some ⟨b, 0, none⟩), .int .i64 x] w fun e w' => e = .returned (.int .i64 (addErr most ids x)) ∧ ∃ F', RefIs w' b F' most (addIds most ids x) ∧ Only F w w' ∧ ∀ f ∈ F', f ∈ F ∨ w.heap.size ≤ f := by
  unfold addErr addIds
  by_cases hx : 0 ≤ x ∧ x ≤ 1048575
  · rw [if_neg (by simpa using hx)]
    by_cases hn : x ∈ ids
    · rw [if_pos hn, if_neg (by simp [hn])]
      exact (refAdd_has hx.1 hx.2 h hl hn).mono (by rintro e w' ⟨rfl, rfl⟩; exact ⟨rfl, F, h, .refl _ _, fun f hf => .inl hf⟩)
    · rw [if_neg hn]
      by_cases hm : most ≤ (ids.length : Int)
      · rw [if_pos hm, if_neg (by omega)]
        exact (refAdd_full hx.1 hx.2 h hl hn hm).mono (by rintro e w' ⟨rfl, hd⟩; exact ⟨rfl, F, h.kept (hd.only (F := [])) (by simp), hd.only, fun f hf => .inl hf⟩)
      · rw [if_neg hm, if_pos ⟨hx.1, hx.2, hn, by omega⟩]
        exact refAdd_new hx.1 hx.2 h (by omega) hm2 hn
  · rw [if_pos hx, if_neg (by omega)]
    exact (refAdd_form hx h).mono (by rintro e w' ⟨rfl, rfl⟩; exact ⟨rfl, F, h, .refl _ _, fun f hf => .inl hf⟩)

end Go.Proofs.Ytoffmcfaeolcjaa
