/- Contracts of the reference's marks. -/
import Derived.Test.YtoffmcfaeolcjaaMar2
namespace Go.Proofs.Ytoffmcfaeolcjaa
open Go.RowKit Go.Maps

/-- The reference's marks behind a pointer to block b, its blocks F. -/
def RMarksIs (w : World) (b : Nat) (F : List Nat) (zs : List Int) : Prop :=
  ∃ v, w.heap[b]? = some (.cells #[v] 57 (0, 0)) ∧ OwnInts w v zs ∧ F = b :: v.ownBlock.toList

theorem RMarksIs.lt {w : World} {b : Nat} {F : List Nat} {zs : List Int} (h : RMarksIs w b F zs) : ∀ f ∈ F, f < w.heap.size := by
  obtain ⟨v, hb, ho, rfl⟩ := h
  intro f hf
  simp only [List.mem_cons, Option.mem_toList] at hf
  rcases hf with rfl | hf
  · exact heap_lt hb
  · exact ho.lt f hf
theorem RMarksIs.kept {w w' : World} {b : Nat} {F G : List Nat} {zs : List Int} (h : RMarksIs w b F zs) (hg : Only G w w') (hd : ∀ f ∈ F, f ∉ G) : RMarksIs w' b F zs := by
  obtain ⟨v, hb, ho, rfl⟩ := h
  exact ⟨v, hg.heap hb (hd _ (by simp)), ho.kept hg fun k hk => hd k (by simp [hk]), rfl⟩

set_option maxHeartbeats 1000000 in
set_option maxRecDepth 100000 in
theorem rleast_any {b : Nat} {F : List Nat} {w : World} {zs : List Int} (h : RMarksIs w b F zs) (h0 : 0 < zs.length) (hsm : zs.length ≤ 8) :
    Calls Try.prog 33 #[.pointer (some ⟨b, 0, none⟩)] w fun e w' => e = .returned (.int .i64 (leastTo zs zs.length)) ∧ w = w' := by
  obtain ⟨v, hb, ho, rfl⟩ := h
  obtain ⟨a, c, rfl, hs, h⟩ := ho.at (by omega)
  obtain ⟨g, off, rfl, _, hc⟩ := h.resolve_left (fun e => by rw [e] at h0; simp at h0)
  have c0 := cell_of_block hb 0
  simp only [List.getElem?_toArray, List.getElem?_cons_zero] at c0
  generalize hn : zs.length = n at *
  have g0 := hc 0 h0
  have HC := Lib.hid hc
  have hone : leastTo zs 1 = zs[0]?.getD 0 := by simp [leastTo]
  have H1 := Lib.hid hone
  rw [Nat.add_zero] at g0
  clear hc h hn hone hb ho
  go_enter Try.func33, Try.ntmps33
  go_wp2
  go_loop [3, 4] (fun m i => ∃ k : Nat, 1 ≤ k ∧ k ≤ n ∧ i = .int .i64 k ∧ m = .int .i64 (leastTo zs k)) (fun _ i => n - (intOf i).toNat)
  case atStart => exact ⟨1, Nat.le_refl _, h0, rfl, by rw [H1.out]⟩
  case round =>
    obtain ⟨k, hk1, hk, rfl, rfl⟩ := hrel
    by_cases hlt : k < n
    · have g1 := HC.out k hlt
      have HL := Lib.hid (show leastTo zs (k + 1) = min (leastTo zs k) (zs[k]?.getD 0) from rfl)
      generalize leastTo zs k = u at *
      generalize zs[k]?.getD 0 = z at *
      go_wp2
      exact ⟨⟨k + 1, by omega, by omega, by go_num, congrArg _ (by rw [HL.out, Int.min_def]; split <;> split <;> omega)⟩, by simp [intOf]; omega⟩
    · obtain rfl : k = n := by omega
      go_wp2
      go_ret
      exact ⟨rfl, rfl⟩

set_option maxHeartbeats 4000000 in
set_option maxRecDepth 100000 in
theorem rset_no {b : Nat} {F : List Nat} {w : World} {zs : List Int} {s t : Int} (h : RMarksIs w b F zs) (hn : ¬(0 ≤ s ∧ s < zs.length ∧ -4398046511104 < t ∧ t ≤ 4398046511104)) :
    Calls Try.prog 31 #[.pointer (some ⟨b, 0, none⟩), .int .i64 s, .int .i64 t] w fun e w' => e = .returned (.tuple #[.bool false, .int .i64 1300]) ∧ w = w' := by
  obtain ⟨v, hb, ho, rfl⟩ := h
  have c0 := cell_of_block hb 0
  simp only [List.getElem?_toArray, List.getElem?_cons_zero] at c0
  obtain ⟨va, vc, rfl⟩ := slice_of_owns ho
  generalize zs.length = n at *
  clear ho hb
  by_cases h1 : s < 0
  · clear hn
    go_enter Try.func31, Try.ntmps31
    go_wp2_with fail
    go_ret2
    exact ⟨rfl, rfl⟩
  by_cases h2 : (n : Int) ≤ s
  · clear hn
    go_enter Try.func31, Try.ntmps31
    go_wp2_with fail
    go_ret2
    exact ⟨rfl, rfl⟩
  by_cases h3 : t ≤ -4398046511104
  · clear hn
    go_enter Try.func31, Try.ntmps31
    go_wp2_with fail
    go_ret2
    exact ⟨rfl, rfl⟩
  have h4 : 4398046511104 < t := by
    rcases Int.lt_or_le 4398046511104 t with h | h
    · exact h
    · exact (hn ⟨by omega, by omega, by omega, h⟩).elim
  clear hn
  go_enter Try.func31, Try.ntmps31
  go_wp2_with fail
  go_ret2
  exact ⟨rfl, rfl⟩

theorem rmarks_stored {b g cap s : Nat} {w : World} {zs : List Int} (hb : w.heap[b]? = some (.cells #[.slice (some ⟨g, 0, none⟩) zs.length cap] 57 (0, 0))) (ho : OwnInts w (.slice (some ⟨g, 0, none⟩) zs.length cap) zs) (u : Int) :
    RMarksIs (w.setCell ⟨g, s, none⟩ (.int .i64 u)).drew b [b, g] (zs.set s u) ∧ Only [b, g] w (w.setCell ⟨g, s, none⟩ (.int .i64 u)).drew := by
  have hown := ho
  unfold OwnInts at hown
  have hbg := own_ne hb (by decide) hown g rfl
  have h := World.ownsRow.stored hown s (.int .i64 u)
  have o : Only [g] w (w.setCell ⟨g, s, none⟩ (.int .i64 u)) := Only.of_grown h.2
  refine ⟨⟨.slice (some ⟨g, 0, none⟩) zs.length cap, (Only.drew o).heap hb (by simpa using hbg.symm), ?_, rfl⟩, (o.drew).mono (by simp)⟩
  unfold OwnInts
  rw [List.length_set, List.map_set]
  exact h.1

set_option maxHeartbeats 4000000 in
set_option maxRecDepth 100000 in
theorem rset_yes {b : Nat} {F : List Nat} {w : World} {zs : List Int} {s : Nat} {t : Int} (h : RMarksIs w b F zs) (hsm : zs.length ≤ 8) (hs : s < zs.length) (ht1 : -4398046511104 < t) (ht2 : t ≤ 4398046511104) :
    Calls Try.prog 31 #[.pointer (some ⟨b, 0, none⟩), .int .i64 s, .int .i64 t] w fun e w' => e = .returned (.tuple #[.bool (decide (leastTo zs zs.length < leastTo (zs.set s (max zs[s] t)) zs.length)), .int .i64 0]) ∧ RMarksIs w' b F (zs.set s (max zs[s] t)) ∧ Only F w w' := by
  have HM := Lib.hid h
  obtain ⟨v, hb, ho, rfl⟩ := h
  have c0 := cell_of_block hb 0
  simp only [List.getElem?_toArray, List.getElem?_cons_zero] at c0
  have hown := ho
  unfold OwnInts at hown
  obtain ⟨g, cap, rfl, _, hgl⟩ := hown.form (by omega)
  have cs := hown.cellAt s (by omega)
  rw [List.getElem?_map, List.getElem?_eq_getElem hs] at cs
  have fs := hown.frozenAt s
  have hbg := own_ne hb (by decide) hown g rfl
  simp only [Option.map_some] at cs
  have HST := Lib.hid (rmarks_stored (s := s) hb ho)
  have HL1 := Lib.hid (rleast_any HM.out (by omega) hsm)
  have HL2 := Lib.hid (fun u => rleast_any (rmarks_stored (s := s) hb ho u).1 (by rw [List.length_set]; omega) (by rw [List.length_set]; omega))
  generalize zs[s] = z at *
  simp only [List.length_set] at HL2
  generalize hn : zs.length = n at *
  clear ho hb hown
  by_cases hzt : z < t
  · have hmx : max z t = t := by omega
    have HX := Lib.hid hmx
    clear hmx
    rw [HX.out]
    go_enter Try.func31, Try.ntmps31
    go_wp2_with (first | (go_at_call 33; refine HL1.out.mono ?_; rintro e w' ⟨rfl, rfl⟩))
    go_region_law (fail)
    all_goals (go_wp2_with (go_at_call 33; refine (HL2.out t).mono ?_; rintro e w' ⟨rfl, rfl⟩))
    all_goals (go_ret2; exact ⟨rfl, HST.out t⟩)
  · have hmx : max z t = z := by omega
    have HX := Lib.hid hmx
    clear hmx
    rw [HX.out]
    go_enter Try.func31, Try.ntmps31
    go_wp2_with (first | (go_at_call 33; refine HL1.out.mono ?_; rintro e w' ⟨rfl, rfl⟩))
    go_region_law (fail)
    all_goals (go_wp2_with (go_at_call 33; refine (HL2.out z).mono ?_; rintro e w' ⟨rfl, rfl⟩))
    all_goals (go_ret2; exact ⟨rfl, HST.out z⟩)

theorem rset_any {b : Nat} {F : List Nat} {w : World} {zs : List Int} (h1 : RMarksIs w b F zs) (hsm : zs.length ≤ 8) {s t : Int} :
    Calls Try.prog 31 #[.pointer (some ⟨b, 0, none⟩), .int .i64 s, .int .i64 t] w fun e w' => e = .returned (.tuple #[.bool (decide (leastTo zs zs.length < leastTo (setMarks zs s t) zs.length)), .int .i64 (setErr zs s t)]) ∧ RMarksIs w' b F (setMarks zs s t) ∧ Only F w w' := by
  unfold setMarks setErr
  by_cases hok : setOk zs s t
  · rw [if_pos hok, if_pos hok]
    obtain ⟨k1, k2, k3, k4⟩ := hok
    obtain ⟨n, rfl⟩ := Int.eq_ofNat_of_zero_le k1
    have hn : n < zs.length := by omega
    rw [Int.toNat_natCast, List.getElem?_eq_getElem hn]
    exact rset_yes h1 hsm hn k3 k4
  · rw [if_neg hok, if_neg hok]
    refine (rset_no h1 hok).mono ?_
    rintro e w' ⟨rfl, rfl⟩
    exact ⟨by rw [decide_eq_false (Int.lt_irrefl _)], h1, .refl _ _⟩

theorem rnew_no (x : Int) (w : World) (h : x < 1 ∨ 8 < x) : Calls Try.prog 27 #[.int .i64 x] w fun e w' => e = .returned (.tuple #[.pointer none, .int .i64 1300]) ∧ w = w' := by
  rcases h with h | h
  all_goals
    go_enter Try.func27, Try.ntmps27
    go_wp2_with fail
    all_goals (first | (go_ret2; exact ⟨rfl, rfl⟩) | (exfalso; omega))

/-- A row of marks that grows. -/
def RGrow (w wr : World) (k : Nat) : Prop := ∃ v, wr.heap[w.heap.size]? = some (.cells #[v] 57 (0, 0)) ∧ OwnInts wr v (List.replicate k noMark) ∧ (∀ g, v.ownBlock = some g → w.heap.size ≤ g) ∧ Only [] w wr

set_option maxHeartbeats 4000000 in
set_option maxRecDepth 100000 in
theorem rnew_yes {c : Nat} {w : World} (h : 1 ≤ c) (h2 : c ≤ 8) : Calls Try.prog 27 #[.int .i64 c] w fun e w' => e = .returned (.tuple #[.pointer (some ⟨w.heap.size, 0, none⟩), .int .i64 0]) ∧ RGrow w w' c := by
  obtain ⟨i0, hi, hz0, hz1, hz2⟩ := info_parts infoInt
  go_enter Try.func27, Try.ntmps27
  go_wp2
  go_loopw [5] (fun i wr => ∃ k : Nat, k ≤ c ∧ i = .int .i64 k ∧ Hid (RGrow w wr k)) (fun i _ => c - (intOf i).toNat)
  case atStart => exact ⟨0, Nat.zero_le _, rfl, .slice none 0 0, heap_alloc_new w _, OwnInts.nil _, by simp [Value.ownBlock], (Only.refl _ _).alloc _⟩
  case round =>
    obtain ⟨k, hk, rfl, hG⟩ := hrel
    by_cases hlt : k < c
    · obtain ⟨v, hb, ho, hv, hon⟩ := hG.out
      have hbl := heap_lt hb
      have c0 := cell_of_block hb 0
      simp only [List.getElem?_toArray, List.getElem?_cons_zero] at c0
      have hown := ho
      unfold OwnInts at hown
      rw [List.length_replicate] at hown
      have hbo := own_ne hb (by decide) hown
      have HA := Lib.hid (show ∀ W w1 g cap, Only [] wr W → W.grownBy w1 v.ownBlock → w1.ownsRow 0 3 1 (.slice (some ⟨g, 0, none⟩) (k + 1) cap) (k + 1) ((List.replicate k noMark).map (Value.int .i64) ++ [.int .i64 (-4398046511104)]) → (v.ownBlock = some g ∨ g = W.heap.size) →
          w1.cell? ⟨w.heap.size, 0, none⟩ = some v ∧ w1.frozen? ⟨w.heap.size, 0, none⟩ = false ∧ Hid (RGrow w (w1.setCell ⟨w.heap.size, 0, none⟩ (.slice (some ⟨g, 0, none⟩) (k + 1) cap)) (k + 1)) from by
        intro W w1 g cap o hg hw1 hat
        have o1 : Only v.ownBlock.toList wr w1 := (o.mono (by simp)).trans (Only.of_grown hg) fun k hk => .inl hk
        have hb1 := o1.heap hb (by simp only [Option.mem_toList]; intro h; exact hbo _ h rfl)
        have o2 : Only [w.heap.size] w1 (w1.setCell ⟨w.heap.size, 0, none⟩ (.slice (some ⟨g, 0, none⟩) (k + 1) cap)) := (Only.refl _ _).setCell (by simp) _
        have hbg := own_ne hb1 (by decide) hw1 g rfl
        refine ⟨by rw [cell_of_block hb1]; rfl, free_of_block hb1 0, _, heap_setCell_at hb1 0 _, ?_, ?_, (hon.step o1 (fun g hg => hv g (by simpa using hg))).step o2 (by simp)⟩
        · have := o2.ownsRow hw1 (fun k hk => by cases hk; simpa using hbg)
          unfold OwnInts
          rw [List.replicate_succ', List.map_append, List.length_append, List.length_replicate]
          exact this
        · intro g' hg'
          cases hg'
          rcases hat with h | h
          · exact hv _ h
          · show w.heap.size ≤ g; have := hon.size; have := o.size; omega)
      obtain ⟨va, vc, rfl⟩ := slice_of_owns hown
      clear hb ho hbo
      go_wp2_with (at_builtin; refine wpList_append_lies _ rfl _ _ 22 rfl 0 3 i0 _ 1 8 Try.underlying22 hi hz0 hz1 hz2 rfl (by decide) _ k _ rfl (hown.alloc _) ⟨_, 0, none⟩ 1 1 [.int .i64 (-4398046511104)] rfl rfl (World.news_of_block (heap_alloc_new _ _)) (by simp [Value.oneCell']) (by omega) (by unfold maxLen; omega) (by omega) (Nat.zero_le _) _ rfl ?_; intro g cap w1 hown1 hgrow hat hlt; obtain ⟨q1, q2, q3⟩ := HA.out _ _ _ _ ((Only.refl _ _).alloc _) hgrow hown1 hat)
      exact ⟨⟨k + 1, by omega, by go_num, q3⟩, by simp [intOf]; omega⟩
    · obtain rfl : k = c := by omega
      go_wp2
      go_ret2
      exact ⟨rfl, hG.out⟩
end Go.Proofs.Ytoffmcfaeolcjaa
