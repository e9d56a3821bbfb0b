/- Contracts of package marks: the methods. -/
import Derived.Test.YtoffmcfaeolcjaaMar0
import Derived.Deep.DeepFit
namespace Go.Proofs.Ytoffmcfaeolcjaa
open Go.RowKit Go.Maps

/-- The least of the first k numbers (the first one if k is 0). -/
def leastTo (zs : List Int) : Nat → Int
  | 0 => zs[0]?.getD 0
  | k + 1 => min (leastTo zs k) (zs[k]?.getD 0)

set_option maxHeartbeats 1000000 in
set_option maxRecDepth 100000 in
theorem min_any {v : Value} {zs : List Int} {w : World} (h : IntsAt w v zs) (h0 : 0 < zs.length) (hsm : zs.length ≤ 8) :
    Calls Try.prog 50 #[v] w fun e w' => e = .returned (.int .i64 (leastTo zs zs.length)) ∧ w = w' := by
  obtain ⟨a, c, rfl, hs, h⟩ := h
  obtain ⟨b, off, rfl, hb, hc⟩ := h.resolve_left (fun e => by rw [e] at h0; simp at h0)
  generalize hn : zs.length = n at *
  have g0 := hc 0 h0
  have HC := Lib.hid hc
  have HN := Lib.hid hn
  have hone : leastTo zs 1 = zs[0]?.getD 0 := by simp [leastTo]
  have H1 := Lib.hid hone
  rw [Nat.add_zero] at g0
  clear hc h hn hone
  go_enter Try.func50, Try.ntmps50
  go_wp2
  go_loop [3, 4] (fun m i => ∃ k : Nat, 1 ≤ k ∧ k ≤ n ∧ i = .int .i64 k ∧ m = .int .i64 (leastTo zs k)) (fun _ i => n - (intOf i).toNat)
  case atStart => exact ⟨1, Nat.le_refl _, h0, rfl, by rw [H1.out]⟩
  case round =>
    obtain ⟨k, hk1, hk, rfl, rfl⟩ := hrel
    by_cases hlt : k < n
    · have g1 := HC.out k hlt
      have HL := Lib.hid (show leastTo zs (k + 1) = min (leastTo zs k) (zs[k]?.getD 0) from rfl)
      generalize leastTo zs k = u at *
      generalize zs[k]?.getD 0 = z at *
      go_wp2
      exact ⟨⟨k + 1, by omega, by omega, by go_num, congrArg _ (by rw [HL.out, Int.min_def]; split <;> split <;> omega)⟩, by simp [intOf]; omega⟩
    · obtain rfl : k = n := by omega
      go_wp2
      go_ret
      exact ⟨rfl, rfl⟩

/-- The marks behind a pointer to block b, its blocks F. -/
def MarksIs (w : World) (b : Nat) (F : List Nat) (zs : List Int) : Prop :=
  ∃ v, w.heap[b]? = some (.cells #[v] 88 (0, 0)) ∧ OwnInts w v zs ∧ F = b :: v.ownBlock.toList

theorem MarksIs.lt {w : World} {b : Nat} {F : List Nat} {zs : List Int} (h : MarksIs w b F zs) : ∀ f ∈ F, f < w.heap.size := by
  obtain ⟨v, hb, ho, rfl⟩ := h
  intro f hf
  simp only [List.mem_cons, Option.mem_toList] at hf
  rcases hf with rfl | hf
  · exact heap_lt hb
  · exact ho.lt f hf
theorem MarksIs.kept {w w' : World} {b : Nat} {F G : List Nat} {zs : List Int} (h : MarksIs w b F zs) (hg : Only G w w') (hd : ∀ f ∈ F, f ∉ G) : MarksIs w' b F zs := by
  obtain ⟨v, hb, ho, rfl⟩ := h
  exact ⟨v, hg.heap hb (hd _ (by simp)), ho.kept hg fun k hk => hd k (by simp [hk]), rfl⟩

theorem marksNew_no (x : Int) (w : World) (h : x < 1 ∨ 8 < x) : Calls Try.prog 26 #[.int .i64 x] w fun e w' => e = .returned (.tuple #[.pointer none, .int .i64 1300]) ∧ w = w' := by
  go_enter Try.func26, Try.ntmps26
  go_wp2_with fail
  all_goals (first | (go_ret2; exact ⟨rfl, rfl⟩) | (exfalso; omega))

def noMark : Int := -4398046511104

theorem own_of_fill {w : World} {g c : Nat} {x : Int} (h : w.heap[g]? = some (.cells (fillL x c c).toArray 3 (0, 0))) (hc : c ≤ 8) : OwnInts w (.slice (some ⟨g, 0, none⟩) c c) (List.replicate c x) := by
  refine ⟨by simp, .inr ⟨g, c, _, by simp, Nat.zero_le _, h, by simp, by unfold maxLen; omega, by simp [fillL_len], ?_⟩⟩
  simp [fillL]

theorem marksNew_yes {x : Int} {w : World} (h : 1 ≤ x) (h2 : x ≤ 8) : Calls Try.prog 26 #[.int .i64 x] w fun e w' => ∃ b F, e = .returned (.tuple #[.pointer (some ⟨b, 0, none⟩), .int .i64 0]) ∧ MarksIs w' b F (List.replicate x.toNat noMark) ∧ Only [] w w' ∧ ∀ f ∈ F, w.heap.size ≤ f := by
  obtain ⟨n, rfl⟩ := Int.eq_ofNat_of_zero_le (show 0 ≤ x by omega)
  go_enter Try.func26, Try.ntmps26
  go_wp2_with fail
  refine (repeat_one (x := -4398046511104) (by omega) (by omega) (by simp)).mono ?_
  rintro e w1 ⟨rfl, hg, ho⟩
  have HG := Lib.hid hg
  clear hg
  go_wp2
  go_ret2
  have o1 : Only [] w w1 := ((Only.refl _ _).alloc _).nil ho
  refine ⟨w1.heap.size, _, rfl, ⟨.slice (some ⟨w.heap.size + 1, 0, none⟩) n n, heap_alloc_new w1 _, ?_, rfl⟩, o1.alloc _, ?_⟩
  · refine OwnInts.kept (F := []) ?_ ((Only.refl _ w1).alloc _) (by simp)
    have := HG.out
    simp only [World.size_alloc] at this
    exact own_of_fill this (by omega)
  · intro f hf
    have := ho.size
    simp [Value.ownBlock] at hf this
    omega

theorem least_any {b : Nat} {F : List Nat} {w : World} {zs : List Int} (h : MarksIs w b F zs) (h0 : 0 < zs.length) (hsm : zs.length ≤ 8) :
    Calls Try.prog 29 #[.pointer (some ⟨b, 0, none⟩)] w fun e w' => e = .returned (.int .i64 (leastTo zs zs.length)) ∧ w = w' := by
  obtain ⟨v, hb, ho, rfl⟩ := h
  have HI := Lib.hid (ho.at (by omega))
  have c0 := cell_of_block hb 0
  simp only [List.getElem?_toArray, List.getElem?_cons_zero] at c0
  clear ho hb
  go_enter Try.func29, Try.ntmps29
  go_wp2_with (go_at_call 50; refine (min_any HI.out h0 hsm).mono ?_; rintro e w' ⟨rfl, rfl⟩)
  go_ret
  exact ⟨rfl, rfl⟩

theorem all_any {b : Nat} {F : List Nat} {w : World} {zs : List Int} (h : MarksIs w b F zs) (hsm : zs.length ≤ 8) :
    Calls Try.prog 32 #[.pointer (some ⟨b, 0, none⟩)] w fun e w' => ∃ v', e = .returned v' ∧ OwnInts w' v' zs ∧ Only [] w w' ∧ ∀ k, v'.ownBlock = some k → w.heap.size ≤ k := by
  obtain ⟨v, hb, ho, rfl⟩ := h
  have HI := Lib.hid (ho.at (by omega))
  have c0 := cell_of_block hb 0
  simp only [List.getElem?_toArray, List.getElem?_cons_zero] at c0
  clear ho hb
  go_enter Try.func32, Try.ntmps32
  go_wp2_with (go_at_call 48; refine (clone_ints HI.out).mono ?_; rintro e w' ⟨v', rfl, h1, h2, h3⟩)
  go_ret
  exact ⟨v', rfl, h1, h2, h3⟩

theorem markMay_any (x : Int) (w : World) : Calls Try.prog 51 #[.int .i64 x] w fun e w' => e = .returned (.bool (decide (-4398046511104 < x ∧ x ≤ 4398046511104))) ∧ w = w' := by
  go_enter Try.func51, Try.ntmps51
  go_wp2
  all_goals (go_ret; refine ⟨?_, rfl⟩; congr 2; simp; try omega)

set_option maxHeartbeats 4000000 in
set_option maxRecDepth 100000 in
theorem set_no {b : Nat} {F : List Nat} {w : World} {zs : List Int} {s t : Int} (h : MarksIs w b F zs) (hn : ¬(0 ≤ s ∧ s < zs.length ∧ -4398046511104 < t ∧ t ≤ 4398046511104)) :
    Calls Try.prog 30 #[.pointer (some ⟨b, 0, none⟩), .int .i64 s, .int .i64 t] w fun e w' => e = .returned (.tuple #[.bool false, .int .i64 1300]) ∧ w = w' := by
  obtain ⟨v, hb, ho, rfl⟩ := h
  have c0 := cell_of_block hb 0
  simp only [List.getElem?_toArray, List.getElem?_cons_zero] at c0
  obtain ⟨va, vc, rfl⟩ := slice_of_owns ho
  generalize zs.length = n at *
  clear ho hb
  by_cases h1 : s < 0
  · clear hn
    go_enter Try.func30, Try.ntmps30
    go_wp2_with fail
    go_ret2
    exact ⟨rfl, rfl⟩
  by_cases h2 : (n : Int) ≤ s
  · clear hn
    go_enter Try.func30, Try.ntmps30
    go_wp2_with fail
    go_ret2
    exact ⟨rfl, rfl⟩
  have hd : decide (-4398046511104 < t ∧ t ≤ 4398046511104) = false := decide_eq_false (fun h => hn ⟨by omega, by omega, h⟩)
  clear hn
  go_enter Try.func30, Try.ntmps30
  go_wp2_with (go_at_call 51; refine (markMay_any _ _).mono ?_; rintro e w' ⟨rfl, rfl⟩; rw [hd])
  go_ret2
  exact ⟨rfl, rfl⟩

theorem marks_stored {b g cap s : Nat} {w : World} {zs : List Int} (hb : w.heap[b]? = some (.cells #[.slice (some ⟨g, 0, none⟩) zs.length cap] 88 (0, 0))) (ho : OwnInts w (.slice (some ⟨g, 0, none⟩) zs.length cap) zs) (u : Int) :
    MarksIs (w.setCell ⟨g, s, none⟩ (.int .i64 u)).drew b [b, g] (zs.set s u) ∧ Only [b, g] w (w.setCell ⟨g, s, none⟩ (.int .i64 u)).drew := by
  have hown := ho
  unfold OwnInts at hown
  have hbg := own_ne hb (by decide) hown g rfl
  have h := World.ownsRow.stored hown s (.int .i64 u)
  have o : Only [g] w (w.setCell ⟨g, s, none⟩ (.int .i64 u)) := Only.of_grown h.2
  refine ⟨⟨.slice (some ⟨g, 0, none⟩) zs.length cap, (Only.drew o).heap hb (by simpa using hbg.symm), ?_, rfl⟩, (o.drew).mono (by simp)⟩
  unfold OwnInts
  rw [List.length_set, List.map_set]
  exact h.1

set_option maxHeartbeats 4000000 in
set_option maxRecDepth 100000 in
theorem set_yes {b : Nat} {F : List Nat} {w : World} {zs : List Int} {s : Nat} {t : Int} (h : MarksIs w b F zs) (hsm : zs.length ≤ 8) (hs : s < zs.length) (ht1 : -4398046511104 < t) (ht2 : t ≤ 4398046511104) :
    Calls Try.prog 30 #[.pointer (some ⟨b, 0, none⟩), .int .i64 s, .int .i64 t] w fun e w' => e = .returned (.tuple #[.bool (decide (leastTo zs zs.length < leastTo (zs.set s (max zs[s] t)) zs.length)), .int .i64 0]) ∧ MarksIs w' b F (zs.set s (max zs[s] t)) ∧ Only F w w' := by
  have HM := Lib.hid h
  obtain ⟨v, hb, ho, rfl⟩ := h
  have c0 := cell_of_block hb 0
  simp only [List.getElem?_toArray, List.getElem?_cons_zero] at c0
  have hown := ho
  unfold OwnInts at hown
  obtain ⟨g, cap, rfl, _, hgl⟩ := hown.form (by omega)
  have cs := hown.cellAt s (by omega)
  rw [List.getElem?_map, List.getElem?_eq_getElem hs] at cs
  have fs := hown.frozenAt s
  have hbg := own_ne hb (by decide) hown g rfl
  have hd : decide (-4398046511104 < t ∧ t ≤ 4398046511104) = true := decide_eq_true ⟨ht1, ht2⟩
  simp only [Option.map_some] at cs
  have HST := Lib.hid (marks_stored (s := s) hb ho)
  have HL1 := Lib.hid (least_any HM.out (by omega) hsm)
  have HL2 := Lib.hid (fun u => least_any (marks_stored (s := s) hb ho u).1 (by rw [List.length_set]; omega) (by rw [List.length_set]; omega))
  generalize zs[s] = z at *
  simp only [List.length_set] at HL2
  generalize hn : zs.length = n at *
  clear ho hb hown
  by_cases hzt : z < t
  · have hmx : max z t = t := by omega
    have HX := Lib.hid hmx
    clear hmx
    rw [HX.out]
    go_enter Try.func30, Try.ntmps30
    go_wp2_with (first | (go_at_call 51; refine (markMay_any _ _).mono ?_; rintro e w' ⟨rfl, rfl⟩; rw [hd]) | (go_at_call 29; refine HL1.out.mono ?_; rintro e w' ⟨rfl, rfl⟩))
    go_region_law (fail)
    all_goals (go_wp2_with (go_at_call 29; refine (HL2.out t).mono ?_; rintro e w' ⟨rfl, rfl⟩))
    all_goals (go_ret2; exact ⟨rfl, HST.out t⟩)
  · have hmx : max z t = z := by omega
    have HX := Lib.hid hmx
    clear hmx
    rw [HX.out]
    go_enter Try.func30, Try.ntmps30
    go_wp2_with (first | (go_at_call 51; refine (markMay_any _ _).mono ?_; rintro e w' ⟨rfl, rfl⟩; rw [hd]) | (go_at_call 29; refine HL1.out.mono ?_; rintro e w' ⟨rfl, rfl⟩))
    go_region_law (fail)
    all_goals (go_wp2_with (go_at_call 29; refine (HL2.out z).mono ?_; rintro e w' ⟨rfl, rfl⟩))
    all_goals (go_ret2; exact ⟨rfl, HST.out z⟩)
end Go.Proofs.Ytoffmcfaeolcjaa
