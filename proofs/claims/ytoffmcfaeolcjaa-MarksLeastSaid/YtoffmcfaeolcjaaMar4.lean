/- Marks, the walk. -/
import Derived.Test.YtoffmcfaeolcjaaMar3
import Derived.Deep.RegionHeld3
import Derived.Deep.DeepFit
namespace Go.Proofs.Ytoffmcfaeolcjaa
open Go.RowKit Go.Maps

/-- v is a slice of pairs that reads as ps. -/
def PairsAt (w : World) (v : Value) (ps : List (Int × Int)) : Prop :=
  ∃ a c, v = .slice a ps.length c ∧ ps.length * 16 ≤ 140737488355328 ∧ (ps = [] ∨ ∃ b off, a = some ⟨b, off, none⟩ ∧ b < w.heap.size ∧ ∀ j, j < ps.length → w.cell? ⟨b, off + j * 2, none⟩ = some (.int .i64 (ps[j]?.getD (0, 0)).1) ∧ w.cell? ⟨b, off + j * 2 + 1, none⟩ = some (.int .i64 (ps[j]?.getD (0, 0)).2))

theorem leastTo_mono {xs ys : List Int} (h : ∀ j : Nat, xs[j]?.getD 0 ≤ ys[j]?.getD 0) : ∀ k, leastTo xs k ≤ leastTo ys k
  | 0 => h 0
  | k + 1 => by have h1 := leastTo_mono h k; have h2 := h k; unfold leastTo; omega

theorem setMarks_ge (zs : List Int) (s t : Int) (j : Nat) : zs[j]?.getD 0 ≤ (setMarks zs s t)[j]?.getD 0 := by
  unfold setMarks
  split
  · rw [List.getElem?_set]
    split
    · rename_i h
      subst h
      split
      · simp only [Option.getD_some]; omega
      · rename_i h2
        rw [List.getElem?_eq_none (by omega)]
        simp
    · exact Int.le_refl _
  · exact Int.le_refl _

/-- Both sets of marks, apart from one another and from what was there. -/
def BM (w wr : World) (b b2 : Nat) (zs ys : List Int) : Prop :=
  ∃ F G, MarksIs wr b F zs ∧ RMarksIs wr b2 G ys ∧ (∀ f ∈ F, f ∉ G) ∧ (∀ f ∈ F, w.heap.size ≤ f) ∧ (∀ g ∈ G, w.heap.size ≤ g) ∧ Only [] w wr

theorem BM.kept {w wr wx : World} {b b2 : Nat} {zs ys : List Int} (h : BM w wr b b2 zs ys) (o : Only [] wr wx) : BM w wx b b2 zs ys := by
  obtain ⟨F, G, h1, h2, h3, h4, h5, h6⟩ := h
  exact ⟨F, G, h1.kept o (by simp), h2.kept o (by simp), h3, h4, h5, h6.nil o⟩
theorem BM.only {w wr : World} {b b2 : Nat} {zs ys : List Int} (h : BM w wr b b2 zs ys) : Only [] w wr := by
  obtain ⟨F, G, h1, h2, h3, h4, h5, h6⟩ := h
  exact h6

theorem BM.set {w wr : World} {b b2 n : Nat} {zs ys : List Int} (h : BM w wr b b2 zs ys) (hlen : zs.length = n) (hsm : n ≤ 8) {s t : Int} :
    Calls Try.prog 30 #[.pointer (some ⟨b, 0, none⟩), .int .i64 s, .int .i64 t] wr fun e w' => e = .returned (.tuple #[.bool (decide (leastTo zs n < leastTo (setMarks zs s t) n)), .int .i64 (setErr zs s t)]) ∧ BM w w' b b2 (setMarks zs s t) ys := by
  subst hlen
  obtain ⟨F, G, h1, h2, h3, h4, h5, h6⟩ := h
  unfold setMarks setErr
  by_cases hok : setOk zs s t
  · rw [if_pos hok, if_pos hok]
    obtain ⟨k1, k2, k3, k4⟩ := hok
    obtain ⟨n, rfl⟩ := Int.eq_ofNat_of_zero_le k1
    have hn : n < zs.length := by omega
    rw [Int.toNat_natCast, List.getElem?_eq_getElem hn]
    refine (set_yes h1 hsm hn k3 k4).mono ?_
    rintro e w' ⟨rfl, g1, g2⟩
    exact ⟨rfl, F, G, g1, h2.kept g2 (fun g hg hf => h3 g hf hg), h3, h4, h5, h6.step g2 h4⟩
  · rw [if_neg hok, if_neg hok]
    refine (set_no h1 hok).mono ?_
    rintro e w' ⟨rfl, rfl⟩
    exact ⟨by rw [decide_eq_false (Int.lt_irrefl _)], F, G, h1, h2, h3, h4, h5, h6⟩

theorem BM.rset {w wr : World} {b b2 n : Nat} {zs ys : List Int} (h : BM w wr b b2 zs ys) (hlen : ys.length = n) (hsm : n ≤ 8) {s t : Int} :
    Calls Try.prog 31 #[.pointer (some ⟨b2, 0, none⟩), .int .i64 s, .int .i64 t] wr fun e w' => e = .returned (.tuple #[.bool (decide (leastTo ys n < leastTo (setMarks ys s t) n)), .int .i64 (setErr ys s t)]) ∧ BM w w' b b2 zs (setMarks ys s t) := by
  subst hlen
  obtain ⟨F, G, h1, h2, h3, h4, h5, h6⟩ := h
  refine (rset_any h2 hsm).mono ?_
  rintro e w' ⟨rfl, g1, g2⟩
  exact ⟨rfl, F, G, h1.kept g2 h3, g1, h3, h4, h5, h6.step g2 h5⟩

theorem BM.least {w wr : World} {b b2 n : Nat} {zs ys : List Int} (h : BM w wr b b2 zs ys) (hn : zs.length = n) (h0 : 0 < n) (hsm : n ≤ 8) :
    Calls Try.prog 29 #[.pointer (some ⟨b, 0, none⟩)] wr fun e w' => e = .returned (.int .i64 (leastTo zs n)) ∧ wr = w' := by
  obtain ⟨F, G, h1, h2, h3, h4, h5, h6⟩ := h
  subst hn
  exact least_any h1 h0 hsm
theorem BM.rleast {w wr : World} {b b2 n : Nat} {zs ys : List Int} (h : BM w wr b b2 zs ys) (hn : ys.length = n) (h0 : 0 < n) (hsm : n ≤ 8) :
    Calls Try.prog 33 #[.pointer (some ⟨b2, 0, none⟩)] wr fun e w' => e = .returned (.int .i64 (leastTo ys n)) ∧ wr = w' := by
  obtain ⟨F, G, h1, h2, h3, h4, h5, h6⟩ := h
  subst hn
  exact rleast_any h2 h0 hsm
theorem BM.all {w wr : World} {b b2 : Nat} {zs ys : List Int} (h : BM w wr b b2 zs ys) (hsm : zs.length ≤ 8) :
    Calls Try.prog 32 #[.pointer (some ⟨b, 0, none⟩)] wr fun e w' => ∃ v', e = .returned v' ∧ OwnInts w' v' zs ∧ Only [] wr w' ∧ ∀ k, v'.ownBlock = some k → wr.heap.size ≤ k := by
  obtain ⟨F, G, h1, h2, h3, h4, h5, h6⟩ := h
  exact all_any h1 hsm
theorem BM.field {w wr : World} {b b2 : Nat} {zs ys : List Int} (h : BM w wr b b2 zs ys) (hsm : ys.length ≤ 8) : ∃ v, wr.cell? ⟨b2, 0, none⟩ = some v ∧ IntsAt wr v ys := by
  obtain ⟨F, G, h1, h2, h3, h4, h5, h6⟩ := h
  obtain ⟨v, hb, ho, rfl⟩ := h2
  exact ⟨v, by rw [cell_of_block hb]; rfl, ho.at (by omega)⟩

set_option maxHeartbeats 4000000 in
set_option maxRecDepth 100000 in
theorem marks_walk {sources : Int} {v : Value} {ps : List (Int × Int)} {w : World} (_hm : (Lit.int .i64 sources).wf = true) (h : PairsAt w v ps) :
    Calls Try.prog 6 #[.int .i64 sources, v] w fun e w' => e = .returned (.bool true) ∧ Only [] w w' := by
  obtain ⟨a, c, rfl, hs, h⟩ := h
  by_cases hin : 1 ≤ sources ∧ sources ≤ 8
  case neg =>
    go_enter Try.func6, Try.ntmps6
    go_wp2_with fail
    refine (marksNew_no _ _ (by omega)).mono ?_
    rintro e _ ⟨rfl, rfl⟩
    go_wp2_with fail
    refine (rnew_no _ _ (by omega)).mono ?_
    rintro e _ ⟨rfl, rfl⟩
    go_wp2_with (first | (go_at_call 17; refine (num_any _ _).mono ?_; rintro e _ ⟨rfl, rfl⟩) | (go_at_call 28; refine (awakeMarks _).mono ?_; rintro e w1 ⟨rfl, o1⟩))
    go_ret
    exact ⟨rfl, o1⟩
  case pos =>
    obtain ⟨hi1, hi2⟩ := hin
    obtain ⟨m, rfl⟩ := Int.eq_ofNat_of_zero_le (show 0 ≤ sources by omega)
    generalize hn : ps.length = n at *
    have HN := Lib.hid hn
    clear hn
    go_enter Try.func6, Try.ntmps6
    go_wp2_with fail
    refine (marksNew_yes hi1 hi2).mono ?_
    rintro e w1 ⟨b, F, rfl, h1, o1, f1⟩
    go_wp2_with fail
    refine (rnew_yes (c := m) (by omega) (by omega)).mono ?_
    rintro e w2 ⟨rfl, h2⟩
    have hboth : BM w w2 b w1.heap.size (List.replicate m noMark) (List.replicate m noMark) := by
      obtain ⟨v2, g1, g2, g3, g4⟩ := h2
      refine ⟨F, w1.heap.size :: v2.ownBlock.toList, by simpa using h1.kept g4 (by simp), ⟨v2, g1, g2, rfl⟩, ?_, f1, ?_, o1.nil g4⟩
      · intro f hf hm
        have := h1.lt f hf
        simp only [List.mem_cons, Option.mem_toList] at hm
        rcases hm with rfl | hm
        · omega
        · have := g3 f hm; omega
      · intro f hm
        have := o1.size
        simp only [List.mem_cons, Option.mem_toList] at hm
        rcases hm with rfl | hm
        · omega
        · have := g3 f hm; omega
    obtain ⟨b2, hb2⟩ : ∃ b2, b2 = w1.heap.size := ⟨_, rfl⟩
    rw [← hb2] at hboth
    rw [← hb2]
    have HB := Lib.hid (show ∃ zs : List Int, zs.length = m ∧ BM w w2 b b2 zs zs from ⟨_, by simp, hboth⟩)
    clear hboth h1 o1 f1 h2 hb2
    go_wp2_with (first | (go_at_call 17; refine (num_any _ _).mono ?_; rintro e _ ⟨rfl, rfl⟩))
    rcases h with h0 | ⟨bi, off, rfl, hbi, hc⟩
    · have h00 : n = 0 := by rw [← HN.out, h0]; rfl
      subst h00
      clear h0
      refine wp_loop_rounds 1 ?_
      rw [rounds_succ]
      go_wp2_with (first | (go_at_call 28; refine (awakeMarks _).mono ?_; rintro e w1 ⟨rfl, o1⟩))
      obtain ⟨_, _, hB⟩ := HB.out
      go_ret
      exact ⟨rfl, hB.only.nil o1⟩
    have HC := Lib.hid hc
    clear hc
    go_loopw [9] (fun i wr => ∃ k : Nat, k ≤ n ∧ i = .int .i64 k ∧ Hid (∃ zs : List Int, zs.length = m ∧ BM w wr b b2 zs zs)) (fun i _ => n - (intOf i).toNat)
    case atStart => exact ⟨0, Nat.zero_le _, rfl, HB⟩
    case round =>
      obtain ⟨k, hk, rfl, hL⟩ := hrel
      clear HB
      by_cases hlt : k < n ∧ k < 60
      · obtain ⟨hlt, hlt2⟩ := hlt
        obtain ⟨zs, hzl, hB⟩ := hL.out
        obtain ⟨q1, q2⟩ := HC.out k hlt
        have g1 := hB.only.cell q1 (by simp)
        have g2 := hB.only.cell q2 (by simp)
        have HBM := Lib.hid hB
        have HZL := Lib.hid hzl
        have HK := Lib.hid (fun (W : World) (o : Only [] w W) => And.intro (o.cell q1 (by simp)) (o.cell q2 (by simp)))
        clear q1 q2 hB hzl
        generalize (ps[k]?.getD (0, 0)).1 = s at *
        generalize (ps[k]?.getD (0, 0)).2 = t at *
        go_wp2_with fail
        refine (HBM.out.least HZL.out (by omega) (by omega)).mono ?_
        rintro e _ ⟨rfl, rfl⟩
        go_wp2_with fail
        go_region_held3 (fun w' => w'.cell? ⟨bi, off + k * 2, none⟩ = some (.int .i64 s) ∧ w'.cell? ⟨bi, off + k * 2 + 1, none⟩ = some (.int .i64 t))
          (first | go_keep | exact ⟨r1, r2⟩)
          ((first | (go_at_call 30; refine ((HBM.out.kept (Only.refl _ _).drew).set HZL.out (by omega)).mono ?_; rintro e w3 ⟨rfl, h3⟩; have H3 := Lib.hid h3; obtain ⟨r1, r2⟩ := HK.out _ h3.only; clear h3)))
        go_wp2_with fail
        go_region_held3 (fun w' => w'.cell? ⟨bi, off + k * 2, none⟩ = some (.int .i64 s) ∧ w'.cell? ⟨bi, off + k * 2 + 1, none⟩ = some (.int .i64 t))
          (first | go_keep | exact ⟨r3, r4⟩)
          ((first | (go_at_call 31; refine ((H3.out.kept (Only.refl _ _).drew).rset HZL.out (by omega)).mono ?_; rintro e w4 ⟨rfl, h4⟩; have H4 := Lib.hid h4; obtain ⟨r3, r4⟩ := HK.out _ h4.only; clear h4)))
        have HZ2 := Lib.hid ((setMarks_len zs s t).trans HZL.out)
        have hAB := leastTo_mono (setMarks_ge zs s t) m
        have hnlt : ¬ leastTo (setMarks zs s t) m < leastTo zs m := by omega
        go_wp2_with fail
        generalize setMarks zs s t = zs2 at *
        clear hAB
        refine (H4.out.all (by rw [HZ2.out]; omega)).mono ?_
        rintro e w6 ⟨v6, rfl, h6, o6, f6⟩
        obtain ⟨v5, c5, i5⟩ := H4.out.field (by rw [HZ2.out]; omega)
        have c6 := o6.cell c5 (by simp)
        have I6 := Lib.hid (i5.nilkept o6)
        have H6 := Lib.hid (H4.out.kept o6)
        have hz8 : zs2.length * 8 ≤ 140737488355328 := by rw [HZ2.out]; omega
        clear i5 c5
        go_wp2_with (first | (go_at_call 17; refine (num_any _ _).mono ?_; rintro e _ ⟨rfl, rfl⟩) | (go_at_call 29; refine (H6.out.least HZ2.out (by omega) (by omega)).mono ?_; rintro e _ ⟨rfl, rfl⟩) | (go_at_call 33; refine (H6.out.rleast HZ2.out (by omega) (by omega)).mono ?_; rintro e _ ⟨rfl, rfl⟩))
        refine (sameInts_yes (h6.at hz8) I6.out rfl).mono ?_
        rintro e _ ⟨rfl, n6, rfl⟩
        have h7 := h6.kept ((Only.refl [] w6).drewN n6) (by simp)
        have H7 := Lib.hid (H6.out.kept ((Only.refl [] w6).drewN n6))
        have hne : (decide (leastTo zs m < leastTo zs2 m) != decide (leastTo zs m < leastTo zs2 m)) = false := by simp
        go_wp2_with (first | (go_at_call 29; refine (H7.out.least HZ2.out (by omega) (by omega)).mono ?_; rintro e _ ⟨rfl, rfl⟩) | (go_at_call 25; refine (spoilInts_any h7 hz8).mono ?_; rintro e w8 ⟨rfl, h8, o8⟩; have hB8 := Lib.hid (H4.out.kept ((o6.drewN n6).step o8 (fun g hg => f6 g (by simpa using hg)))); clear h8 o8))
        exact ⟨⟨k + 1, by omega, by go_num, ⟨zs2, HZ2.out, hB8.out⟩⟩, by simp [intOf]; omega⟩
      · rcases Nat.lt_or_ge k n with hkn | hkn
        · have hk100 : ¬ k < 60 := fun h => hlt ⟨hkn, h⟩
          clear hlt
          go_wp2_with (go_at_call 28; refine (awakeMarks _).mono ?_; rintro e w1 ⟨rfl, o1⟩)
          obtain ⟨_, _, hB⟩ := hL.out
          go_ret
          exact ⟨rfl, hB.only.nil o1⟩
        · clear hlt
          go_wp2_with (go_at_call 28; refine (awakeMarks _).mono ?_; rintro e w1 ⟨rfl, o1⟩)
          obtain ⟨_, _, hB⟩ := hL.out
          go_ret
          exact ⟨rfl, hB.only.nil o1⟩
end Go.Proofs.Ytoffmcfaeolcjaa
