/- MarksLeast, the walk. -/
import Derived.Test.YtoffmcfaeolcjaaMar4
namespace Go.Proofs.Ytoffmcfaeolcjaa
open Go.RowKit Go.Maps

/-- Marks that hold L1 and a row that holds L2, apart. -/
def RM (w wr : World) (b g cap K : Nat) (L1 L2 : List Int) : Prop :=
  ∃ F, MarksIs wr b F L1 ∧ OwnInts wr (.slice (some ⟨g, 0, none⟩) K cap) L2 ∧ g ∉ F ∧ (∀ f ∈ F, w.heap.size ≤ f) ∧ w.heap.size ≤ g ∧ L1.length = K ∧ L2.length = K ∧ Only [] w wr

theorem RM.only {w wr : World} {b g cap K : Nat} {L1 L2 : List Int} (h : RM w wr b g cap K L1 L2) : Only [] w wr := by
  obtain ⟨F, h1, h2, h3, h4, h5, h6, h7, h8⟩ := h; exact h8
theorem RM.kept {w wr wx : World} {b g cap K : Nat} {L1 L2 : List Int} (h : RM w wr b g cap K L1 L2) (o : Only [] wr wx) : RM w wx b g cap K L1 L2 := by
  obtain ⟨F, h1, h2, h3, h4, h5, h6, h7, h8⟩ := h
  exact ⟨F, h1.kept o (by simp), h2.kept o (by simp), h3, h4, h5, h6, h7, h8.nil o⟩
theorem RM.set {w wr : World} {b g cap K : Nat} {L1 L2 : List Int} (h : RM w wr b g cap K L1 L2) (hsm : K ≤ 8) {s : Nat} {t : Int} (hs : s < K) (ht1 : -4398046511104 < t) (ht2 : t ≤ 4398046511104) :
    Calls Try.prog 30 #[.pointer (some ⟨b, 0, none⟩), .int .i64 s, .int .i64 t] wr fun e w' => e = .returned (.tuple #[.bool (decide (leastTo L1 K < leastTo (L1.set s (max (L1[s]?.getD 0) t)) K)), .int .i64 0]) ∧ RM w w' b g cap K (L1.set s (max (L1[s]?.getD 0) t)) L2 := by
  obtain ⟨F, h1, h2, h3, h4, h5, rfl, h7, h8⟩ := h
  rw [List.getElem?_eq_getElem hs, Option.getD_some]
  refine (set_yes h1 hsm hs ht1 ht2).mono ?_
  rintro e w' ⟨rfl, g1, g2⟩
  exact ⟨rfl, F, g1, h2.kept g2 (fun k hk => by cases hk; exact h3), h3, h4, h5, by simp, h7, h8.step g2 h4⟩
theorem RM.least {w wr : World} {b g cap K : Nat} {L1 L2 : List Int} (h : RM w wr b g cap K L1 L2) (h0 : 0 < K) (hsm : K ≤ 8) :
    Calls Try.prog 29 #[.pointer (some ⟨b, 0, none⟩)] wr fun e w' => e = .returned (.int .i64 (leastTo L1 K)) ∧ wr = w' := by
  obtain ⟨F, h1, h2, h3, h4, h5, rfl, h7, h8⟩ := h
  exact least_any h1 h0 hsm
theorem RM.all {w wr : World} {b g cap K : Nat} {L1 L2 : List Int} (h : RM w wr b g cap K L1 L2) (hsm : K ≤ 8) :
    Calls Try.prog 32 #[.pointer (some ⟨b, 0, none⟩)] wr fun e w' => ∃ v', e = .returned v' ∧ IntsAt w' v' L1 ∧ RM w w' b g cap K L1 L2 := by
  have hh := h
  obtain ⟨F, h1, h2, h3, h4, h5, rfl, h7, h8⟩ := h
  refine (all_any h1 hsm).mono ?_
  rintro e w' ⟨v', rfl, g1, g2, g3⟩
  exact ⟨v', rfl, g1.at (by omega), hh.kept g2⟩
theorem RM.row {w wr : World} {b g cap K : Nat} {L1 L2 : List Int} (h : RM w wr b g cap K L1 L2) (hsm : K ≤ 8) : IntsAt wr (.slice (some ⟨g, 0, none⟩) K cap) L2 := by
  obtain ⟨F, h1, h2, h3, h4, h5, h6, h7, h8⟩ := h
  exact h2.at (by omega)
theorem RM.cell {w wr : World} {b g cap K : Nat} {L1 L2 : List Int} (h : RM w wr b g cap K L1 L2) {j : Nat} (hj : j < K) : wr.cell? ⟨g, j, none⟩ = some (.int .i64 (L2[j]?.getD 0)) ∧ wr.frozen? ⟨g, j, none⟩ = false := by
  obtain ⟨F, h1, h2, h3, h4, h5, h6, h7, h8⟩ := h
  unfold OwnInts at h2
  rw [h7] at h2
  refine ⟨?_, h2.frozenAt j⟩
  rw [h2.cellAt j (by omega), List.getElem?_map, List.getElem?_eq_getElem (by omega)]
  rfl
theorem RM.store {w wr : World} {b g cap K : Nat} {L1 L2 : List Int} (h : RM w wr b g cap K L1 L2) (s : Nat) (u : Int) : RM w (wr.setCell ⟨g, s, none⟩ (.int .i64 u)) b g cap K L1 (L2.set s u) := by
  obtain ⟨F, h1, h2, h3, h4, h5, h6, h7, h8⟩ := h
  unfold OwnInts at h2
  rw [h7] at h2
  have hs := World.ownsRow.stored h2 s (.int .i64 u)
  have o : Only [g] wr (wr.setCell ⟨g, s, none⟩ (.int .i64 u)) := Only.of_grown hs.2
  refine ⟨F, h1.kept o (fun f hf => by simp only [List.mem_singleton]; rintro rfl; exact h3 hf), ?_, h3, h4, h5, h6, by simp [h7], h8.step o (by simpa using h5)⟩
  unfold OwnInts
  rw [List.length_set, h7, List.map_set]
  exact hs.1

theorem mod8 (m : Int) : 1 ≤ wrap64 (1 + wrap64 ((IntKind.u64.wrap m).tmod 8)) ∧ wrap64 (1 + wrap64 ((IntKind.u64.wrap m).tmod 8)) ≤ 8 := by
  have h : 0 ≤ IntKind.u64.wrap m := by simp [IntKind.wrap, IntKind.bits, IntKind.signed]; omega
  rw [Int.tmod_eq_emod_of_nonneg h]
  generalize IntKind.u64.wrap m = q at *
  unfold wrap64
  omega

theorem modq (m : Int) {q : Nat} (h1 : 1 ≤ q) (h2 : q ≤ 8) : 0 ≤ wrap64 ((IntKind.u64.wrap m).tmod (q : Int)) ∧ wrap64 ((IntKind.u64.wrap m).tmod (q : Int)) < q := by
  have h : 0 ≤ IntKind.u64.wrap m := by simp [IntKind.wrap, IntKind.bits, IntKind.signed]; omega
  rw [Int.tmod_eq_emod_of_nonneg h]
  have g1 := Int.emod_nonneg (IntKind.u64.wrap m) (show (q : Int) ≠ 0 by omega)
  have g2 := Int.emod_lt_of_pos (IntKind.u64.wrap m) (show 0 < (q : Int) by omega)
  generalize IntKind.u64.wrap m % (q : Int) = r at *
  unfold wrap64
  omega

set_option maxHeartbeats 4000000 in
set_option maxRecDepth 100000 in
theorem marksLeast_walk {sources : Int} {v : Value} {ps : List (Int × Int)} {w : World} (_hm : (Lit.int .i64 sources).wf = true) (h : PairsAt w v ps) :
    Calls Try.prog 7 #[.int .i64 sources, v] w fun e w' => e = .returned (.bool true) ∧ Only [] w w' := by
  obtain ⟨a, c, rfl, hs, h⟩ := h
  obtain ⟨i0, hi, hz0, hz1, hz2⟩ := info_parts infoInt
  generalize hn : ps.length = n at *
  have HN := Lib.hid hn
  clear hn
  go_enter Try.func7, Try.ntmps7
  go_wp2_with fail
  refine (awakeMarks _).mono ?_
  rintro e w0 ⟨rfl, o0⟩
  go_wp2_with fail
  obtain ⟨k1, k2⟩ := mod8 sources
  generalize wrap64 (1 + wrap64 ((IntKind.u64.wrap sources).tmod 8)) = KK at *
  obtain ⟨K, rfl⟩ := Int.eq_ofNat_of_zero_le (show 0 ≤ KK by omega)
  have hK1 : 1 ≤ K := by omega
  have hK2 : K ≤ 8 := by omega
  refine (marksNew_yes k1 k2).mono ?_
  rintro e w1 ⟨b, F, rfl, h1, o1, f1⟩
  have f1' := fun f hf => Nat.le_trans o0.size (f1 f hf)
  have o1' := o0.nil o1
  rw [Int.toNat_natCast] at h1
  have HM := Lib.hid (And.intro h1 (And.intro o1' f1'))
  clear h1 o1 f1 f1' o1' o0
  go_wp2_with (first | (go_at_call 17; refine (num_any _ _).mono ?_; rintro e _ ⟨rfl, rfl⟩))
  go_loopw [8, 9] (fun rv i wr => ∃ q : Nat, q ≤ K ∧ i = .int .i64 q ∧ Hid (OwnInts wr rv (List.replicate q noMark) ∧ (∀ g, rv.ownBlock = some g → w1.heap.size ≤ g) ∧ Only [] w1 wr)) (fun _ i _ => K - (intOf i).toNat)
  case atStart => exact ⟨0, Nat.zero_le _, rfl, OwnInts.nil _, by simp [Value.ownBlock], .refl _ _⟩
  case round =>
    obtain ⟨q, hq, rfl, hR⟩ := hrel
    by_cases hlt : q < K
    · obtain ⟨ho, hv, hon⟩ := hR.out
      unfold OwnInts at ho
      rw [List.length_replicate] at ho
      obtain ⟨va, vc, rfl⟩ := slice_of_owns ho
      go_wp2_with (at_builtin; refine wpList_append_lies _ rfl _ _ 22 rfl 0 3 i0 _ 1 8 Try.underlying22 hi hz0 hz1 hz2 rfl (by decide) _ q _ rfl (ho.alloc _) ⟨_, 0, none⟩ 1 1 [.int .i64 (-4398046511104)] rfl rfl (World.news_of_block (heap_alloc_new _ _)) (by simp [Value.oneCell']) (by omega) (by unfold maxLen; omega) (by omega) (Nat.zero_le _) _ rfl ?_; intro g cap w2 hown1 hgrow hat hlt2)
      refine ⟨⟨q + 1, by omega, by go_num, ?_, ?_, ?_⟩, by simp [intOf]; omega⟩
      · unfold OwnInts
        rw [List.replicate_succ', List.map_append, List.length_append, List.length_replicate]
        exact hown1
      · intro g' hg'
        cases hg'
        show w1.heap.size ≤ g
        rcases hat with h | h
        · exact hv _ h
        · have := hon.size; simp only [World.size_alloc] at h; omega
      · exact (hon.alloc _).grown hgrow (fun k hk => .inr (hv k hk))
    · obtain rfl : q = K := by omega
      obtain ⟨ho, hv, hon⟩ := hR.out
      obtain ⟨hmk, hon1, hf1⟩ := HM.out
      have hown := ho
      unfold OwnInts at hown
      rw [List.length_replicate] at hown
      obtain ⟨g, cap, hrv, _, hgl⟩ := hown.form (by omega)
      subst hrv
      have HB := Lib.hid (show ∃ L, RM w wr b g cap q L L from ⟨_, F, hmk.kept hon (by simp), ho, fun hf => by have := hmk.lt g hf; have := hv g rfl; omega, hf1, Nat.le_trans hon1.size (hv g rfl), by simp, by simp, hon1.nil hon⟩)
      clear ho hv hon hmk hon1 hf1 hown hlt
      rcases h with h0 | ⟨bi, off, rfl, hbi, hc⟩
      · have h00 : n = 0 := by rw [← HN.out, h0]; rfl
        subst h00
        clear h0
        go_wp2
        refine wp_loop_rounds 1 ?_
        rw [rounds_succ]
        go_wp2
        obtain ⟨_, hB⟩ := HB.out
        go_ret
        exact ⟨rfl, hB.only⟩
      have HC := Lib.hid hc
      clear hc
      go_wp2
      go_loopw [10] (fun i wx => ∃ k : Nat, k ≤ n ∧ i = .int .i64 k ∧ Hid (∃ L, RM w wx b g cap q L L)) (fun i _ => n - (intOf i).toNat)
      case atStart => exact ⟨0, Nat.zero_le _, rfl, HB⟩
      case round =>
        obtain ⟨k, hk, rfl, hL⟩ := hrel
        clear HB HM
        by_cases hlt : k < n ∧ k < 60
        · obtain ⟨hlt, hlt2⟩ := hlt
          obtain ⟨L, hB⟩ := hL.out
          obtain ⟨q1, q2⟩ := HC.out k hlt
          have g1 := hB.only.cell q1 (by simp)
          have g2 := hB.only.cell q2 (by simp)
          have HB := Lib.hid hB
          have c0 := (hB.cell (j := 0) (by omega)).1
          have HL1 := Lib.hid (show leastTo L 1 = L[0]?.getD 0 by simp [leastTo])
          clear q1 q2 hB
          generalize (ps[k]?.getD (0, 0)).1 = S at *
          generalize (ps[k]?.getD (0, 0)).2 = T at *
          go_wp2_with fail
          go_quiet (fail)
          go_wp2_with fail
          obtain ⟨s1, s2⟩ := modq S (by omega) hK2
          generalize wrap64 ((IntKind.u64.wrap S).tmod (q : Int)) = SS at *
          obtain ⟨s, rfl⟩ := Int.eq_ofNat_of_zero_le s1
          have hsq : s < q := by omega
          have t1 := Int.lt_tmod_of_pos T (show (0 : Int) < 1000 by omega)
          have t2 := Int.tmod_lt_of_pos T (show (0 : Int) < 1000 by omega)
          generalize T.tmod 1000 = t at *
          go_loop [13, 14] (fun x j => ∃ p : Nat, 1 ≤ p ∧ p ≤ q ∧ j = .int .i64 p ∧ x = .int .i64 (leastTo L p)) (fun _ j => q - (intOf j).toNat)
          case atStart => exact ⟨1, by omega, by omega, rfl, by rw [HL1.out]⟩
          case round =>
            obtain ⟨p, hp1, hp, rfl, rfl⟩ := hrel
            by_cases hpl : p < q
            · have gp := (HB.out.cell hpl).1
              have HLs := Lib.hid (show leastTo L (p + 1) = min (leastTo L p) (L[p]?.getD 0) from rfl)
              generalize leastTo L p = u at *
              generalize L[p]?.getD 0 = z at *
              go_wp2
              exact ⟨⟨p + 1, by omega, by omega, by go_num, congrArg _ (by rw [HLs.out, Int.min_def]; split <;> split <;> omega)⟩, by simp [intOf]; omega⟩
            · obtain rfl : p = q := by omega
              go_wp2_with fail
              refine ((HB.out.kept ((Only.refl _ _).drewN nq)).set hK2 hsq (by omega) (by omega)).mono ?_
              rintro e w3 ⟨rfl, h3⟩
              obtain ⟨cs, fs⟩ := h3.cell hsq
              generalize hz : L[s]?.getD 0 = z at *
              have HZ := Lib.hid hz
              clear hz
              rcases Int.lt_or_le z t with hzt | hzt
              · have HX := Lib.hid (show max z t = t by omega)
                rw [HX.out] at h3
                rw [HX.out]
                have h4 := h3.store s t
                have hc0 := (h4.cell (j := 0) (by omega)).1
                have H4 := Lib.hid h4
                have HL2 := Lib.hid (show leastTo (L.set s t) 1 = (L.set s t)[0]?.getD 0 by simp [leastTo])
                clear h4 h3 HB
                generalize hL' : L.set s t = L' at *
                clear hL'
                go_wp2_with fail
                go_loop [17, 18] (fun x j => ∃ r : Nat, 1 ≤ r ∧ r ≤ p ∧ j = .int .i64 r ∧ x = .int .i64 (leastTo L' r)) (fun _ j => p - (intOf j).toNat)
                case atStart => exact ⟨1, by omega, by omega, rfl, by rw [HL2.out]⟩
                case round =>
                  obtain ⟨r, hr1, hr, rfl, rfl⟩ := hrel
                  by_cases hrl : r < p
                  · have gp := (H4.out.cell hrl).1
                    have HLs := Lib.hid (show leastTo L' (r + 1) = min (leastTo L' r) (L'[r]?.getD 0) from rfl)
                    generalize leastTo L' r = u at *
                    generalize L'[r]?.getD 0 = z2 at *
                    go_wp2
                    exact ⟨⟨r + 1, by omega, by omega, by go_num, congrArg _ (by rw [HLs.out, Int.min_def]; split <;> split <;> omega)⟩, by simp [intOf]; omega⟩
                  · obtain rfl : r = p := by omega
                    have hne : (decide (leastTo L r < leastTo L' r) != decide (leastTo L r < leastTo L' r)) = false := by simp
                    go_wp2_with (first | (go_at_call 17; refine (num_any _ _).mono ?_; rintro e _ ⟨rfl, rfl⟩) | (go_at_call 29; refine (H4.out.least hK1 hK2).mono ?_; rintro e _ ⟨rfl, rfl⟩))
                    refine (H4.out.all hK2).mono ?_
                    rintro e w6 ⟨v6, rfl, i6, h6⟩
                    have I6 := Lib.hid i6
                    have H6 := Lib.hid h6
                    clear i6 h6
                    go_wp2_with fail
                    refine (sameInts_yes I6.out (H6.out.row hK2) rfl).mono ?_
                    rintro e _ ⟨rfl, n6, rfl⟩
                    have H7 := Lib.hid (H6.out.kept ((Only.refl [] w6).drewN n6))
                    go_wp2
                    exact ⟨⟨k + 1, by omega, by go_num, ⟨L', H7.out⟩⟩, by simp [intOf]; omega⟩
              · have HX := Lib.hid (show max z t = z by omega)
                rw [HX.out] at h3
                rw [HX.out]
                have hzt' : ¬ z < t := by omega
                have h4 := h3.store s z
                have hc0 := (h4.cell (j := 0) (by omega)).1
                have H4 := Lib.hid h4
                have HL2 := Lib.hid (show leastTo (L.set s z) 1 = (L.set s z)[0]?.getD 0 by simp [leastTo])
                clear h4 h3 HB
                generalize hL' : L.set s z = L' at *
                clear hL'
                go_wp2_with fail
                go_loop [17, 18] (fun x j => ∃ r : Nat, 1 ≤ r ∧ r ≤ p ∧ j = .int .i64 r ∧ x = .int .i64 (leastTo L' r)) (fun _ j => p - (intOf j).toNat)
                case atStart => exact ⟨1, by omega, by omega, rfl, by rw [HL2.out]⟩
                case round =>
                  obtain ⟨r, hr1, hr, rfl, rfl⟩ := hrel
                  by_cases hrl : r < p
                  · have gp := (H4.out.cell hrl).1
                    have HLs := Lib.hid (show leastTo L' (r + 1) = min (leastTo L' r) (L'[r]?.getD 0) from rfl)
                    generalize leastTo L' r = u at *
                    generalize L'[r]?.getD 0 = z2 at *
                    go_wp2
                    exact ⟨⟨r + 1, by omega, by omega, by go_num, congrArg _ (by rw [HLs.out, Int.min_def]; split <;> split <;> omega)⟩, by simp [intOf]; omega⟩
                  · obtain rfl : r = p := by omega
                    have hne : (decide (leastTo L r < leastTo L' r) != decide (leastTo L r < leastTo L' r)) = false := by simp
                    go_wp2_with (first | (go_at_call 17; refine (num_any _ _).mono ?_; rintro e _ ⟨rfl, rfl⟩) | (go_at_call 29; refine (H4.out.least hK1 hK2).mono ?_; rintro e _ ⟨rfl, rfl⟩))
                    refine (H4.out.all hK2).mono ?_
                    rintro e w6 ⟨v6, rfl, i6, h6⟩
                    have I6 := Lib.hid i6
                    have H6 := Lib.hid h6
                    clear i6 h6
                    go_wp2_with fail
                    refine (sameInts_yes I6.out (H6.out.row hK2) rfl).mono ?_
                    rintro e _ ⟨rfl, n6, rfl⟩
                    have H7 := Lib.hid (H6.out.kept ((Only.refl [] w6).drewN n6))
                    go_wp2
                    exact ⟨⟨k + 1, by omega, by go_num, ⟨L', H7.out⟩⟩, by simp [intOf]; omega⟩
        · rcases Nat.lt_or_ge k n with hkn | hkn
          · have hk100 : ¬ k < 60 := fun h => hlt ⟨hkn, h⟩
            clear hlt
            go_wp2
            obtain ⟨_, hB⟩ := hL.out
            go_ret
            exact ⟨rfl, hB.only⟩
          · clear hlt
            go_wp2
            obtain ⟨_, hB⟩ := hL.out
            go_ret
            exact ⟨rfl, hB.only⟩
end Go.Proofs.Ytoffmcfaeolcjaa
