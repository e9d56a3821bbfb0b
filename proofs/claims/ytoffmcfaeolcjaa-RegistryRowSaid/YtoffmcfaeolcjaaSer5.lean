/- RegistryRow, the walk. -/
import Derived.Test.YtoffmcfaeolcjaaSer2
import Derived.OpenShut
namespace Go.Proofs.Ytoffmcfaeolcjaa
open Go.RowKit Go.Maps

/-- A registry that holds L1, and a row of numbers L2 beside it, apart from what was there. -/
def RB (w wr : World) (b : Nat) (k : Int) (rv : Value) (L1 L2 : List Int) : Prop :=
  ∃ F, RegIs wr b F k L1 ∧ OwnInts wr rv L2 ∧ (∀ g, rv.ownBlock = some g → g ∉ F ∧ w.heap.size ≤ g) ∧ (∀ f ∈ F, w.heap.size ≤ f) ∧ (L1.length : Int) ≤ k ∧ Only [] w wr

theorem RB.kept {w wr wx : World} {b : Nat} {k : Int} {rv : Value} {L1 L2 : List Int} (h : RB w wr b k rv L1 L2) (o : Only [] wr wx) : RB w wx b k rv L1 L2 := by
  obtain ⟨F, h1, h2, h3, h4, h5, h6⟩ := h
  exact ⟨F, h1.kept o (by simp), h2.kept o (by simp), h3, h4, h5, h6.nil o⟩

theorem RB.add {w wr : World} {b : Nat} {k : Int} {rv : Value} {L L2 : List Int} (h : RB w wr b k rv L L2) (hk : k ≤ 64) {x e : Int} {L1 : List Int} (he : addErr k L x = e) (hi : addIds k L x = L1) :
    Calls Try.prog 19 #[.pointer (some ⟨b, 0, none⟩), .int .i64 x] wr fun r w' => r = .returned (.int .i64 e) ∧ RB w w' b k rv L1 L2 := by
  obtain ⟨F, h1, h2, h3, h4, h5, h6⟩ := h
  refine (add_any h1 hk).mono ?_
  rintro r w' ⟨rfl, F', g1, g2, g3⟩
  refine ⟨by rw [he], F', hi ▸ g1, h2.kept g2 fun g hg => (h3 g hg).1, fun g hg => ⟨fun hf => ?_, (h3 g hg).2⟩, fun f hf => ?_, ?_, h6.step g2 h4⟩
  · rcases g3 g hf with h | h
    · exact (h3 g hg).1 h
    · have := h2.lt g hg; omega
  · rcases g3 f hf with h | h
    · exact h4 f h
    · exact Nat.le_trans h6.size h
  · rw [← hi]; unfold addIds; split
    · simp; omega
    · exact h5

theorem RB.app {w wr W w1 : World} {b : Nat} {k : Int} {rv : Value} {L1 L2 : List Int} (h : RB w wr b k rv L1 L2) (o : Only [] wr W) (hg : W.grownBy w1 rv.ownBlock) {g n cap : Nat} {x : Int} (hn : L2.length = n)
    (hown : w1.ownsRow 0 3 1 (.slice (some ⟨g, 0, none⟩) (n + 1) cap) (n + 1) (L2.map (Value.int .i64) ++ [.int .i64 x])) (hat : rv.ownBlock = some g ∨ g = W.heap.size) :
    RB w w1 b k (.slice (some ⟨g, 0, none⟩) (n + 1) cap) L1 (L2 ++ [x]) := by
  obtain ⟨F, h1, h2, h3, h4, h5, h6⟩ := h
  have o1 : Only rv.ownBlock.toList wr w1 := (o.mono (by simp)).trans (Only.of_grown hg) fun k hk => .inl hk
  refine ⟨F, h1.kept o1 ?_, ?_, ?_, h4, h5, h6.step o1 ?_⟩
  · intro f hf hm
    exact (h3 f (by simpa using hm)).1 hf
  · unfold OwnInts
    simpa [hn] using hown
  · intro g' hg'
    obtain rfl : g = g' := by simpa [Value.ownBlock] using hg'
    rcases hat with h | h
    · exact h3 g h
    · refine ⟨fun hf => ?_, ?_⟩
      · have := h1.lt g hf; have := o.size; omega
      · have := h6.size; have := o.size; omega
  · intro g' hg'
    exact (h3 g' (by simpa using hg')).2

theorem RB.ids {w wr : World} {b : Nat} {k : Int} {rv : Value} {L1 L2 : List Int} (h : RB w wr b k rv L1 L2) (hk : k ≤ 64) :
    Calls Try.prog 23 #[.pointer (some ⟨b, 0, none⟩)] wr fun e w' => ∃ v', e = .returned v' ∧ IntsAt w' v' L1 ∧ RB w w' b k rv L1 L2 := by
  have hc := h
  obtain ⟨F, h1, h2, h3, h4, h5, h6⟩ := h
  refine (ids_any h1 (by omega)).mono ?_
  rintro e w' ⟨v', rfl, g1, g2, g3⟩
  exact ⟨v', rfl, g1.at (by omega), hc.kept g2⟩

theorem RB.has {w wr : World} {b : Nat} {k : Int} {rv : Value} {L1 L2 : List Int} (h : RB w wr b k rv L1 L2) {x : Int} (hx : (Lit.int .i64 x).wf = true) {t : Bool} (ht : decide (x ∈ L1) = t) :
    Calls Try.prog 21 #[.pointer (some ⟨b, 0, none⟩), .int .i64 x] wr fun e w' => e = .returned (.bool t) ∧ wr = w' := by
  obtain ⟨F, h1, h2, h3, h4, h5, h6⟩ := h
  rw [← ht]
  exact has_any h1 hx

theorem RB.row {w wr : World} {b : Nat} {k : Int} {rv : Value} {L1 L2 : List Int} (h : RB w wr b k rv L1 L2) (hl : L2.length ≤ 64) : IntsAt wr rv L2 := by
  obtain ⟨F, h1, h2, h3, h4, h5, h6⟩ := h
  exact h2.at (by omega)

theorem RB.last {w wr : World} {b g n cap : Nat} {k x : Int} {L1 L : List Int} (h : RB w wr b k (.slice (some ⟨g, 0, none⟩) n cap) L1 (L ++ [x])) (hn : L.length + 1 = n) : wr.cell? ⟨g, L.length, none⟩ = some (.int .i64 x) := by
  obtain ⟨F, h1, h2, h3, h4, h5, h6⟩ := h
  unfold OwnInts at h2
  rw [show (L ++ [x]).length = n by simp [hn]] at h2
  rw [h2.cellAt L.length (by omega)]
  simp

theorem mod12 (m : Int) : 1 ≤ wrap64 (1 + wrap64 ((IntKind.u64.wrap m).tmod 12)) ∧ wrap64 (1 + wrap64 ((IntKind.u64.wrap m).tmod 12)) ≤ 12 := by
  have h : 0 ≤ IntKind.u64.wrap m := by simp [IntKind.wrap, IntKind.bits, IntKind.signed]; omega
  rw [Int.tmod_eq_emod_of_nonneg h]
  generalize IntKind.u64.wrap m = q at *
  unfold wrap64
  omega

theorem and31 (x : Int) : 0 ≤ bits BinOp.and IntKind.i64 x 31 ∧ bits BinOp.and IntKind.i64 x 31 ≤ 31 := by
  have h := and_mask x 5 (by decide)
  have e : (((2 ^ 5 - 1 : Nat) : Int)) = 31 := by decide
  rw [e] at h
  rw [h]
  omega

theorem mem_take_snoc {L : List Int} {x : Int} {p : Nat} (h : p < L.length) : decide (x ∈ L.take (p + 1)) = (decide (x ∈ L.take p) || (L[p]?.getD 0 == x)) := by
  rw [List.take_succ_eq_append_getElem h, List.getElem?_eq_getElem h, Bool.eq_iff_iff]
  simp only [List.mem_append, List.mem_singleton, decide_eq_true_eq, Bool.or_eq_true, beq_iff_eq, Option.getD_some]
  exact ⟨fun h => h.imp id Eq.symm, fun h => h.imp id Eq.symm⟩

set_option maxHeartbeats 4000000 in
set_option maxRecDepth 100000 in
theorem registryRow_walk {most : Int} {v : Value} {ids : List Int} {w : World} (_hm : (Lit.int .i64 most).wf = true) (h : IntsAt w v ids) (hw : ∀ z ∈ ids, (Lit.int .i64 z).wf = true) :
    Calls Try.prog 4 #[.int .i64 most, v] w fun e w' => e = .returned (.bool true) ∧ Only [] w w' := by
  obtain ⟨a, c, rfl, hs, h⟩ := h
  obtain ⟨i0, hi, hz0, hz1, hz2⟩ := info_parts infoInt
  generalize hn : ids.length = n at *
  have HN := Lib.hid hn
  have HW := Lib.hid hw
  clear hn hw
  go_enter Try.func4, Try.ntmps4
  go_wp2_with fail
  refine (awakeSeries _).mono ?_
  rintro e w0 ⟨rfl, o0⟩
  go_wp2_with fail
  obtain ⟨k1, k2⟩ := mod12 most
  generalize wrap64 (1 + wrap64 ((IntKind.u64.wrap most).tmod 12)) = K at *
  refine (new_reg k1 (by omega)).mono ?_
  rintro e w1 ⟨b, F, rfl, h1, o1, f1⟩
  have HB := Lib.hid (show RB w w1 b K (.slice none 0 0) [] [] from ⟨F, h1, OwnInts.nil _, by simp [Value.ownBlock], fun f hf => Nat.le_trans o0.size (f1 f hf), by simp; omega, o0.nil o1⟩)
  clear h1 o1 f1 o0
  go_wp2_with (first | (go_at_call 17; refine (num_any _ _).mono ?_; rintro e _ ⟨rfl, rfl⟩))
  rcases h with h0 | ⟨bi, off, rfl, hbi, hc⟩
  · have h00 : n = 0 := by rw [← HN.out, h0]; rfl
    subst h00
    clear h0
    refine wp_loop_rounds 1 ?_
    rw [rounds_succ]
    go_wp2
    obtain ⟨_, _, _, _, _, _, o2⟩ := HB.out
    go_ret
    exact ⟨rfl, o2⟩
  have HC := Lib.hid hc
  clear hc
  go_loopw [8, 9] (fun rv i wr => ∃ q : Nat, q ≤ n ∧ i = .int .i64 q ∧ ∃ L, Hid (RB w wr b K rv L L)) (fun _ i _ => n - (intOf i).toNat)
  case atStart => exact ⟨0, Nat.zero_le _, rfl, _, HB⟩
  case round =>
    obtain ⟨q, hq, rfl, L, hL⟩ := hrel
    clear HB
    by_cases hlt : q < n ∧ q < 60
    · obtain ⟨hlt, hlt2⟩ := hlt
      have hcell := HC.out q hlt
      obtain ⟨F, hF, hown, hf, hg, hlen, ho⟩ := hL.out
      have g1 : wr.cell? ⟨bi, off + q, none⟩ = some (.int .i64 (ids[q]?.getD 0)) := ho.cell hcell (by simp)
      have HO := Lib.hid hown
      obtain ⟨va, vc, rfl⟩ := slice_of_owns hown
      have hat := HO.out.at (by omega)
      clear hF hown hf hg ho hcell
      generalize ids[q]?.getD 0 = z at *
      obtain ⟨x1, x2⟩ := and31 z
      generalize hx : bits BinOp.and IntKind.i64 z 31 = x at *
      have HX := Lib.hid hx
      have hxw : (Lit.int .i64 x).wf = true := WalkArith.wf_i64 (by omega)
      by_cases hL0 : L = []
      · subst hL0
        clear hat
        go_wp2_with fail
        refine wp_loop_rounds 1 ?_
        rw [rounds_succ]
        go_wp2_with fail
        have he : addErr K [] x = 0 := by unfold addErr; rw [if_neg (by omega), if_neg (by simp), if_neg (by simp; omega)]
        have hi2 : addIds K [] x = [x] := by unfold addIds; rw [if_pos ⟨by omega, by omega, by simp, by simp; omega⟩]; rfl
        refine (RB.add hL.out (by omega) he hi2).mono ?_
        rintro r w3 ⟨rfl, h3⟩
        have H3 := Lib.hid h3
        clear he hi2 h3
        obtain ⟨_, _, o3, _⟩ := H3.out
        have O3 := Lib.hid o3
        clear o3
        go_wp2_with (first | (go_at_call 17; refine (num_any _ _).mono ?_; rintro e _ ⟨rfl, rfl⟩) | (at_builtin; refine wpList_append_lies _ rfl _ _ 22 rfl 0 3 i0 _ 1 8 Try.underlying22 hi hz0 hz1 hz2 rfl (by decide) _ 0 _ rfl (World.ownsRow.alloc O3.out _) ⟨_, 0, none⟩ 1 1 [.int .i64 x] rfl rfl (World.news_of_block (heap_alloc_new _ _)) (by simp [Value.oneCell']) (by omega) (by unfold maxLen; omega) (by omega) (Nat.zero_le _) _ rfl ?_; intro g cap w4 hown4 hgrow hat hlt4; have H4 := Lib.hid (H3.out.app ((Only.refl _ _).alloc _) hgrow rfl hown4 hat); clear hown4 hgrow hat))
        refine (RB.ids H4.out (by omega)).mono ?_
        rintro e w5 ⟨v5, rfl, i5, h5⟩
        have H5 := Lib.hid h5
        have I5 := Lib.hid i5
        clear h5 i5
        go_wp2_with fail
        refine (sameInts_yes I5.out (H5.out.row (by simp)) rfl).mono ?_
        rintro e _ ⟨rfl, n6, rfl⟩
        have H6 := Lib.hid (H5.out.kept ((Only.refl [] w5).drewN n6))
        go_wp2_with fail
        refine (RB.has H6.out hxw (t := true) (by simp)).mono ?_
        rintro e _ ⟨rfl, rfl⟩
        have cl := H6.out.last rfl
        simp only [List.length_nil] at cl
        go_wp2
        exact ⟨⟨q + 1, by omega, by go_num, [x], H6⟩, by simp [intOf]; omega⟩
      · have hpos : 0 < L.length := List.length_pos_iff.2 hL0
        obtain ⟨a1, c1, e1, _, hat⟩ := hat
        obtain ⟨bl, ol, rfl, _, hcl⟩ := hat.resolve_left hL0
        cases e1
        have HCL := Lib.hid hcl
        clear hcl hat
        generalize hN : L.length = N at *
        have HNL := Lib.hid hN
        clear hN
        go_wp2_with fail
        go_loop [11, 12] (fun t j => ∃ p : Nat, p ≤ N ∧ j = .int .i64 p ∧ t = .bool (decide (x ∈ L.take p))) (fun _ j => N - (intOf j).toNat)
        case atStart => exact ⟨0, Nat.zero_le _, rfl, by simp⟩
        case round =>
          obtain ⟨p, hp, rfl, rfl⟩ := hrel
          by_cases hpl : p < N
          · have g2 := HCL.out p hpl
            have HT := Lib.hid (show decide (x ∈ L.take (p + 1)) = (decide (x ∈ L.take p) || (L[p]?.getD 0 == x)) from mem_take_snoc (by rw [HNL.out]; exact hpl))
            generalize decide (x ∈ L.take p) = t at *
            cases t with
            | true =>
              go_wp2
              exact ⟨⟨p + 1, by omega, by go_num, by rw [HT.out]; rfl⟩, by simp [intOf]; omega⟩
            | false =>
              go_wp2
              exact ⟨⟨p + 1, by omega, by go_num, by rw [HT.out]; simp⟩, by simp [intOf]; omega⟩
          · have HT := Lib.hid (show decide (x ∈ L.take p) = decide (x ∈ L) by rw [List.take_of_length_le (by rw [HNL.out]; omega)])
            rw [HT.out]
            clear HT HCL
            by_cases hin : x ∈ L
            · rw [decide_eq_true hin]
              have he : addErr K L x = 0 := by unfold addErr; rw [if_neg (by omega), if_pos hin]
              have hi2 : addIds K L x = L := by unfold addIds; rw [if_neg (fun h => h.2.2.1 hin)]
              have HIN := Lib.hid hin
              clear hin
              go_wp2_with fail
              refine (RB.add hL.out (by omega) he hi2).mono ?_
              rintro r w3 ⟨rfl, h3⟩
              have H4 := Lib.hid h3
              clear he hi2 h3
              go_wp2_with (first | (go_at_call 17; refine (num_any _ _).mono ?_; rintro e _ ⟨rfl, rfl⟩))
              refine (RB.ids H4.out (by omega)).mono ?_
              rintro e w5 ⟨v5, rfl, i5, h5⟩
              have H5 := Lib.hid h5
              have I5 := Lib.hid i5
              clear h5 i5
              go_wp2_with fail
              refine (sameInts_yes I5.out (H5.out.row (by rw [HNL.out]; omega)) rfl).mono ?_
              rintro e _ ⟨rfl, n6, rfl⟩
              have H6 := Lib.hid (H5.out.kept ((Only.refl [] w5).drewN n6))
              go_wp2_with fail
              refine (RB.has H6.out hxw (t := true) (decide_eq_true HIN.out)).mono ?_
              rintro e _ ⟨rfl, rfl⟩
              go_wp2
              exact ⟨⟨q + 1, by omega, by go_num, L, H6⟩, by simp [intOf]; omega⟩
            · rw [decide_eq_false hin]
              have HIN := Lib.hid hin
              by_cases hroom : (N : Int) < K
              · have he : addErr K L x = 0 := by unfold addErr; rw [if_neg (by omega), if_neg hin, if_neg (by rw [HNL.out]; omega)]
                have hi2 : addIds K L x = L ++ [x] := by unfold addIds; rw [if_pos ⟨by omega, by omega, hin, by rw [HNL.out]; omega⟩]
                clear hin
                go_wp2_with fail
                refine (RB.add hL.out (by omega) he hi2).mono ?_
                rintro r w3 ⟨rfl, h3⟩
                have H3 := Lib.hid h3
                clear he hi2 h3
                obtain ⟨_, _, o3, _⟩ := H3.out
                unfold OwnInts at o3
                rw [HNL.out] at o3
                have O3 := Lib.hid o3
                clear o3
                go_wp2_with (first | (go_at_call 17; refine (num_any _ _).mono ?_; rintro e _ ⟨rfl, rfl⟩) | (at_builtin; refine wpList_append_lies _ rfl _ _ 22 rfl 0 3 i0 _ 1 8 Try.underlying22 hi hz0 hz1 hz2 rfl (by decide) _ N _ rfl (World.ownsRow.alloc O3.out _) ⟨_, 0, none⟩ 1 1 [.int .i64 x] rfl rfl (World.news_of_block (heap_alloc_new _ _)) (by simp [Value.oneCell']) (by omega) (by unfold maxLen; omega) (by omega) (Nat.zero_le _) _ rfl ?_; intro g cap w4 hown4 hgrow hat hlt4; have H4 := Lib.hid (H3.out.app ((Only.refl _ _).alloc _) hgrow HNL.out hown4 hat); clear hown4 hgrow hat))
                refine (RB.ids H4.out (by omega)).mono ?_
                rintro e w5 ⟨v5, rfl, i5, h5⟩
                have H5 := Lib.hid h5
                have I5 := Lib.hid i5
                clear h5 i5
                go_wp2_with fail
                refine (sameInts_yes I5.out (H5.out.row (by rw [List.length_append, HNL.out]; simp; omega)) rfl).mono ?_
                rintro e _ ⟨rfl, n6, rfl⟩
                have H6 := Lib.hid (H5.out.kept ((Only.refl [] w5).drewN n6))
                go_wp2_with fail
                refine (RB.has H6.out hxw (t := true) (by simp)).mono ?_
                rintro e _ ⟨rfl, rfl⟩
                have cl := H6.out.last (by rw [HNL.out])
                rw [HNL.out] at cl
                go_wp2
                exact ⟨⟨q + 1, by omega, by go_num, _, H6⟩, by simp [intOf]; omega⟩
              · have he : addErr K L x = 1201 := by unfold addErr; rw [if_neg (by omega), if_neg hin, if_pos (by rw [HNL.out]; omega)]
                have hi2 : addIds K L x = L := by unfold addIds; rw [if_neg (by rw [HNL.out]; omega)]
                clear hin
                go_wp2_with fail
                refine (RB.add hL.out (by omega) he hi2).mono ?_
                rintro r w3 ⟨rfl, h3⟩
                have H4 := Lib.hid h3
                clear he hi2 h3
                go_wp2_with (first | (go_at_call 17; refine (num_any _ _).mono ?_; rintro e _ ⟨rfl, rfl⟩))
                refine (RB.ids H4.out (by omega)).mono ?_
                rintro e w5 ⟨v5, rfl, i5, h5⟩
                have H5 := Lib.hid h5
                have I5 := Lib.hid i5
                clear h5 i5
                go_wp2_with fail
                refine (sameInts_yes I5.out (H5.out.row (by rw [HNL.out]; omega)) rfl).mono ?_
                rintro e _ ⟨rfl, n6, rfl⟩
                have H6 := Lib.hid (H5.out.kept ((Only.refl [] w5).drewN n6))
                go_wp2_with fail
                refine (RB.has H6.out hxw (t := false) (decide_eq_false HIN.out)).mono ?_
                rintro e _ ⟨rfl, rfl⟩
                obtain ⟨_, _, o6, _⟩ := H6.out
                have hat6 := o6.at (by rw [HNL.out]; omega)
                obtain ⟨a6, c6, e6, _, hat6⟩ := hat6
                obtain ⟨b6, o6', rfl, _, hc6⟩ := hat6.resolve_left hL0
                cases e6
                have g6 := hc6 (L.length - 1) (by omega)
                have hne : (L[L.length - 1]?.getD 0 == x) = false := by
                  rw [beq_eq_false_iff_ne]
                  intro e
                  have h1 : L.length - 1 < L.length := by omega
                  rw [List.getElem?_eq_getElem h1] at e
                  exact HIN.out (e ▸ List.getElem_mem h1)
                clear hc6 hat6 o6
                go_wp2
                exact ⟨⟨q + 1, by omega, by go_num, L, H6⟩, by simp [intOf]; omega⟩
    · rcases Nat.lt_or_ge q n with hkn | hkn
      · have hk100 : ¬ q < 60 := fun h => hlt ⟨hkn, h⟩
        clear hlt
        go_wp2
        obtain ⟨_, _, _, _, _, _, o2⟩ := hL.out
        go_ret
        exact ⟨rfl, o2⟩
      · clear hlt
        go_wp2
        obtain ⟨_, _, _, _, _, _, o2⟩ := hL.out
        go_ret
        exact ⟨rfl, o2⟩
end Go.Proofs.Ytoffmcfaeolcjaa
