/- Slices of numbers: how they are read, and what SameInts, SpoilInts, Clone and Num do. -/
import Derived.Test.YtoffmcfaeolcjaaBase
import Derived.Deep.QuietTactic
import Derived.BigQuiet
import Derived.Outline
import Derived.WalkSpells
import Derived.WalkLawsBesides
namespace Go.Proofs.Ytoffmcfaeolcjaa
open Go.RowKit Go.Maps

theorem infoInt : (Try.prog.info? 3).map (fun i => (i.zero, i.size, i.bytes)) = some (some (.int .i64 0), 1, 8) := by kernel_rfl

/-- v is a slice that reads as zs. -/
def IntsAt (w : World) (v : Value) (zs : List Int) : Prop :=
  ∃ a c, v = .slice a zs.length c ∧ zs.length * 8 ≤ 140737488355328 ∧ (zs = [] ∨ ∃ b off, a = some ⟨b, off, none⟩ ∧ b < w.heap.size ∧ ∀ j, j < zs.length → w.cell? ⟨b, off + j, none⟩ = some (.int .i64 (zs[j]?.getD 0)))

theorem IntsAt.nil (w : World) : IntsAt w (.slice none 0 0) [] := ⟨none, 0, rfl, by simp, .inl rfl⟩
theorem IntsAt.of_owns {w : World} {base : Nat} {v : Value} {n : Nat} {zs : List Int} (h : w.ownsRow base 3 1 v n (zs.map (Value.int .i64))) (hs : zs.length * 8 ≤ 140737488355328) : IntsAt w v zs := by
  have hn : zs.length = n := by simpa using h.1
  rcases h.2 with ⟨rfl, h0⟩ | ⟨g, cap, cur, rfl, _, hg, hrest⟩
  · obtain rfl : zs = [] := List.length_eq_zero_iff.1 (by omega)
    exact .nil w
  · refine ⟨some ⟨g, 0, none⟩, cap, by rw [hn], hs, .inr ⟨g, 0, rfl, heap_lt hg, fun j hj => ?_⟩⟩
    have := h.cellAt j (by omega)
    rw [Nat.zero_add, this, List.getElem?_map, List.getElem?_eq_getElem hj]
    rfl
theorem IntsAt.lit (w : World) (zs : List Int) (hs : zs.length * 8 ≤ 140737488355328) : IntsAt (w.alloc (.cells (zs.map (Value.int .i64)).toArray 3)) (.slice (some ⟨w.heap.size, 0, none⟩) zs.length zs.length) zs :=
  IntsAt.of_owns (World.ownsRow_lit w _ zs.length (Nat.zero_le _) (by unfold maxLen; omega) (by simp)) hs
theorem IntsAt.kept {F : List Nat} {w w' : World} {v : Value} {zs : List Int} (h : IntsAt w v zs) (hg : Only F w w') (hne : ∀ k, v.ownBlock = some k → k ∉ F) : IntsAt w' v zs := by
  obtain ⟨a, c, rfl, hs, h⟩ := h
  refine ⟨a, c, rfl, hs, ?_⟩
  rcases h with h | ⟨b, off, rfl, hb, hc⟩
  · exact .inl h
  · exact .inr ⟨b, off, rfl, Nat.lt_of_lt_of_le hb hg.size, fun j hj => hg.cell (hc j hj) (hne b rfl)⟩
theorem IntsAt.nilkept {w w' : World} {v : Value} {zs : List Int} (h : IntsAt w v zs) (hg : Only [] w w') : IntsAt w' v zs := h.kept hg (by simp)

theorem num_any (x : Int) (w : World) : Calls Try.prog 17 #[.int .i64 x] w fun e w' => e = .returned (.int .i64 x) ∧ w = w' := by
  go_enter Try.func17, Try.ntmps17
  go_wp2
  go_ret
  exact ⟨rfl, rfl⟩

theorem same_take {zs ys : List Int} (hl : zs.length = ys.length) (h : ∀ j, j < zs.length → zs[j]?.getD 0 = ys[j]?.getD 0) : zs = ys := by
  apply List.ext_getElem hl
  intro j h1 h2
  have := h j h1
  simpa [h1, h2] using this

set_option maxHeartbeats 1000000 in
set_option maxRecDepth 100000 in
theorem sameInts_any {v1 v2 : Value} {zs ys : List Int} {w : World} (h1 : IntsAt w v1 zs) (h2 : IntsAt w v2 ys) :
    Calls Try.prog 24 #[v1, v2] w fun e w' => e = .returned (.bool (decide (zs = ys))) ∧ Drew w w' := by
  obtain ⟨a1, c1, rfl, hs1, h1⟩ := h1
  obtain ⟨a2, c2, rfl, hs2, h2⟩ := h2
  by_cases hl : zs.length = ys.length
  case neg =>
    have hl' : ((zs.length : Int) != (ys.length : Int)) = true := by rw [bne_iff_ne]; omega
    have HD := Lib.hid (show decide (zs = ys) = false from decide_eq_false fun e => hl (by rw [e]))
    clear h1 h2
    go_enter Try.func24, Try.ntmps24
    go_wp2
    go_ret
    exact ⟨by rw [HD.out]; rfl, .refl _⟩
  case pos =>
    by_cases h0 : zs = []
    · subst h0
      obtain rfl : ys = [] := List.length_eq_zero_iff.1 hl.symm
      clear h1 h2
      go_enter Try.func24, Try.ntmps24
      go_wp2
      refine wp_loop_rounds 1 ?_
      rw [rounds_succ]
      go_wp2
      go_ret
      exact ⟨rfl, .refl _⟩
    · have h0' : ys ≠ [] := by rintro rfl; exact h0 (List.length_eq_zero_iff.1 (by simpa using hl))
      obtain ⟨b1, o1, rfl, _, hc1⟩ := h1.resolve_left h0
      obtain ⟨b2, o2, rfl, _, hc2⟩ := h2.resolve_left h0'
      have HL := Lib.hid hl
      generalize hm : ys.length = m at *
      generalize hn : zs.length = n at *
      have HM := Lib.hid hm
      have HN := Lib.hid hn
      have hl' : ((n : Int) != (m : Int)) = false := by rw [bne_eq_false_iff_eq]; omega
      clear hm hn hl h1 h2 h0 h0'
      have HC1 := Lib.hid hc1
      have HC2 := Lib.hid hc2
      clear hc1 hc2
      go_enter Try.func24, Try.ntmps24
      go_wp2
      go_loopw [5] (fun i wr => ∃ k : Nat, k ≤ n ∧ i = .int .i64 k ∧ Hid (∀ j, j < k → zs[j]?.getD 0 = ys[j]?.getD 0) ∧ Drew w wr) (fun i _ => n - (intOf i).toNat)
      case atStart => exact ⟨0, Nat.zero_le _, rfl, fun j hj => by omega, .refl _⟩
      case round =>
        obtain ⟨k, hk, rfl, heq, q, rfl⟩ := hrel
        by_cases hlt : k < n
        · have g1 := HC1.out k hlt
          have g2 := HC2.out k (by have := HL.out; omega)
          have hltm : k < m := by have := HL.out; omega
          by_cases hz : zs[k]?.getD 0 = ys[k]?.getD 0
          · have hz' : (zs[k]?.getD 0 != ys[k]?.getD 0) = false := by rw [bne_eq_false_iff_eq]; exact hz
            have HZ := Lib.hid hz
            clear hz
            go_wp2
            go_quiet (fail)
            go_wp2
            exact ⟨⟨k + 1, by omega, by go_num, fun j hj => by rcases Nat.lt_succ_iff_lt_or_eq.1 hj with h | rfl; exact heq.out j h; exact HZ.out, ⟨_, rfl⟩⟩, by simp [intOf]; omega⟩
          · have hz' : (zs[k]?.getD 0 != ys[k]?.getD 0) = true := by rw [bne_iff_ne]; exact hz
            have HD := Lib.hid (show decide (zs = ys) = false from decide_eq_false fun e => hz (by rw [e]))
            clear hz
            go_wp2
            go_quiet (fail)
            go_wp2
            go_ret
            exact ⟨by rw [HD.out]; rfl, by first | exact ⟨_, rfl⟩ | exact Drew.drewN ⟨_, rfl⟩ _⟩
        · have hkn : k = n := by omega
          have HD := Lib.hid (show decide (zs = ys) = true from decide_eq_true (same_take (by have := HN.out; have := HM.out; have := HL.out; omega) fun j hj => heq.out j (by have := HN.out; omega)))
          clear hkn
          go_wp2
          go_ret
          exact ⟨by rw [HD.out]; rfl, by first | exact ⟨_, rfl⟩ | exact Drew.drewN ⟨_, rfl⟩ _⟩

/-- v is a slice that lies alone in a block, and reads as zs. -/
def OwnInts (w : World) (v : Value) (zs : List Int) : Prop := w.ownsRow 0 3 1 v zs.length (zs.map (Value.int .i64))

theorem OwnInts.at {w : World} {v : Value} {zs : List Int} (h : OwnInts w v zs) (hs : zs.length * 8 ≤ 140737488355328) : IntsAt w v zs := IntsAt.of_owns h hs
theorem OwnInts.kept {F : List Nat} {w w' : World} {v : Value} {zs : List Int} (h : OwnInts w v zs) (hg : Only F w w') (hne : ∀ k, v.ownBlock = some k → k ∉ F) : OwnInts w' v zs := hg.ownsRow h hne
theorem OwnInts.lt {w : World} {v : Value} {zs : List Int} (h : OwnInts w v zs) : ∀ k, v.ownBlock = some k → k < w.heap.size := fun k hk => (World.ownsRow.lt h k hk).2
theorem OwnInts.nil (w : World) : OwnInts w (.slice none 0 0) [] := World.ownsRow_nil _ _ _ _

theorem sameInts_yes {v1 v2 : Value} {zs ys : List Int} {w : World} (h1 : IntsAt w v1 zs) (h2 : IntsAt w v2 ys) (he : zs = ys) :
    Calls Try.prog 24 #[v1, v2] w fun e w' => e = .returned (.bool true) ∧ Drew w w' :=
  (sameInts_any h1 h2).mono fun _ _ ⟨h3, h4⟩ => ⟨by rw [h3, decide_eq_true he], h4⟩

theorem part_set {α β : Type} (f : α → α) (g : α → β) (zs : List α) (k : Nat) (h : k < zs.length) :
    ((((zs.take k).map f) ++ zs.drop k).map g).set k (g (f zs[k])) = (((zs.take (k + 1)).map f) ++ zs.drop (k + 1)).map g := by
  rw [List.take_succ_eq_append_getElem h, List.drop_eq_getElem_cons h]
  simp only [List.map_append, List.map_cons, List.map_nil, List.append_assoc, List.singleton_append]
  rw [List.set_append_right _ _ (by simp; omega)]
  simp [Nat.min_eq_left (Nat.le_of_lt h)]

/-- What SpoilInts leaves. -/
def spoil (z : Int) : Int := wrap64 (-9 - z)

set_option maxHeartbeats 1000000 in
set_option maxRecDepth 100000 in
theorem spoilInts_any {v : Value} {zs : List Int} {w : World} (h : OwnInts w v zs) (hs : zs.length * 8 ≤ 140737488355328) :
    Calls Try.prog 25 #[v] w fun e w' => e = .returned (.tuple #[]) ∧ OwnInts w' v (zs.map spoil) ∧ Only v.ownBlock.toList w w' := by
  rcases h.2 with ⟨rfl, h0⟩ | ⟨g, cap, cur, rfl, _, hg, hrest⟩
  · obtain rfl : zs = [] := List.length_eq_zero_iff.1 h0
    clear h h0
    go_enter Try.func25, Try.ntmps25
    go_wp2
    refine wp_loop_rounds 1 ?_
    rw [rounds_succ]
    go_wp2
    go_end0
    exact ⟨rfl, OwnInts.nil _, .refl _ _⟩
  · clear hg hrest
    unfold OwnInts at h
    generalize hn : zs.length = n at *
    have HN := Lib.hid hn
    have HO := Lib.hid h
    clear hn h
    go_enter Try.func25, Try.ntmps25
    go_wp2
    go_loopw [2] (fun i wr => ∃ k : Nat, k ≤ n ∧ i = .int .i64 k ∧ Hid (wr.ownsRow 0 3 1 (.slice (some ⟨g, 0, none⟩) n cap) n ((((zs.take k).map spoil) ++ zs.drop k).map (Value.int .i64))) ∧ Only [g] w wr) (fun i _ => n - (intOf i).toNat)
    case atStart => exact ⟨0, Nat.zero_le _, rfl, by simpa using HO, .refl _ _⟩
    case round =>
      obtain ⟨k, hk, rfl, hown, honly⟩ := hrel
      by_cases hlt : k < n
      · have hlz : k < zs.length := by rw [HN.out]; exact hlt
        have g1 : wr.cell? ⟨g, k, none⟩ = some (.int .i64 zs[k]) := by
          rw [hown.out.cellAt k (by omega)]
          simp [List.getElem?_append, hlz, Nat.min_eq_left (Nat.le_of_lt hlz)]
        have f1 := hown.out.frozenAt k
        have hst := hown.out.stored k (.int .i64 (wrap64 (-9 - zs[k])))
        have HS := Lib.hid hst
        clear hst
        go_wp2
        refine ⟨⟨k + 1, by omega, by go_num, ?_, honly.grown HS.out.2 (by simp)⟩, by simp [intOf]; omega⟩
        exact part_set spoil (Value.int .i64) zs k hlz ▸ HS.out.1
      · obtain rfl : k = n := by omega
        go_wp2
        go_end0
        refine ⟨rfl, ?_, honly⟩
        have := hown.out
        have hz := HN.out
        rw [List.take_of_length_le (by omega), List.drop_of_length_le (by omega), List.append_nil] at this
        unfold OwnInts
        rw [List.length_map, hz]
        exact this


theorem clone_nil {a : Nat} {w : World} :
    Calls Try.prog 48 #[.slice none 0 a] w fun e w' => e = .returned (.slice none 0 0) ∧ w = w' := by
  have hq := fun wx => Lib.run_eql_slice_nil (P := Try.prog) wx 22 3 none 0 a 0 0 Try.underlying22
  go_enter Try.func48, Try.ntmps48
  go_wp2
  go_ret
  exact ⟨rfl, rfl⟩

set_option maxRecDepth 100000 in
theorem clone_some {ad : Addr} {c n : Nat} {zs : List Int} {w : World} (hn : zs.length = n) (hs : n * 8 ≤ 140737488355328) (hc : ∀ j u, (zs.map (Value.int .i64))[j]? = some u → w.cell? (ad.add j) = some u) :
    Calls Try.prog 48 #[.slice (some ad) n c] w fun e w' => ∃ v', e = .returned v' ∧ OwnInts w' v' zs ∧ Only [] w w' ∧ ∀ k, v'.ownBlock = some k → w.heap.size ≤ k := by
  obtain ⟨i0, hi, hz0, hz1, hz2⟩ := info_parts infoInt
  have hq := fun wx => Lib.run_eql_slice_nil (P := Try.prog) wx 22 3 (some ad) n c 0 0 Try.underlying22
  have HC := Lib.hid hc
  have HN := Lib.hid hn
  clear hc hn
  go_enter Try.func48, Try.ntmps48
  go_wp2_with (at_builtin; refine wpList_append_own_at _ rfl _ _ 22 rfl 0 3 i0 _ 1 8 Try.underlying22 hi hz0 hz1 hz2 rfl (by decide) _ 0 [] rfl (World.ownsRow_made _ _ _ (Nat.zero_le _) (by unfold maxLen; omega) rfl) ad n c (zs.map (Value.int .i64)) rfl ?c1 ?c2 ?c3 ?c4 ?c5 (Nat.zero_le _) ?_)
  case c1 => simp [HN.out]
  case c2 => intro j u hu; have h := HC.out j u hu; rw [World.cell?_alloc_lt]; exact h; exact World.block_lt_of_cell? _ _ h
  case c3 => simp [Value.oneCell']
  case c4 => unfold maxLen; omega
  case c5 => omega
  intro v' w1 hown hgrow hnil hloc
  go_wp2
  go_ret
  refine ⟨v', rfl, ?_, ((Only.refl _ _).alloc _).grown hgrow (by simp [Value.ownBlock]), ?_⟩
  · unfold OwnInts
    rw [HN.out]
    exact hown
  · intro k hk
    rcases hloc with h | h
    · rw [h] at hk; simp [Value.ownBlock] at hk; omega
    · rw [h] at hk; simp at hk; omega

/-- slices.Clone: the same numbers in new memory. -/
theorem clone_ints {v : Value} {zs : List Int} {w : World} (h : IntsAt w v zs) :
    Calls Try.prog 48 #[v] w fun e w' => ∃ v', e = .returned v' ∧ OwnInts w' v' zs ∧ Only [] w w' ∧ ∀ k, v'.ownBlock = some k → w.heap.size ≤ k := by
  obtain ⟨a, c, rfl, hs, h⟩ := h
  rcases h with h | ⟨b, off, rfl, hb, hc⟩
  · subst h
    cases a with
    | none => exact clone_nil.mono (by rintro e w' ⟨rfl, rfl⟩; exact ⟨_, rfl, .nil _, .refl _ _, by simp [Value.ownBlock]⟩)
    | some ad => exact clone_some rfl (by simp) (by simp)
  · refine clone_some rfl hs fun j u hu => ?_
    have hadd : (⟨b, off, none⟩ : Addr).add j = ⟨b, off + j, none⟩ := by unfold Addr.add; split <;> simp_all
    rw [List.getElem?_map] at hu
    have hj : j < zs.length := by
      rcases Nat.lt_or_ge j zs.length with h | h
      · exact h
      · rw [List.getElem?_eq_none h] at hu; cases hu
    rw [hadd, hc j hj]
    rw [List.getElem?_eq_getElem hj] at hu ⊢
    exact hu
end Go.Proofs.Ytoffmcfaeolcjaa
