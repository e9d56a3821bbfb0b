/- Registries, the walk. -/
import Derived.Test.YtoffmcfaeolcjaaSer2
import Derived.Deep.RegionHeld3
import Derived.OpenShut
namespace Go.Proofs.Ytoffmcfaeolcjaa
open Go.RowKit Go.Maps

theorem addIds_len {most x : Int} {ids : List Int} (h : (ids.length : Int) ≤ most) : ((addIds most ids x).length : Int) ≤ most := by
  unfold addIds
  split
  · simp; omega
  · exact h

/-- Both registries hold the same, apart from one another and from what was there. -/
def Both (w wr : World) (b b2 : Nat) (most : Int) (L : List Int) : Prop :=
  ∃ F G, RegIs wr b F most L ∧ RefIs wr b2 G most L ∧ (∀ f ∈ F, f ∉ G) ∧ (∀ f ∈ F, w.heap.size ≤ f) ∧ (∀ g ∈ G, w.heap.size ≤ g) ∧ (L.length : Int) ≤ most ∧ Only [] w wr

theorem Both.kept {w wr wx : World} {b b2 : Nat} {most : Int} {L : List Int} (h : Both w wr b b2 most L) (o : Only [] wr wx) : Both w wx b b2 most L := by
  obtain ⟨F, G, hF, hG, hd, hf, hg, hl, ho⟩ := h
  exact ⟨F, G, hF.kept o (by simp), hG.kept o (by simp), hd, hf, hg, hl, ho.nil o⟩

set_option maxHeartbeats 4000000 in
set_option maxRecDepth 100000 in
theorem registries_walk {most : Int} {v : Value} {ids : List Int} {w : World} (_hm : (Lit.int .i64 most).wf = true) (h : IntsAt w v ids) (hw : ∀ z ∈ ids, (Lit.int .i64 z).wf = true) :
    Calls Try.prog 3 #[.int .i64 most, v] w fun e w' => e = .returned (.bool true) ∧ Only [] w w' := by
  obtain ⟨a, c, rfl, hs, h⟩ := h
  by_cases hin : 1 ≤ most ∧ most ≤ 64
  case neg =>
    go_enter Try.func3, Try.ntmps3
    go_wp2_with fail
    refine (new_no _ _ (by omega)).mono ?_
    rintro e _ ⟨rfl, rfl⟩
    go_wp2_with fail
    refine (refNew_no _ _ (by omega)).mono ?_
    rintro e _ ⟨rfl, rfl⟩
    go_wp2_with (first | (go_at_call 17; refine (num_any _ _).mono ?_; rintro e _ ⟨rfl, rfl⟩) | (go_at_call 18; refine (awakeSeries _).mono ?_; rintro e w1 ⟨rfl, o1⟩))
    go_ret
    exact ⟨rfl, o1⟩
  case pos =>
    obtain ⟨hi1, hi2⟩ := hin
    generalize hn : ids.length = n at *
    have HN := Lib.hid hn
    have HW := Lib.hid hw
    clear hn hw
    go_enter Try.func3, Try.ntmps3
    go_wp2_with fail
    refine (new_reg hi1 hi2).mono ?_
    rintro e w1 ⟨b, F, rfl, h1, o1, f1⟩
    go_wp2_with fail
    refine (ref_reg hi1 hi2).mono ?_
    rintro e w2 ⟨b2, G, rfl, h2, o2, f2⟩
    have hboth : Both w w2 b b2 most [] := ⟨F, G, h1.kept o2 (by simp), h2, fun f hf hg => by have := h1.lt f hf; have := f2 f hg; omega, f1, fun g hg => Nat.le_trans o1.size (f2 g hg), by simp; omega, o1.nil o2⟩
    clear h1 o1 f1 h2 o2 f2
    go_wp2_with (first | (go_at_call 17; refine (num_any _ _).mono ?_; rintro e _ ⟨rfl, rfl⟩))
    have HB := Lib.hid hboth
    clear hboth
    rcases h with h0 | ⟨bi, off, rfl, hbi, hc⟩
    · have h00 : n = 0 := by rw [← HN.out, h0]; rfl
      subst h00
      clear h0
      refine wp_loop_rounds 1 ?_
      rw [rounds_succ]
      go_wp2_with (first | (go_at_call 18; refine (awakeSeries _).mono ?_; rintro e w1 ⟨rfl, o1⟩))
      obtain ⟨_, _, _, _, _, _, _, _, o2⟩ := HB.out
      go_ret
      exact ⟨rfl, o2.nil o1⟩
    have HC := Lib.hid hc
    clear hc
    go_loopw [9] (fun i wr => ∃ k : Nat, k ≤ n ∧ i = .int .i64 k ∧ ∃ L, Hid (Both w wr b b2 most L)) (fun i _ => n - (intOf i).toNat)
    case atStart => exact ⟨0, Nat.zero_le _, rfl, _, HB⟩
    case round =>
      obtain ⟨k, hk, rfl, L, hL⟩ := hrel
      clear HB
      by_cases hlt : k < n ∧ k < 100
      · obtain ⟨hlt, hlt2⟩ := hlt
        obtain ⟨F, G, hF, hG, hd, hf, hg, hlen, ho⟩ := hL.out
        have hcell := HC.out k hlt
        have hx : ids[k]?.getD 0 ∈ ids := by
          rw [List.getElem?_eq_getElem (by rw [HN.out]; exact hlt)]; exact List.getElem_mem _
        have hxw := HW.out _ hx
        have HF := Lib.hid hF
        have HG := Lib.hid hG
        have HO := Lib.hid ho
        have g1 : wr.cell? ⟨bi, off + k, none⟩ = some (.int .i64 (ids[k]?.getD 0)) := ho.cell hcell (by simp)
        clear hF hG ho hx hcell
        generalize ids[k]?.getD 0 = z at *
        go_wp2_with fail
        refine (add_any HF.out (by omega)).mono ?_
        rintro e w3 ⟨rfl, F', h3, o3, f3⟩
        have g3 : w3.cell? ⟨bi, off + k, none⟩ = some (.int .i64 z) := o3.cell g1 (fun h => by have := hf _ h; simp at this; omega)
        have hG3 := Lib.hid (fun W (hW : Drew w3 W) => (HG.out.kept o3 (fun g hg hf => hd g hf hg)).kept (hW.only (F := [])) (by simp))
        have hafter : ∀ W w4 G', Drew w3 W → RefIs w4 b2 G' most (addIds most L z) → Only G W w4 → (∀ f ∈ G', f ∈ G ∨ W.heap.size ≤ f) →
            w4.cell? ⟨bi, off + k, none⟩ = some (.int .i64 z) ∧ Hid (Both w w4 b b2 most (addIds most L z)) := by
          intro W w4 G' hW h4 o4 f4
          have o4' : Only G w3 w4 := (hW.only (F := G)).trans o4 (fun g hg => .inl hg)
          have hsz : W.heap.size = w3.heap.size := by obtain ⟨n, rfl⟩ := hW; rfl
          have hFlt := fun f hf => (HF.out.lt f hf)
          have hGlt := fun f hf => (HG.out.lt f hf)
          refine ⟨o4'.cell g3 (fun h => by have := hg _ h; simp at this; omega), F', G', h3.kept o4' ?_, h4, ?_, ?_, ?_, addIds_len hlen, ?_⟩
          · intro f hf hg'
            rcases f3 f hf with h | h
            · exact hd f h hg'
            · have := hGlt f hg'; omega
          · intro f hf hg'
            have hl3 := h3.lt f hf
            rcases f4 f hg' with h | h
            · rcases f3 f hf with h1 | h1
              · exact hd f h1 h
              · have := hGlt f h; omega
            · omega
          · intro f hf'
            rcases f3 f hf' with h | h
            · exact hf f h
            · exact Nat.le_trans HO.out.size h
          · intro f hf'
            rcases f4 f hf' with h | h
            · exact hg f h
            · rw [hsz] at h; exact Nat.le_trans HO.out.size (Nat.le_trans o3.size h)
          · exact (HO.out.step o3 hf).step o4' hg
        have HA := Lib.hid hafter
        clear hafter h3 o3 f3 g1
        go_wp2_with fail
        go_region_held3 (fun w' => w'.cell? ⟨bi, off + k, none⟩ = some (.int .i64 z))
          (first
            | go_keep
            | exact q4)
          ((first
            | (go_at_call 17; refine (num_any _ _).mono ?_; rintro e _ ⟨rfl, rfl⟩)
            | (go_at_call 20; refine (refAdd_any (hG3.out _ (Drew.drew (Drew.refl _))) (by omega) (by omega)).mono ?_; rintro e w4 ⟨rfl, G', h4, o4, f4⟩; obtain ⟨q4, hB4⟩ := HA.out _ _ _ (Drew.drew (Drew.refl _)) h4 o4 f4; clear h4 o4 f4; obtain ⟨F5, G5, hF5, hG5, hd5, hf5, hg5, hl5, ho5⟩ := hB4.out; obtain ⟨v5, c5, i5⟩ := hG5.ints (by omega); have I5 := Lib.hid i5; clear i5)
            | (go_at_call 21; refine (has_any hF5 (by first | exact hxw | exact wrap64_wf _ | exact wf_wrap .i64 _)).mono ?_; rintro e _ ⟨rfl, rfl⟩)
            | (go_at_call 22; refine (refHas_any c5 I5.out).mono ?_; rintro e _ ⟨rfl, rfl⟩)))
        have HH := Lib.hid hF5
        clear hF5 hG5 hd5 hf5 hg5 ho5 HA
        generalize addIds most L z = L2 at *
        have hL2 : L2.length * 8 ≤ 140737488355328 := by omega
        go_wp2_with fail
        refine (ids_any HH.out (by omega)).mono ?_
        rintro e w6 ⟨v6, rfl, h6, o6, f6⟩
        have c6 := o6.cell c5 (by simp)
        have I6 := Lib.hid (I5.out.nilkept o6)
        go_wp2_with fail
        refine (sameInts_any (h6.at hL2) I6.out).mono ?_
        rintro e _ ⟨rfl, n6, rfl⟩
        have h7 := h6.kept ((Only.refl [] w6).drewN n6) (by simp)
        go_wp2_with (go_at_call 25; refine (spoilInts_any h7 hL2).mono ?_; rintro e w8 ⟨rfl, h8, o8⟩; have hB8 := Lib.hid (hB4.out.kept ((o6.drewN n6).step o8 (fun g hg => f6 g (by simpa using hg)))); clear h8 o8)
        exact ⟨⟨k + 1, by omega, by go_num, _, hB8⟩, by simp [intOf]; omega⟩
      · rcases Nat.lt_or_ge k n with hkn | hkn
        · have hk100 : ¬ k < 100 := fun h => hlt ⟨hkn, h⟩
          clear hlt
          go_wp2_with (go_at_call 18; refine (awakeSeries _).mono ?_; rintro e w1 ⟨rfl, o1⟩)
          obtain ⟨_, _, _, _, _, _, _, _, o2⟩ := hL.out
          go_ret
          exact ⟨rfl, o2.nil o1⟩
        · clear hlt
          go_wp2_with (go_at_call 18; refine (awakeSeries _).mono ?_; rintro e w1 ⟨rfl, o1⟩)
          obtain ⟨_, _, _, _, _, _, _, _, o2⟩ := hL.out
          go_ret
          exact ⟨rfl, o2.nil o1⟩
end Go.Proofs.Ytoffmcfaeolcjaa
