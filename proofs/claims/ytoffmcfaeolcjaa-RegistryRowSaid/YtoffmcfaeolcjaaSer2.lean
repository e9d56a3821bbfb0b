/- awake of the statements on package series. -/
import Derived.Test.YtoffmcfaeolcjaaSer1
namespace Go.Proofs.Ytoffmcfaeolcjaa
open Go.RowKit Go.Maps

theorem new_reg {x : Int} {w : World} (h : 1 ≤ x) (h2 : x ≤ 64) : Calls Try.prog 15 #[.int .i64 x] w fun e w' => ∃ b F, e = .returned (.tuple #[.pointer (some ⟨b, 0, none⟩), .int .i64 0]) ∧ RegIs w' b F x [] ∧ Only [] w w' ∧ ∀ f ∈ F, w.heap.size ≤ f := by
  refine (new_yes x w h h2).mono ?_
  rintro e w' ⟨rfl, rfl⟩
  refine ⟨_, _, rfl, ⟨w.heap.size, .slice none 0 0, ?_, World.ownsRow_nil _ _ _ _, ?_, rfl⟩, ((Only.refl _ _).alloc _).alloc _, ?_⟩
  · have := heap_alloc_new (w.alloc (.map #[] 0)) (.cells #[.int .i64 x, .slice none 0 0, .map (some w.heap.size)] 85)
    simpa using this
  · exact (SetAt.made w).kept (F := []) ((Only.refl _ _).alloc _) (by simp)
  · intro f hf
    simp [Value.ownBlock] at hf
    omega

theorem ref_reg {x : Int} {w : World} (h : 1 ≤ x) (h2 : x ≤ 64) : Calls Try.prog 16 #[.int .i64 x] w fun e w' => ∃ b F, e = .returned (.tuple #[.pointer (some ⟨b, 0, none⟩), .int .i64 0]) ∧ RefIs w' b F x [] ∧ Only [] w w' ∧ ∀ f ∈ F, w.heap.size ≤ f := by
  refine (refNew_yes x w h h2).mono ?_
  rintro e w' ⟨rfl, rfl⟩
  refine ⟨_, _, rfl, ⟨.slice none 0 0, heap_alloc_new w _, World.ownsRow_nil _ _ _ _, rfl⟩, (Only.refl _ _).alloc _, ?_⟩
  intro f hf
  simp [Value.ownBlock] at hf
  omega

theorem add_of {x most k : Int} {b : Nat} {F : List Nat} {w0 w : World} {ids ids' : List Int} (h : RegIs w b F most ids) (hm2 : most ≤ 64) (ho : Only [] w0 w) (hF : ∀ f ∈ F, w0.heap.size ≤ f) (he : addErr most ids x = k) (hi : addIds most ids x = ids') :
    Calls Try.prog 19 #[.pointer (some ⟨b, 0, none⟩), .int .i64 x] w fun e w' => e = .returned (.int .i64 k) ∧ ∃ F', RegIs w' b F' most ids' ∧ Only [] w0 w' ∧ ∀ f ∈ F', w0.heap.size ≤ f := by
  refine (add_any h hm2).mono ?_
  rintro e w' ⟨rfl, F', h1, h2, h3⟩
  refine ⟨by rw [he], F', hi ▸ h1, ho.step h2 hF, fun f hf => ?_⟩
  rcases h3 f hf with h | h
  · exact hF f h
  · exact Nat.le_trans ho.size h

set_option maxHeartbeats 4000000 in
set_option maxRecDepth 100000 in
theorem awakeSeries (w : World) : Calls Try.prog 18 #[] w fun e w' => e = .returned (.bool true) ∧ Only [] w w' := by
  go_enter Try.func18, Try.ntmps18
  go_wp2_with fail
  refine (new_reg (by omega) (by omega)).mono ?_
  rintro e w1 ⟨b, F1, rfl, h1, o1, f1⟩
  go_wp2_with fail
  refine (new_no 0 _ (by omega)).mono ?_
  rintro e _ ⟨rfl, rfl⟩
  go_wp2_with (first | (go_at_call 17; refine (num_any _ _).mono ?_; rintro e _ ⟨rfl, rfl⟩))
  refine (add_of (k := 0) (ids' := [5]) h1 (by omega) o1 f1 (by decide) (by decide)).mono ?_
  rintro e w2 ⟨rfl, F2, h2, o2, f2⟩
  go_wp2_with fail
  refine (add_of (k := 0) (ids' := [5, 3]) h2 (by omega) o2 f2 (by decide) (by decide)).mono ?_
  rintro e w3 ⟨rfl, F3, h3, o3, f3⟩
  go_wp2_with fail
  refine (add_of (k := 0) (ids' := [5, 3]) h3 (by omega) o3 f3 (by decide) (by decide)).mono ?_
  rintro e w4 ⟨rfl, F4, h4, o4, f4⟩
  go_wp2_with fail
  refine (add_of (k := 1201) (ids' := [5, 3]) h4 (by omega) o4 f4 (by decide) (by decide)).mono ?_
  rintro e w5 ⟨rfl, F5, h5, o5, f5⟩
  go_wp2_with fail
  refine (add_of (k := 1200) (ids' := [5, 3]) h5 (by omega) o5 f5 (by decide) (by decide)).mono ?_
  rintro e w6 ⟨rfl, F6, h6, o6, f6⟩
  go_wp2_with (first | (go_at_call 17; refine (num_any _ _).mono ?_; rintro e _ ⟨rfl, rfl⟩))
  refine (ids_any h6 (by decide)).mono ?_
  rintro e w7 ⟨v7, rfl, h7, o7, f7⟩
  go_wp2_with fail
  have ha := (h7.at (by decide)).nilkept (w' := w7.alloc (.cells #[.int .i64 5, .int .i64 3] 3)) ((Only.refl _ _).alloc _)
  have hb := IntsAt.lit w7 [5, 3] (by decide)
  refine (sameInts_any ha hb).mono ?_
  rintro e _ ⟨rfl, n8, rfl⟩
  have o8 : Only [] w6 ((w7.alloc (.cells #[.int .i64 5, .int .i64 3] 3)).drewN n8) := (o7.alloc _).drewN _
  have h8 := h6.kept o8 (by simp)
  have O := Lib.hid (o6.nil o8)
  clear ha hb
  go_wp2_with (first | (go_at_call 21; refine (has_any h8 (by decide)).mono ?_; rintro e _ ⟨rfl, rfl⟩))
  go_ret
  exact ⟨rfl, O.out⟩
end Go.Proofs.Ytoffmcfaeolcjaa
