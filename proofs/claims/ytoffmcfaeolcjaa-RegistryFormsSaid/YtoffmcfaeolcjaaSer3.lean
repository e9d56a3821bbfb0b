/- RegistryForms, the walk. -/
import Derived.Test.YtoffmcfaeolcjaaSer2
import Derived.Laws.BitsLemmas
namespace Go.Proofs.Ytoffmcfaeolcjaa
open Go.RowKit Go.Maps

set_option maxHeartbeats 4000000 in
set_option maxRecDepth 100000 in
theorem registryForms_walk {x : Int} {w : World} (_hx : (Lit.int .i64 x).wf = true) : Calls Try.prog 5 #[.int .i64 x] w fun e w' => e = .returned (.bool true) ∧ Only [] w w' := by
  obtain ⟨g1, g2⟩ := and1023 x
  generalize hy : bits BinOp.and IntKind.i64 x 1023 = y at *
  have HY := Lib.hid hy
  go_enter Try.func5, Try.ntmps5
  go_wp2_with fail
  refine (awakeSeries _).mono ?_
  rintro e w1 ⟨rfl, o1⟩
  go_wp2_with fail
  refine (new_no _ _ (by omega)).mono ?_
  rintro e _ ⟨rfl, rfl⟩
  go_wp2_with fail
  refine (new_no _ _ (by omega)).mono ?_
  rintro e _ ⟨rfl, rfl⟩
  go_wp2_with fail
  refine (new_reg (by omega) (by omega)).mono ?_
  rintro e w2 ⟨b, F1, rfl, h1, o1', f1⟩
  have o2 := o1.nil o1'
  have f2 := fun f hf => Nat.le_trans o1.size (f1 f hf)
  have O1 := Lib.hid o1
  clear o1 o1' f1
  go_wp2_with (first | (go_at_call 17; refine (num_any _ _).mono ?_; rintro e _ ⟨rfl, rfl⟩))
  refine (add_of (k := 1200) (ids' := []) h1 (by omega) o2 f2 (by unfold addErr; rw [if_pos (by omega)]) (by unfold addIds; rw [if_neg (by omega)])).mono ?_
  rintro e w3 ⟨rfl, F3, h3, o3, f3⟩
  go_wp2_with fail
  refine (add_of (k := 1200) (ids' := []) h3 (by omega) o3 f3 (by unfold addErr; rw [if_pos (by omega)]) (by unfold addIds; rw [if_neg (by omega)])).mono ?_
  rintro e w4 ⟨rfl, F4, h4, o4, f4⟩
  go_wp2_with fail
  refine (add_of (k := 0) (ids' := [1048575]) h4 (by omega) o4 f4 (by decide) (by decide)).mono ?_
  rintro e w6 ⟨rfl, F6, h6, o6, f6⟩
  go_wp2_with (first | (go_at_call 17; refine (num_any _ _).mono ?_; rintro e _ ⟨rfl, rfl⟩))
  refine (ids_any h6 (by decide)).mono ?_
  rintro e w7 ⟨v7, rfl, h7, o7, f7⟩
  go_wp2_with fail
  have ha := (h7.at (by decide)).nilkept (w' := w7.alloc (.cells #[.int .i64 1048575] 3)) ((Only.refl _ _).alloc _)
  have hb := IntsAt.lit w7 [1048575] (by decide)
  refine (sameInts_any ha hb).mono ?_
  rintro e _ ⟨rfl, n8, rfl⟩
  have o8 : Only [] w6 ((w7.alloc (.cells #[.int .i64 1048575] 3)).drewN n8) := (o7.alloc _).drewN _
  have h8 := h6.kept o8 (by simp)
  have O := Lib.hid (o6.nil o8)
  have hd : decide (-(1 + y) ∈ [(1048575 : Int)]) = false := decide_eq_false (by simp; omega)
  clear ha hb
  go_wp2_with (first | (go_at_call 21; refine (has_any h8 (WalkArith.wf_i64 (by omega))).mono ?_; rintro e _ ⟨rfl, rfl⟩; rw [hd]))
  go_ret
  exact ⟨rfl, O.out⟩
end Go.Proofs.Ytoffmcfaeolcjaa
