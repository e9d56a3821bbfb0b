/- MarksForms, the walk. -/
import Derived.Test.YtoffmcfaeolcjaaMar1
namespace Go.Proofs.Ytoffmcfaeolcjaa
open Go.RowKit Go.Maps

def setOk (zs : List Int) (s t : Int) : Prop := 0 ≤ s ∧ s < zs.length ∧ -4398046511104 < t ∧ t ≤ 4398046511104
instance (zs : List Int) (s t : Int) : Decidable (setOk zs s t) := inferInstanceAs (Decidable (_ ∧ _))
def setMarks (zs : List Int) (s t : Int) : List Int := if setOk zs s t then zs.set s.toNat (max (zs[s.toNat]?.getD 0) t) else zs
def setErr (zs : List Int) (s t : Int) : Int := if setOk zs s t then 0 else 1300
theorem setMarks_len (zs : List Int) (s t : Int) : (setMarks zs s t).length = zs.length := by unfold setMarks; split <;> simp

/-- Marks in memory of its own. -/
def Mk (w0 w : World) (b : Nat) (zs : List Int) : Prop := ∃ F, MarksIs w b F zs ∧ Only [] w0 w ∧ ∀ f ∈ F, w0.heap.size ≤ f

theorem Mk.set {w0 w : World} {b : Nat} {zs : List Int} (h : Mk w0 w b zs) (_h0 : 0 < zs.length) (hsm : zs.length ≤ 8) {s t : Int} :
    Calls Try.prog 30 #[.pointer (some ⟨b, 0, none⟩), .int .i64 s, .int .i64 t] w fun e w' => e = .returned (.tuple #[.bool (decide (leastTo zs zs.length < leastTo (setMarks zs s t) zs.length)), .int .i64 (setErr zs s t)]) ∧ Mk w0 w' b (setMarks zs s t) := by
  obtain ⟨F, h1, h2, h3⟩ := h
  unfold setMarks setErr
  by_cases hok : setOk zs s t
  · rw [if_pos hok, if_pos hok]
    obtain ⟨k1, k2, k3, k4⟩ := hok
    obtain ⟨n, rfl⟩ := Int.eq_ofNat_of_zero_le k1
    have hn : n < zs.length := by omega
    rw [Int.toNat_natCast, List.getElem?_eq_getElem hn]
    refine (set_yes h1 hsm hn k3 k4).mono ?_
    rintro e w' ⟨rfl, g1, g2⟩
    exact ⟨rfl, F, g1, h2.step g2 h3, h3⟩
  · rw [if_neg hok, if_neg hok]
    refine (set_no h1 hok).mono ?_
    rintro e w' ⟨rfl, rfl⟩
    exact ⟨by rw [decide_eq_false (Int.lt_irrefl _)], F, h1, h2, h3⟩

theorem Mk.set_of {w0 w : World} {b : Nat} {zs zs' : List Int} {r : Bool} {x : Int} (h : Mk w0 w b zs) (h0 : 0 < zs.length) (hsm : zs.length ≤ 8) {s t : Int} (e1 : setMarks zs s t = zs') (e2 : decide (leastTo zs zs.length < leastTo zs' zs.length) = r) (e3 : setErr zs s t = x) :
    Calls Try.prog 30 #[.pointer (some ⟨b, 0, none⟩), .int .i64 s, .int .i64 t] w fun e w' => e = .returned (.tuple #[.bool r, .int .i64 x]) ∧ Mk w0 w' b zs' := by
  subst e1 e2 e3
  exact h.set h0 hsm

theorem Mk.least {w0 w : World} {b : Nat} {zs : List Int} {x : Int} (h : Mk w0 w b zs) (h0 : 0 < zs.length) (hsm : zs.length ≤ 8) (e : leastTo zs zs.length = x) :
    Calls Try.prog 29 #[.pointer (some ⟨b, 0, none⟩)] w fun e w' => e = .returned (.int .i64 x) ∧ w = w' := by
  subst e
  obtain ⟨F, h1, h2, h3⟩ := h
  exact least_any h1 h0 hsm

theorem Mk.kept {w0 w wx : World} {b : Nat} {zs : List Int} (h : Mk w0 w b zs) (o : Only [] w wx) : Mk w0 wx b zs := by
  obtain ⟨F, h1, h2, h3⟩ := h
  exact ⟨F, h1.kept o (by simp), h2.nil o, h3⟩

theorem Mk.all {w0 w : World} {b : Nat} {zs : List Int} (h : Mk w0 w b zs) (hsm : zs.length ≤ 8) :
    Calls Try.prog 32 #[.pointer (some ⟨b, 0, none⟩)] w fun e w' => ∃ v', e = .returned v' ∧ OwnInts w' v' zs ∧ Mk w0 w' b zs ∧ ∀ k, v'.ownBlock = some k → w.heap.size ≤ k := by
  have hh := h
  obtain ⟨F, h1, h2, h3⟩ := h
  refine (all_any h1 hsm).mono ?_
  rintro e w' ⟨v', rfl, g1, g2, g3⟩
  exact ⟨v', rfl, g1, hh.kept g2, g3⟩

theorem Mk.new {x : Int} {w0 w : World} (o : Only [] w0 w) (h : 1 ≤ x) (h2 : x ≤ 8) : Calls Try.prog 26 #[.int .i64 x] w fun e w' => ∃ b, e = .returned (.tuple #[.pointer (some ⟨b, 0, none⟩), .int .i64 0]) ∧ Mk w0 w' b (List.replicate x.toNat noMark) := by
  refine (marksNew_yes h h2).mono ?_
  rintro e w' ⟨b, F, rfl, g1, g2, g3⟩
  exact ⟨b, rfl, F, g1, o.nil g2, fun f hf => Nat.le_trans o.size (g3 f hf)⟩

set_option maxHeartbeats 4000000 in
set_option maxRecDepth 100000 in
theorem awakeMarks (w : World) : Calls Try.prog 28 #[] w fun e w' => e = .returned (.bool true) ∧ Only [] w w' := by
  go_enter Try.func28, Try.ntmps28
  go_wp2_with fail
  refine (Mk.new (Only.refl _ w) (by omega) (by omega)).mono ?_
  rintro e w1 ⟨b, rfl, h1⟩
  go_wp2_with fail
  refine (marksNew_no 9 _ (by omega)).mono ?_
  rintro e _ ⟨rfl, rfl⟩
  go_wp2_with (first | (go_at_call 17; refine (num_any _ _).mono ?_; rintro e _ ⟨rfl, rfl⟩))
  refine (Mk.set_of (zs' := [5, noMark]) (r := false) (x := 0) h1 (by decide) (by decide) (by decide) (by decide) (by decide)).mono ?_
  rintro e w2 ⟨rfl, h2⟩
  go_wp2_with fail
  refine (Mk.least (x := -4398046511104) h2 (by decide) (by decide) (by decide)).mono ?_
  rintro e _ ⟨rfl, rfl⟩
  go_wp2_with fail
  refine (Mk.set_of (zs' := [5, 3]) (r := true) (x := 0) h2 (by decide) (by decide) (by decide) (by decide) (by decide)).mono ?_
  rintro e w3 ⟨rfl, h3⟩
  go_wp2_with fail
  refine (Mk.set_of (zs' := [5, 3]) (r := false) (x := 0) h3 (by decide) (by decide) (by decide) (by decide) (by decide)).mono ?_
  rintro e w4 ⟨rfl, h4⟩
  go_wp2_with fail
  refine (Mk.set_of (zs' := [5, 3]) (r := false) (x := 1300) h4 (by decide) (by decide) (by decide) (by decide) (by decide)).mono ?_
  rintro e w5 ⟨rfl, h5⟩
  go_wp2_with fail
  refine (Mk.set_of (zs' := [5, 3]) (r := false) (x := 1300) h5 (by decide) (by decide) (by decide) (by decide) (by decide)).mono ?_
  rintro e w6 ⟨rfl, h6⟩
  go_wp2_with (first | (go_at_call 17; refine (num_any _ _).mono ?_; rintro e _ ⟨rfl, rfl⟩) | (go_at_call 29; refine (Mk.least (x := 3) h6 (by decide) (by decide) (by decide)).mono ?_; rintro e _ ⟨rfl, rfl⟩))
  refine (Mk.all h6 (by decide)).mono ?_
  rintro e w7 ⟨v7, rfl, h7, hk7, f7⟩
  go_wp2_with fail
  have ha := (h7.at (by decide)).nilkept (w' := w7.alloc (.cells #[.int .i64 5, .int .i64 3] 3)) ((Only.refl _ _).alloc _)
  have hb := IntsAt.lit w7 [5, 3] (by decide)
  obtain ⟨_, _, o7, _⟩ := hk7
  have O7 := Lib.hid (o7.alloc (.cells #[.int .i64 5, .int .i64 3] 3))
  clear o7
  refine (sameInts_yes ha hb rfl).mono ?_
  rintro e _ ⟨rfl, n8, rfl⟩
  clear ha hb
  go_wp2
  go_ret
  exact ⟨rfl, O7.out.drewN n8⟩

theorem mod5 (m : Int) : 0 ≤ (IntKind.u64.wrap m).tmod 5 ∧ (IntKind.u64.wrap m).tmod 5 ≤ 4 := by
  have h : 0 ≤ IntKind.u64.wrap m := by simp [IntKind.wrap, IntKind.bits, IntKind.signed]; omega
  rw [Int.tmod_eq_emod_of_nonneg h]
  omega

set_option maxHeartbeats 4000000 in
set_option maxRecDepth 100000 in
theorem marksForms_walk {which x : Int} {w : World} (_hw : (Lit.int .i64 which).wf = true) (_hx : (Lit.int .i64 x).wf = true) :
    Calls Try.prog 8 #[.int .i64 which, .int .i64 x] w fun e w' => e = .returned (.bool true) ∧ Only [] w w' := by
  obtain ⟨g1, g2⟩ := and1023 x
  generalize hy : bits BinOp.and IntKind.i64 x 1023 = y at *
  have HY := Lib.hid hy
  obtain ⟨m1, m2⟩ := mod5 which
  generalize hm : (IntKind.u64.wrap which).tmod 5 = m at *
  have HM := Lib.hid hm
  have hc : m = 0 ∨ m = 1 ∨ m = 2 ∨ m = 3 ∨ m = 4 := by omega
  rcases hc with rfl | rfl | rfl | rfl | rfl
  all_goals
    clear m1 m2
    go_enter Try.func8, Try.ntmps8
    go_wp2_with fail
    refine (awakeMarks _).mono ?_
    rintro e w1 ⟨rfl, o1⟩
    go_wp2_with fail
    refine (marksNew_no _ _ (by omega)).mono ?_
    rintro e _ ⟨rfl, rfl⟩
    go_wp2_with fail
    refine (marksNew_no _ _ (by omega)).mono ?_
    rintro e _ ⟨rfl, rfl⟩
    go_wp2_with fail
    refine (Mk.new o1 (by omega) (by omega)).mono ?_
    rintro e w2 ⟨b, rfl, h1⟩
    clear o1
    go_wp2_with (first | (go_at_call 17; refine (num_any _ _).mono ?_; rintro e _ ⟨rfl, rfl⟩))
    refine (Mk.set_of (zs' := [7, noMark]) (r := false) (x := 0) h1 (by decide) (by decide) (by decide) (by decide) (by decide)).mono ?_
    rintro e w3 ⟨rfl, h3⟩
    go_wp2_with fail
    have hno : ∀ s t, ¬ (0 ≤ s ∧ s < 2 ∧ -4398046511104 < t ∧ t ≤ 4398046511104) → setMarks [7, noMark] s t = [7, noMark] ∧ setErr [7, noMark] s t = 1300 := by
      intro s t h
      have h' : ¬ setOk [7, noMark] s t := h
      unfold setMarks setErr
      rw [if_neg h', if_neg h']
      exact ⟨rfl, rfl⟩
    have HN := Lib.hid hno
    clear hno
    refine (Mk.set_of (zs' := [7, noMark]) (r := false) (x := 1300) h3 (by decide) (by decide) (HN.out _ _ (by omega)).1 (by decide) (HN.out _ _ (by omega)).2).mono ?_
    rintro e w4 ⟨rfl, h4⟩
    go_wp2_with fail
    refine (Mk.set_of (zs' := [7, 4398046511104]) (r := true) (x := 0) h4 (by decide) (by decide) (by decide) (by decide) (by decide)).mono ?_
    rintro e w6 ⟨rfl, h6⟩
    go_wp2_with (first | (go_at_call 17; refine (num_any _ _).mono ?_; rintro e _ ⟨rfl, rfl⟩) | (go_at_call 29; refine (Mk.least (x := 7) h6 (by decide) (by decide) (by decide)).mono ?_; rintro e _ ⟨rfl, rfl⟩))
    refine (Mk.all h6 (by decide)).mono ?_
    rintro e w7 ⟨v7, rfl, h7, hk7, f7⟩
    go_wp2_with fail
    have ha := (h7.at (by decide)).nilkept (w' := w7.alloc (.cells #[.int .i64 7, .int .i64 4398046511104] 3)) ((Only.refl _ _).alloc _)
    have hb := IntsAt.lit w7 [7, 4398046511104] (by decide)
    obtain ⟨_, _, o7, _⟩ := hk7
    have O7 := Lib.hid (o7.alloc (.cells #[.int .i64 7, .int .i64 4398046511104] 3))
    clear o7
    refine (sameInts_yes ha hb rfl).mono ?_
    rintro e _ ⟨rfl, n8, rfl⟩
    clear ha hb
    go_wp2
    go_ret
    exact ⟨rfl, O7.out.drewN n8⟩
end Go.Proofs.Ytoffmcfaeolcjaa
