/- SessionBridge: true at every input. -/
import Derived.Test.YtoffmcfaeolcjaaQP8
namespace Go.Proofs.Ytoffmcfaeolcjaa
open Go Go.Ev
set_option linter.unusedVariables false
set_option linter.unusedSimpArgs false

theorem part_ends {bs : List Int} {σ g : Int} {L : List SP} {ps : List (List IT)} (hL : L.map (·.2) = ps) (hok : ∀ z ∈ L, SOK bs σ g z) (h0 : 0 < ps.length) {v w : Int} (h1 : ∃ x ∈ ps[0], x.2.1 = v) (h2 : ∀ x ∈ ps[0], v ≤ x.2.1) (h3 : ∃ x ∈ ps[ps.length - 1], x.2.1 = w) (h4 : ∀ x ∈ ps[ps.length - 1], x.2.1 ≤ w) :
    ((L.map (·.1)).getD 0 SE0).1 = v ∧ ((L.map (·.1)).getD (ps.length - 1) SE0).2.1 = w := by
  have hl : L.length = ps.length := by rw [← hL, List.length_map]
  have gi : ∀ (i : Nat) (hi : i < ps.length), (L[i]'(by omega)).2 = ps[i] := fun i hi => by
    have : (L.map (·.2))[i]'(by simpa using (by omega : i < L.length)) = ps[i] := by simp only [hL]
    rw [List.getElem_map] at this
    exact this
  rw [getLt (by rw [List.length_map]; omega), getLt (by rw [List.length_map]; omega), List.getElem_map, List.getElem_map]
  have z0 := hok _ (List.getElem_mem (show 0 < L.length by omega))
  have z1 := hok _ (List.getElem_mem (show ps.length - 1 < L.length by omega))
  constructor
  · obtain ⟨x, hx, ex⟩ := h1
    obtain ⟨y, hy, ey⟩ := z0.first_mem
    rw [gi 0 h0] at hy
    have := h2 y hy
    have := z0.first_le x (by rw [gi 0 h0]; exact hx)
    omega
  · obtain ⟨x, hx, ex⟩ := h3
    obtain ⟨y, hy, ey⟩ := z1.last_mem
    rw [gi _ (by omega)] at hy
    have := h4 y hy
    have := z1.last_le x (by rw [gi _ (by omega)]; exact hx)
    omega
theorem conn1 {g : Int} (x : IT) : Conn g [x] := by
  intro a ha ⟨b, hb, hab⟩
  rw [List.mem_singleton.1 ha, List.mem_singleton.1 hb] at hab
  omega
theorem conn2 {g : Int} {x y : IT} (h : x.2.1 < y.2.1) (h' : y.2.1 < x.2.1 + g) : Conn g [x, y] := by
  intro a ha ⟨b, hb, hab⟩
  simp only [List.mem_cons, List.not_mem_nil, or_false] at ha hb
  rcases ha with rfl | rfl
  · exact ⟨y, by simp, h, h'⟩
  · rcases hb with rfl | rfl <;> omega
theorem conn3 {g : Int} {x y z : IT} (h : x.2.1 < y.2.1) (h' : y.2.1 < x.2.1 + g) (k : y.2.1 < z.2.1) (k' : z.2.1 < y.2.1 + g) : Conn g [x, y, z] := by
  intro a ha ⟨b, hb, hab⟩
  simp only [List.mem_cons, List.not_mem_nil, or_false] at ha hb
  rcases ha with rfl | rfl | rfl
  · exact ⟨y, by simp, h, h'⟩
  · exact ⟨z, by simp, k, k'⟩
  · rcases hb with rfl | rfl | rfl <;> omega
theorem apart1 {g : Int} {p q : List IT} (h : ∀ x ∈ p, ∀ y ∈ q, x.2.1 + g ≤ y.2.1) : Apart g p q := h
def bx (a : Int) : IT := (0, -a, 1, 1)
def by_ (b : Int) : IT := (0, b, 2, 1)
def bz : IT := (0, 0, 3, 1)
theorem bridge_parts (g a b : Int) (ha : 1 ≤ a) (hb : 1 ≤ b) (hab : g ≤ a + b) (h64 : g ≤ 64) : ∃ ps : List (List IT), ps.flatten = [bx a, bz, by_ b] ∧ (∀ p ∈ ps, p ≠ [] ∧ Conn g p) ∧ ps.Pairwise (Apart g) ∧ (ps.length : Int) = 3 - (if a < g then 1 else 0) - (if b < g then 1 else 0) ∧
    ∃ h0 : 0 < ps.length, (∃ x ∈ ps[0], x.2.1 = -a) ∧ (∀ x ∈ ps[0], -a ≤ x.2.1) ∧ (∃ x ∈ ps[ps.length - 1], x.2.1 = b) ∧ (∀ x ∈ ps[ps.length - 1], x.2.1 ≤ b) := by
  have e1 : (bx a).2.1 = -a := rfl
  have e2 : (by_ b).2.1 = b := rfl
  have e3 : bz.2.1 = 0 := rfl
  by_cases c1 : a < g <;> by_cases c2 : b < g
  · refine ⟨[[bx a, bz, by_ b]], rfl, ?_, List.pairwise_singleton _ _, ?_, ?_⟩
    · intro p hp
      rw [List.mem_singleton.1 hp]
      exact ⟨by simp, conn3 (by omega) (by omega) (by omega) (by omega)⟩
    · rw [if_pos c1, if_pos c2]; rfl
    · refine ⟨by simp, ?_⟩
      simp only [List.getElem_cons_zero, List.length_cons, List.length_nil, Nat.zero_add, Nat.sub_self]
      refine ⟨⟨bx a, by simp, e1⟩, ?_, ⟨by_ b, by simp, e2⟩, ?_⟩ <;>
      · intro x hx
        simp only [List.mem_cons, List.not_mem_nil, or_false] at hx
        rcases hx with rfl | rfl | rfl <;> omega
  · refine ⟨[[bx a, bz], [by_ b]], rfl, ?_, ?_, ?_, ?_⟩
    · intro p hp
      simp only [List.mem_cons, List.not_mem_nil, or_false] at hp
      rcases hp with rfl | rfl
      · exact ⟨by simp, conn2 (by omega) (by omega)⟩
      · exact ⟨by simp, conn1 _⟩
    · refine List.pairwise_cons.2 ⟨?_, List.pairwise_singleton _ _⟩
      intro q hq
      rw [List.mem_singleton.1 hq]
      intro x hx y hy
      simp only [List.mem_cons, List.not_mem_nil, or_false] at hx hy
      rcases hx with rfl | rfl <;> subst hy <;> omega
    · rw [if_pos c1, if_neg c2]; rfl
    · refine ⟨by simp, ⟨bx a, by simp, e1⟩, ?_, ⟨by_ b, by simp, e2⟩, ?_⟩ <;>
      · intro x hx
        simp only [List.getElem_cons_zero, List.length_cons, List.length_nil, Nat.zero_add, Nat.add_one_sub_one, List.getElem_cons_succ, List.mem_cons, List.not_mem_nil, or_false] at hx
        first | (rcases hx with rfl | rfl <;> omega) | (subst hx; omega)
  · refine ⟨[[bx a], [bz, by_ b]], rfl, ?_, ?_, ?_, ?_⟩
    · intro p hp
      simp only [List.mem_cons, List.not_mem_nil, or_false] at hp
      rcases hp with rfl | rfl
      · exact ⟨by simp, conn1 _⟩
      · exact ⟨by simp, conn2 (by omega) (by omega)⟩
    · refine List.pairwise_cons.2 ⟨?_, List.pairwise_singleton _ _⟩
      intro q hq
      rw [List.mem_singleton.1 hq]
      intro x hx y hy
      simp only [List.mem_cons, List.not_mem_nil, or_false] at hx hy
      rcases hy with rfl | rfl <;> subst hx <;> omega
    · rw [if_neg c1, if_pos c2]; rfl
    · refine ⟨by simp, ⟨bx a, by simp, e1⟩, ?_, ⟨by_ b, by simp, e2⟩, ?_⟩ <;>
      · intro x hx
        simp only [List.getElem_cons_zero, List.length_cons, List.length_nil, Nat.zero_add, Nat.add_one_sub_one, List.getElem_cons_succ, List.mem_cons, List.not_mem_nil, or_false] at hx
        first | (rcases hx with rfl | rfl <;> omega) | (subst hx; omega)
  · refine ⟨[[bx a], [bz], [by_ b]], rfl, ?_, ?_, ?_, ?_⟩
    · intro p hp
      simp only [List.mem_cons, List.not_mem_nil, or_false] at hp
      rcases hp with rfl | rfl | rfl <;> exact ⟨by simp, conn1 _⟩
    · refine List.pairwise_cons.2 ⟨?_, List.pairwise_cons.2 ⟨?_, List.pairwise_singleton _ _⟩⟩
      · intro q hq
        simp only [List.mem_cons, List.not_mem_nil, or_false] at hq
        rcases hq with rfl | rfl <;>
        · intro x hx y hy
          rw [List.mem_singleton.1 hx, List.mem_singleton.1 hy]; omega
      · intro q hq
        rw [List.mem_singleton.1 hq]
        intro x hx y hy
        rw [List.mem_singleton.1 hx, List.mem_singleton.1 hy]; omega
    · rw [if_neg c1, if_neg c2]; rfl
    · refine ⟨by simp, ⟨bx a, by simp, e1⟩, ?_, ⟨by_ b, by simp, e2⟩, ?_⟩ <;>
      · intro x hx
        simp only [List.getElem_cons_zero, List.length_cons, List.length_nil, Nat.zero_add, Nat.add_one_sub_one, List.getElem_cons_succ, List.mem_cons, List.not_mem_nil, or_false] at hx
        subst hx; omega
theorem Bridge_true (n : Nat) (hn : 200 ≤ n) (gap left right : Int) : bournelaw6_SessionBridge n gap left right = some true := by
  rw [bournelaw6_SessionBridge_S, awake_eq]
  simp only [Option.bind_some, Bool.not_true, cond_false, nl, bournelaw6_item, mask63, mask127]
  rw [wrapOK (x := 1 + left % 128) (by omega) (by omega), wrapOK (x := 1 + right % 128) (by omega) (by omega), wrapOK (x := 1 + gap % 64) (by omega) (by omega), wrapOK (x := 0 - (1 + left % 128)) (by omega) (by omega), wrapOK (x := 1 + left % 128 + (1 + right % 128)) (by omega) (by omega)]
  simp only [bournelaw6_SessionBridge_j0_S, bournelaw6_SessionBridge_j1_S, mask63, mask127]
  rw [wrapOK (x := 1 + left % 128) (by omega) (by omega), wrapOK (x := 1 + right % 128) (by omega) (by omega), wrapOK (x := 1 + gap % 64) (by omega) (by omega), wrapOK (x := 0 - (1 + left % 128)) (by omega) (by omega)]
  generalize ha : 1 + left % 128 = a
  generalize hb : 1 + right % 128 = b
  generalize hg : 1 + gap % 64 = g
  have a1 : 1 ≤ a ∧ a ≤ 128 := by omega
  have b1 : 1 ≤ b ∧ b ≤ 128 := by omega
  have g1 : 1 ≤ g ∧ g ≤ 64 := by omega
  clear ha hb hg
  have w3 : Go.IntKind.i64.wrap (3 - 1) = 2 := by rw [wrapOK] <;> omega
  have w2 : Go.IntKind.i64.wrap (2 - 1) = 1 := by rw [wrapOK] <;> omega
  have na : (0 : Int) - a = -a := by omega
  rw [na]
  by_cases c : a + b < g
  · simp only [c, decide_true, cond_true]
  · have hgm : gapMay g = true := by simp only [gapMay, Bool.and_eq_true, decide_eq_true_eq]; omega
    have e2 (x y : IT) : ((List.replicate 2 ((0 : Int), (0 : Int), (0 : Int), (0 : Int))).set 0 x).set 1 y = [x, y] := rfl
    have ix : itemMay (bx a) = true ∧ (bx a).1 = 0 := ⟨item_ok (by omega) (by omega) (by omega) (by omega) (by omega) (by omega), rfl⟩
    have iy : itemMay (by_ b) = true ∧ (by_ b).1 = 0 := ⟨item_ok (by omega) (by omega) (by omega) (by omega) (by omega) (by omega), rfl⟩
    have iz : itemMay bz = true ∧ bz.1 = 0 := ⟨by decide, rfl⟩
    have x1 : (bx a).2.1 = -a := rfl
    have x2 : (by_ b).2.1 = b := rfl
    obtain ⟨s, f1, i1⟩ := add_run (n := n) (X := []) (xs := [bx a, by_ b]) (σ := 0) hn hgm (Is.nil [] 0 g) (by
      intro x hx
      simp only [List.mem_cons, List.not_mem_nil, or_false] at hx
      rcases hx with rfl | rfl
      · exact ix
      · exact iy) (by simp)
    obtain ⟨t, f2, i2⟩ := add_run (n := n) (xs := [bz]) hn hgm i1 (by
      intro x hx
      rw [List.mem_singleton.1 hx]; exact iz) (by simp)
    simp only [List.append_nil, List.cons_append, List.nil_append] at i1 i2
    obtain ⟨L1, rfl, hL1, -⟩ := is_parts bnd0 hgm (ps := [[bx a], [by_ b]]) (by
      intro p hp
      simp only [List.mem_cons, List.not_mem_nil, or_false] at hp
      rcases hp with rfl | rfl
      · exact ⟨by simp, fun x hx => by rw [List.mem_singleton.1 hx]; exact ix, by simp, conn1 _⟩
      · exact ⟨by simp, fun x hx => by rw [List.mem_singleton.1 hx]; exact iy, by simp, conn1 _⟩) (List.pairwise_cons.2 ⟨by
        intro q hq
        rw [List.mem_singleton.1 hq]
        intro x hx y hy
        rw [List.mem_singleton.1 hx, List.mem_singleton.1 hy]; omega, List.pairwise_singleton _ _⟩) i1 (List.Perm.refl _) (by simp [bx, by_])
    have l1 : (L1.map (·.1)).length = 2 := by
      have := congrArg List.length hL1
      rw [List.length_map] at this ⊢
      exact this
    obtain ⟨ps, p1, p2, p3, p4, p5, p6, p7, p8, p9⟩ := bridge_parts g a b a1.1 b1.1 (by omega) g1.2
    have memps : ∀ p ∈ ps, ∀ x ∈ p, x = bx a ∨ x = bz ∨ x = by_ b := fun p hp x hx => by
      have : x ∈ ps.flatten := List.mem_flatten.2 ⟨p, hp, hx⟩
      rw [p1] at this
      simpa using this
    obtain ⟨L2, rfl, hL2, ok2⟩ := is_parts bnd0 hgm (ps := ps) (by
      intro p hp
      refine ⟨(p2 p hp).1, fun x hx => ?_, ?_, (p2 p hp).2⟩
      · rcases memps p hp x hx with rfl | rfl | rfl
        · exact ix
        · exact iz
        · exact iy
      · have := (List.sublist_flatten_of_mem hp).length_le
        rw [p1] at this
        simp at this
        omega) p3 i2 (by rw [p1]; exact List.Perm.swap _ _ _) (by simp [bx, by_, bz])
    obtain ⟨q1, q2⟩ := part_ends hL2 ok2 p5 p6 p7 p8 p9
    have l2 : (L2.map (·.1)).length = ps.length := by rw [← hL2, List.length_map, List.length_map]
    have hd : ∀ (ss : List SE) (j : Nat), ss.getD j ((0 : Int), (0 : Int), (0 : Int), (0 : Int), (0 : Int), (0 : Int), ((0 : Int), (0 : Int), (0 : Int), (0 : Int)), ((0 : Int), (0 : Int), (0 : Int), (0 : Int)), Go.Ev.nl Int) = ss.getD j SE0 := fun _ _ => rfl
    have ebx : ((0 : Int), -a, (1 : Int), (1 : Int)) = bx a := rfl
    have eby : ((0 : Int), b, (2 : Int), (1 : Int)) = by_ b := rfl
    have ebz : ((0 : Int), (0 : Int), (3 : Int), (1 : Int)) = bz := rfl
    have z0 : Int.toNat 0 = 0 := rfl
    have hp3 : ps.length ≤ 3 := by
      by_cases c1 : a < g <;> by_cases c2 : b < g <;> simp only [c1, c2, if_true, if_false] at p4 <;> omega
    have tl : (if (0 : Int) ≤ 0 ∧ (0 : Int) < ((L2.map (·.1)).length : Int) then bif ((L2.map (·.1)).getD (Int.toNat 0) SE0).1 == -a then if (0 : Int) ≤ Go.IntKind.i64.wrap (((L2.map (·.1)).length : Int) - 1) ∧ Go.IntKind.i64.wrap (((L2.map (·.1)).length : Int) - 1) < ((L2.map (·.1)).length : Int) then some (((L2.map (·.1)).getD (Go.IntKind.i64.wrap (((L2.map (·.1)).length : Int) - 1)).toNat SE0).2.1 == b) else none else some false else none) = some true := by
      rw [if_pos (by omega), z0, q1, wrapOK (by omega) (by omega), if_pos (by omega), show (((L2.map (·.1)).length : Int) - 1).toNat = ps.length - 1 by omega, q2]
      simp
    simp only [c, decide_false, cond_false, e2, set1, ebx, eby, ebz, f1, f2, Option.bind_some, bournelaw0_Num, bne_self_eq_false, l1, w3, hd, Int.cast_ofNat_Int]
    rw [l2] at tl ⊢
    by_cases c1 : a < g <;> by_cases c2 : b < g <;> simp only [c1, c2, if_true, if_false] at p4 <;> simp only [c1, c2, decide_true, decide_false, cond_true, cond_false, w2, w3] <;> rw [show ((ps.length : Int) == _) = true from by simp only [beq_iff_eq]; omega] <;> simp only [cond_true] <;> exact tl
end Go.Proofs.Ytoffmcfaeolcjaa
