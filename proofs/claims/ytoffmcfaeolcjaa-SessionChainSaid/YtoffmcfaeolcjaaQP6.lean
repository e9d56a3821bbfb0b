/- Sessions of a set of items: there is one row of them, and Add makes it. -/
import Derived.Test.YtoffmcfaeolcjaaQP5
namespace Go.Proofs.Ytoffmcfaeolcjaa
open Go Go.Ev
set_option linter.unusedVariables false
set_option linter.unusedSimpArgs false

abbrev SP := SE × List IT
def Apart (g : Int) (p q : List IT) : Prop := ∀ x ∈ p, ∀ y ∈ q, x.2.1 + g ≤ y.2.1
def Conn (g : Int) (p : List IT) : Prop := ∀ a ∈ p, (∃ b ∈ p, a.2.1 < b.2.1) → ∃ b ∈ p, a.2.1 < b.2.1 ∧ b.2.1 < a.2.1 + g
structure SOK (bs : List Int) (σ g : Int) (z : SP) : Prop where
  pc : Piece bs σ z.1.2.2 z.2
  fst : z.1.1 = z.1.2.2.2.2.2.2.1.2.1
  lst : z.1.2.1 = z.1.2.2.2.2.2.2.2.1.2.1
  conn : Conn g z.2
theorem SOK.first_le {bs : List Int} {σ g : Int} {z : SP} (h : SOK bs σ g z) : ∀ x ∈ z.2, z.1.1 ≤ x.2.1 := fun x hx => by rw [h.fst]; exact leI_time (h.pc.is.fl x hx)
theorem SOK.last_le {bs : List Int} {σ g : Int} {z : SP} (h : SOK bs σ g z) : ∀ x ∈ z.2, x.2.1 ≤ z.1.2.1 := fun x hx => by rw [h.lst]; exact leI_time (h.pc.is.ll x hx)
theorem SOK.first_mem {bs : List Int} {σ g : Int} {z : SP} (h : SOK bs σ g z) : ∃ x ∈ z.2, x.2.1 = z.1.1 := ⟨_, h.pc.is.fm, h.fst.symm⟩
theorem SOK.last_mem {bs : List Int} {σ g : Int} {z : SP} (h : SOK bs σ g z) : ∃ x ∈ z.2, x.2.1 = z.1.2.1 := ⟨_, h.pc.is.lm, h.lst.symm⟩
def IsL (bs : List Int) (σ g : Int) (L : List SP) (X : List IT) : Prop := (L.map (·.2)).flatten.Perm X ∧ (∀ z ∈ L, SOK bs σ g z) ∧ L.Pairwise fun z w => Apart g z.2 w.2
def Is (bs : List Int) (σ g : Int) (ss : List SE) (X : List IT) : Prop := ∃ L : List SP, ss = L.map (·.1) ∧ IsL bs σ g L X
theorem Is.nil (bs : List Int) (σ g : Int) : Is bs σ g [] [] := ⟨[], rfl, List.Perm.refl _, fun _ h => by simp at h, List.Pairwise.nil⟩

theorem pairMem {α : Type} {R : α → α → Prop} : ∀ {L : List α}, L.Pairwise R → ∀ x ∈ L, ∀ y ∈ L, x = y ∨ R x y ∨ R y x
  | [], _, _, h, _, _ => by simp at h
  | a :: L, h, x, hx, y, hy => by
    obtain ⟨h1, h2⟩ := List.pairwise_cons.1 h
    rcases List.mem_cons.1 hx with ex | hx' <;> rcases List.mem_cons.1 hy with ey | hy'
    · exact Or.inl (ex.trans ey.symm)
    · rw [ex]; exact Or.inr (Or.inl (h1 y hy'))
    · rw [ey]; exact Or.inr (Or.inr (h1 x hx'))
    · exact pairMem h2 x hx' y hy'
theorem conn_step {g : Int} {q : List IT} (h : Conn g q) (t : Int) {b : IT} (hb : b ∈ q) (hbt : t < b.2.1) : ∀ (k : Nat) (f : IT), f ∈ q → f.2.1 ≤ t → (t - f.2.1).toNat ≤ k → ∃ d ∈ q, t < d.2.1 ∧ d.2.1 < t + g := by
  intro k
  induction k with
  | zero =>
    intro f hf hft hk
    obtain ⟨d, hd, h1, h2⟩ := h f hf ⟨b, hb, by omega⟩
    exact ⟨d, hd, by omega, by omega⟩
  | succ k ih =>
    intro f hf hft hk
    obtain ⟨d, hd, h1, h2⟩ := h f hf ⟨b, hb, by omega⟩
    by_cases c : t < d.2.1
    · exact ⟨d, hd, c, by omega⟩
    · exact ih d hd (by omega) (by omega)
theorem memPut {B : List SP} {x y : IT} : y ∈ (B.map (·.2)).flatten ++ [x] ↔ (∃ z ∈ B, y ∈ z.2) ∨ y = x := by
  rw [List.mem_append, List.mem_singleton, List.mem_flatten]
  constructor
  · rintro (⟨l, hl, hy⟩ | h)
    · obtain ⟨z, hz, rfl⟩ := List.mem_map.1 hl
      exact Or.inl ⟨z, hz, hy⟩
    · exact Or.inr h
  · rintro (⟨z, hz, hy⟩ | h)
    · exact Or.inl ⟨z.2, List.mem_map.2 ⟨z, hz, rfl⟩, hy⟩
    · exact Or.inr h
theorem conn_join {bs : List Int} {σ g : Int} (hg : 0 < g) {B : List SP} (x : IT) (hok : ∀ z ∈ B, SOK bs σ g z) (hap : B.Pairwise fun z w => Apart g z.2 w.2) (hbe : ∀ z ∈ B, x.2.1 - g < z.1.2.1) (hah : ∀ z ∈ B, z.1.1 < x.2.1 + g) : Conn g ((B.map (·.2)).flatten ++ [x]) := by
  have mem : ∀ y, y ∈ (B.map (·.2)).flatten ++ [x] ↔ (∃ z ∈ B, y ∈ z.2) ∨ y = x := fun y => memPut
  intro a ha ⟨b, hb, hab⟩
  rw [mem] at ha hb
  rcases ha with ⟨q, hq, haq⟩ | rfl
  · by_cases c : ∃ b ∈ q.2, a.2.1 < b.2.1
    · obtain ⟨d, hd, h1⟩ := (hok q hq).conn a haq c
      exact ⟨d, (mem d).2 (Or.inl ⟨q, hq, hd⟩), h1⟩
    · have amax : ∀ y ∈ q.2, y.2.1 ≤ a.2.1 := fun y hy => by
        by_cases cc : a.2.1 < y.2.1
        · exact absurd ⟨y, hy, cc⟩ c
        · omega
      obtain ⟨l, hl, el⟩ := (hok q hq).last_mem
      have h1 := amax l hl
      have h2 := hbe q hq
      by_cases d : a.2.1 < x.2.1
      · exact ⟨x, (mem x).2 (Or.inr rfl), d, by omega⟩
      · exfalso
        rcases hb with ⟨w, hw, hbw⟩ | rfl
        · rcases pairMem hap q hq w hw with rfl | r | r
          · exact c ⟨b, hbw, hab⟩
          · obtain ⟨f, hf, ef⟩ := (hok w hw).first_mem
            have := r a haq f hf
            have := hah w hw
            omega
          · have := r b hbw a haq; omega
        · omega
  · rcases hb with ⟨w, hw, hbw⟩ | rfl
    · obtain ⟨f, hf, ef⟩ := (hok w hw).first_mem
      have h1 := hah w hw
      by_cases c : a.2.1 < f.2.1
      · exact ⟨f, (mem f).2 (Or.inl ⟨w, hw, hf⟩), c, by omega⟩
      · obtain ⟨d, hd, h2⟩ := conn_step (hok w hw).conn a.2.1 hbw hab _ f hf (by omega) (Nat.le_refl _)
        exact ⟨d, (mem d).2 (Or.inl ⟨w, hw, hd⟩), h2⟩
    · omega
theorem take_findIdx {α : Type} (p : α → Bool) : ∀ (L : List α), (∀ z ∈ L.take (L.findIdx p), p z = false) ∧ (∀ z w, L.drop (L.findIdx p) = z :: w → p z = true)
  | [] => by simp
  | a :: L => by
    rw [List.findIdx_cons]
    cases h : p a with
    | true => simp [h]
    | false =>
      have ih := take_findIdx p L
      simp only [cond_false, List.take_succ_cons, List.drop_succ_cons]
      exact ⟨fun z hz => by
        rcases List.mem_cons.1 hz with rfl | hz
        · exact h
        · exact ih.1 z hz, ih.2⟩
theorem dropWhile_head {α : Type} (p : α → Bool) : ∀ (L : List α) (z : α) (w : List α), L.dropWhile p = z :: w → p z = false
  | [], _, _, h => by simp at h
  | a :: L, z, w, h => by
    rw [List.dropWhile_cons] at h
    cases e : p a with
    | true => rw [e] at h; exact dropWhile_head p L z w h
    | false =>
      rw [e] at h
      simp only [Bool.false_eq_true, if_false, List.cons.injEq] at h
      rw [← h.1]; exact e
theorem put_is {bs : List Int} {σ g : Int} (hb : boundsMay bs = true) (hg : gapMay g = true) {ss : List SE} {X : List IT} (h : Is bs σ g ss X) {x : IT} (hx : itemMay x = true) (hs : x.1 = σ) (hl : X.length + 1 ≤ 8192) :
    (putA ss g bs x).2 = 0 ∧ Is bs σ g (putA ss g bs x).1 (x :: X) := by
  obtain ⟨L, rfl, hp, hok, hap⟩ := h
  have hg0 : 0 < g := by simp only [gapMay, Bool.and_eq_true, decide_eq_true_eq] at hg; omega
  let P : SP → Bool := fun z => behind x.2.1 g z.1
  let Q : SP → Bool := fun z => ahead x.2.1 g z.1
  have ei : (L.map (·.1)).findIdx (behind x.2.1 g) = L.findIdx P := by rw [List.findIdx_map]; rfl
  let A := L.take (L.findIdx P)
  let D := L.drop (L.findIdx P)
  let B := D.takeWhile Q
  let C := D.dropWhile Q
  have eL : L = A ++ (B ++ C) := by
    have : B ++ C = D := List.takeWhile_append_dropWhile
    rw [this]; exact (List.take_append_drop _ _).symm
  have tf := take_findIdx P L
  have hapL := hap
  rw [eL] at hapL
  obtain ⟨apA, apBC, apAB⟩ := List.pairwise_append.1 hapL
  obtain ⟨apB, apC, apBC'⟩ := List.pairwise_append.1 apBC
  have mA : ∀ z ∈ A, z ∈ L := fun z hz => List.mem_of_mem_take hz
  have mD : ∀ z ∈ D, z ∈ L := fun z hz => List.mem_of_mem_drop hz
  have mB : ∀ z ∈ B, z ∈ D := fun z hz => (List.takeWhile_sublist Q).mem hz
  have mC : ∀ z ∈ C, z ∈ D := fun z hz => (List.dropWhile_sublist Q).mem hz
  have fA : ∀ z ∈ A, z.1.2.1 ≤ x.2.1 - g := fun z hz => by
    have := tf.1 z hz
    simp only [P, behind, decide_eq_false_iff_not] at this; omega
  have apD : D.Pairwise fun z w => Apart g z.2 w.2 := hap.sublist (List.drop_sublist _ _)
  have fD : ∀ z ∈ D, x.2.1 - g < z.1.2.1 := by
    intro z hz
    cases hD : D with
    | nil => rw [hD] at hz; simp at hz
    | cons d ds =>
      have hd := tf.2 d ds hD
      simp only [P, behind, decide_eq_true_eq] at hd
      rw [hD] at hz apD
      rcases List.mem_cons.1 hz with rfl | hz'
      · omega
      · have ap := (List.pairwise_cons.1 apD).1 z hz'
        have md : d ∈ L := mD d (by rw [hD]; exact List.mem_cons_self)
        have mz : z ∈ L := mD z (by rw [hD]; exact hz)
        obtain ⟨y, hy, ey⟩ := (hok d md).last_mem
        obtain ⟨u, hu, eu⟩ := (hok z mz).last_mem
        have := ap y hy u hu
        omega
  have fB : ∀ z ∈ B, z.1.1 < x.2.1 + g := fun z hz => by
    have : Q z = true := List.all_eq_true.1 (List.all_takeWhile (l := D) (p := Q)) z hz
    simpa only [Q, ahead, decide_eq_true_eq] using this
  have fC : ∀ z ∈ C, x.2.1 + g ≤ z.1.1 := by
    intro z hz
    cases hC : C with
    | nil => rw [hC] at hz; simp at hz
    | cons d ds =>
      have hd := dropWhile_head Q D d ds hC
      simp only [Q, ahead, decide_eq_false_iff_not] at hd
      rw [hC] at hz apC
      rcases List.mem_cons.1 hz with rfl | hz'
      · omega
      · have ap := (List.pairwise_cons.1 apC).1 z hz'
        have md : d ∈ L := mD d (mC d (by rw [hC]; exact List.mem_cons_self))
        have mz : z ∈ L := mD z (mC z (by rw [hC]; exact hz))
        obtain ⟨y, hy, ey⟩ := (hok d md).first_mem
        obtain ⟨u, hu, eu⟩ := (hok z mz).first_mem
        have := ap y hy u hu
        omega
  let zs : List (AC × List IT) := B.map (fun z => (z.1.2.2, z.2)) ++ [(oneA x bs, [x])]
  have zok : ∀ z ∈ zs, Piece bs σ z.1 z.2 := by
    intro z hz
    rcases List.mem_append.1 hz with hz | hz
    · obtain ⟨w, hw, rfl⟩ := List.mem_map.1 hz
      exact (hok w (mD w (mB w hw))).pc
    · rw [List.mem_singleton.1 hz]
      exact ⟨AccIs.one bs x, oneA_may hb hx, hs⟩
  have z1 : zs.map (·.1) = ((((L.map (·.1)).drop (L.findIdx P)).takeWhile (ahead x.2.1 g)).map fun s => s.2.2) ++ [if itemMay x = true ∧ boundsMay bs = true then oneA x bs else AC0] := by
    rw [if_pos ⟨hx, hb⟩, ← List.map_drop, List.takeWhile_map, List.map_map]
    simp only [zs, List.map_append, List.map_map, List.map_cons, List.map_nil]
    rfl
  have z2 : (zs.map (·.2)).flatten = (B.map (·.2)).flatten ++ [x] := by
    simp only [zs, List.map_append, List.map_map, List.map_cons, List.map_nil, List.flatten_append, List.flatten_cons, List.flatten_nil, List.append_nil]
    rfl
  have hlen : ((L.map (·.2)).flatten).length = X.length := hp.length_eq
  rw [eL] at hlen hp
  simp only [List.map_append, List.flatten_append, List.length_append] at hlen hp
  have jp := join_piece hb zs (by simp [zs]) zok (by rw [z2, List.length_append]; simp only [List.length_cons, List.length_nil]; omega)
  rw [z1, z2] at jp
  simp only [putA, ei]
  generalize hr : joinA bs _ = r at jp ⊢
  obtain ⟨j0, j1⟩ := jp
  rw [if_neg (by simp [j0])]
  refine ⟨rfl, A ++ ([((r.1.2.2.2.2.1.2.1, r.1.2.2.2.2.2.1.2.1, r.1), (B.map (·.2)).flatten ++ [x])] ++ C), ?_, ?_, ?_, ?_⟩
  · rw [← List.map_take, ← List.map_drop, List.dropWhile_map]
    simp only [List.map_append, List.map_cons, List.map_nil, List.append_assoc]
    rfl
  · simp only [List.map_append, List.map_cons, List.map_nil, List.flatten_append, List.flatten_cons, List.flatten_nil, List.append_nil]
    have : (x :: ((A.map (·.2)).flatten ++ ((B.map (·.2)).flatten ++ (C.map (·.2)).flatten))).Perm (x :: X) := hp.cons x
    refine List.Perm.trans ?_ this
    rw [List.append_assoc, ← List.append_assoc (List.map (·.2) A).flatten]
    refine List.perm_middle.trans ?_
    simp only [List.append_assoc, List.nil_append]
    exact List.Perm.refl _
  · intro z hz
    rcases List.mem_append.1 hz with hz | hz
    · exact hok z (mA z hz)
    · rcases List.mem_append.1 hz with hz | hz
      · rw [List.mem_singleton.1 hz]
        exact ⟨j1, rfl, rfl, conn_join hg0 x (fun z hz => hok z (mD z (mB z hz))) apB (fun z hz => fD z (mB z hz)) fB⟩
      · exact hok z (mD z (mC z hz))
  · have memN : ∀ y, y ∈ (B.map (·.2)).flatten ++ [x] ↔ (∃ z ∈ B, y ∈ z.2) ∨ y = x := fun y => memPut
    refine List.pairwise_append.2 ⟨apA, List.pairwise_append.2 ⟨List.pairwise_singleton _ _, apC, ?_⟩, ?_⟩
    · intro z hz w hw
      rw [List.mem_singleton.1 hz]
      intro y hy u hu
      rcases (memN y).1 hy with ⟨v, hv, hyv⟩ | rfl
      · exact apBC' v hv w hw y hyv u hu
      · have := fC w hw
        have := (hok w (mD w (mC w hw))).first_le u hu
        omega
    · intro z hz w hw
      rcases List.mem_append.1 hw with hw | hw
      · rw [List.mem_singleton.1 hw]
        intro y hy u hu
        rcases (memN u).1 hu with ⟨v, hv, huv⟩ | rfl
        · exact apAB z hz v (List.mem_append_left _ hv) y hy u huv
        · have := fA z hz
          have := (hok z (mA z hz)).last_le y hy
          omega
      · exact apAB z hz w (List.mem_append_right _ hw)
end Go.Proofs.Ytoffmcfaeolcjaa
