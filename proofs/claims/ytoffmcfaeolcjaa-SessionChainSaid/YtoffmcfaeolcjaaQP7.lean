/- Add makes the row of sessions; there is only one. -/
import Derived.Test.YtoffmcfaeolcjaaQP6
namespace Go.Proofs.Ytoffmcfaeolcjaa
open Go Go.Ev
set_option linter.unusedVariables false
set_option linter.unusedSimpArgs false

theorem Is.perm {bs : List Int} {σ g : Int} {ss : List SE} {X Y : List IT} (h : Is bs σ g ss X) (e : X.Perm Y) : Is bs σ g ss Y := by
  obtain ⟨L, hL, h1, h2⟩ := h
  exact ⟨L, hL, h1.trans e, h2⟩
theorem putAll_is {bs : List Int} {σ g : Int} (hb : boundsMay bs = true) (hg : gapMay g = true) : ∀ (xs : List IT) {ss : List SE} {X : List IT}, Is bs σ g ss X → (∀ x ∈ xs, itemMay x = true ∧ x.1 = σ) → X.length + xs.length ≤ 8192 →
    (putAll g bs ss xs).2 = 0 ∧ Is bs σ g (putAll g bs ss xs).1 (xs ++ X)
  | [], ss, X, h, _, _ => ⟨rfl, h⟩
  | x :: xs, ss, X, h, hx, hl => by
    have h1 := hx x List.mem_cons_self
    simp only [List.length_cons] at hl
    have p := put_is hb hg h h1.1 h1.2 (by omega)
    have r := putAll_is hb hg xs p.2 (fun y hy => hx y (List.mem_cons_of_mem _ hy)) (by simp only [List.length_cons]; omega)
    simp only [putAll]
    rw [if_neg (by simp [p.1])]
    exact ⟨r.1, r.2.perm List.perm_middle⟩
theorem sesFrom_is {bs : List Int} {σ g : Int} : ∀ {L : List SP} {p : Option Int}, (∀ z ∈ L, SOK bs σ g z) → (L.Pairwise fun z w => Apart g z.2 w.2) → (∀ q, p = some q → ∀ z ∈ L, q + g ≤ z.1.1) → sesFrom σ g bs p (L.map (·.1)) = true
  | [], _, _, _, _ => rfl
  | z :: L, p, hok, hap, hp => by
    have hz := hok z List.mem_cons_self
    have pos := hz.pc.is.pos
    obtain ⟨h1, h2⟩ := List.pairwise_cons.1 hap
    have rest := sesFrom_is (p := some z.1.2.1) (fun w hw => hok w (List.mem_cons_of_mem _ hw)) h2 (fun q hq w hw => by
      cases hq
      obtain ⟨y, hy, ey⟩ := hz.last_mem
      obtain ⟨u, hu, eu⟩ := (hok w (List.mem_cons_of_mem _ hw)).first_mem
      have := h1 w hw y hy u hu
      omega)
    simp only [List.map_cons, sesFrom, hz.pc.may, Bool.true_and, rest, Bool.and_true]
    have e0 : (z.1.2.2.1 == 0) = false := by simp; omega
    have e1 : (z.1.1 != z.1.2.2.2.2.2.2.1.2.1) = false := by simp [hz.fst]
    have e2 : (z.1.2.1 != z.1.2.2.2.2.2.2.2.1.2.1) = false := by simp [hz.lst]
    have e3 : (z.1.2.2.2.2.2.2.1.1 != σ) = false := by simp [hz.pc.ser]
    rw [e0, e1, e2, e3]
    cases p with
    | none => rfl
    | some q =>
      have := hp q rfl z List.mem_cons_self
      simp; omega
theorem Is.may {bs : List Int} {σ g : Int} (hb : boundsMay bs = true) (hg : gapMay g = true) {ss : List SE} {X : List IT} (h : Is bs σ g ss X) : sesMay ss g bs = true := by
  obtain ⟨L, rfl, -, hok, hap⟩ := h
  simp only [sesMay, hb, hg, Bool.true_and]
  cases L with
  | nil => rfl
  | cons z L =>
    have e : ((List.map (·.1) (z :: L)).getD 0 SE0).2.2.2.2.2.2.1.1 = σ := (hok z List.mem_cons_self).pc.ser
    rw [e]
    exact sesFrom_is hok hap fun q hq => by cases hq
theorem oneFrom_is {σ : Int} : ∀ {xs : List IT} {f : Int}, (f = -1 ∨ f = σ) → (∀ x ∈ xs, itemMay x = true ∧ x.1 = σ) → oneFrom f xs = true
  | [], _, _, _ => rfl
  | x :: xs, f, hf, h => by
    have hx := h x List.mem_cons_self
    simp only [oneFrom, hx.1, Bool.true_and, oneFrom_is (Or.inr hx.2) (fun y hy => h y (List.mem_cons_of_mem _ hy)), Bool.and_true]
    rcases hf with rfl | rfl
    · rfl
    · simp [hx.2]
theorem Is.one {bs : List Int} {σ g : Int} {ss : List SE} {X : List IT} (h : Is bs σ g ss X) {xs : List IT} (hx : ∀ x ∈ xs, itemMay x = true ∧ x.1 = σ) : sesOne ss xs = true := by
  obtain ⟨L, rfl, -, hok, hap⟩ := h
  cases L with
  | nil => exact oneFrom_is (Or.inl rfl) hx
  | cons z L => exact oneFrom_is (Or.inr (hok z List.mem_cons_self).pc.ser) hx
theorem add_is {bs : List Int} {σ g : Int} (hb : boundsMay bs = true) (hg : gapMay g = true) {ss : List SE} {X : List IT} (h : Is bs σ g ss X) {xs : List IT} (hx : ∀ x ∈ xs, itemMay x = true ∧ x.1 = σ) (hl : X.length + xs.length ≤ 8192) :
    ∃ tt, addS ss g bs xs = (tt, 0) ∧ Is bs σ g tt (xs ++ X) := by
  have p := putAll_is hb hg xs h hx hl
  refine ⟨(putAll g bs ss xs).1, ?_, p.2⟩
  rw [addS, if_pos ⟨h.may hb hg, h.one hx⟩, ← p.1]

/-! there is one row -/
def Uniq (X : List IT) : Prop := ∀ x ∈ X, ∀ y ∈ X, x.2.2.1 = y.2.2.1 → x = y
theorem head_sub {bs : List Int} {σ g : Int} (hg : 0 < g) {z z' : SP} {L L' : List SP} {X : List IT} (h : IsL bs σ g (z :: L) X) (h' : IsL bs σ g (z' :: L') X) : ∀ x ∈ z.2, x ∈ z'.2 := by
  obtain ⟨hp, hok, hap⟩ := h
  obtain ⟨hp', hok', hap'⟩ := h'
  obtain ⟨a1, -⟩ := List.pairwise_cons.1 hap
  obtain ⟨a1', -⟩ := List.pairwise_cons.1 hap'
  have hz := hok z List.mem_cons_self
  have hz' := hok' z' List.mem_cons_self
  have mX : ∀ y, y ∈ z.2 → y ∈ z'.2 ∨ ∃ w ∈ L', y ∈ w.2 := fun y hy => by
    have : y ∈ X := hp.mem_iff.1 (by simp only [List.map_cons, List.flatten_cons, List.mem_append]; exact Or.inl hy)
    have := hp'.mem_iff.2 this
    simp only [List.map_cons, List.flatten_cons, List.mem_append, List.mem_flatten] at this
    rcases this with h | ⟨l, hl, hyl⟩
    · exact Or.inl h
    · obtain ⟨w, hw, rfl⟩ := List.mem_map.1 hl
      exact Or.inr ⟨w, hw, hyl⟩
  intro x hx
  rcases mX x hx with h | ⟨w, hw, hxw⟩
  · exact h
  exfalso
  have hxl := a1' w hw
  have chain : ∀ (k : Nat) (a : IT), a ∈ z.2 → a ∈ z'.2 → (x.2.1 - a.2.1).toNat ≤ k → False := by
    intro k
    induction k with
    | zero =>
      intro a ha ha' hk
      have := hxl a ha' x hxw
      omega
    | succ k ih =>
      intro a ha ha' hk
      have h0 := hxl a ha' x hxw
      obtain ⟨b, hb, h1, h2⟩ := hz.conn a ha ⟨x, hx, by omega⟩
      rcases mX b hb with h | ⟨v, hv, hbv⟩
      · exact ih b hb h (by omega)
      · have := a1' v hv a ha' b hbv
        omega
  obtain ⟨f, hf, ef⟩ := hz.first_mem
  obtain ⟨y0, hy0, ey0⟩ := hz'.first_mem
  rcases mX f hf with h | ⟨v, hv, hfv⟩
  · exact chain _ f hf h (Nat.le_refl _)
  · have c1 := a1' v hv y0 hy0 f hfv
    have : y0 ∈ X := hp'.mem_iff.1 (by simp only [List.map_cons, List.flatten_cons, List.mem_append]; exact Or.inl hy0)
    have := hp.mem_iff.2 this
    simp only [List.map_cons, List.flatten_cons, List.mem_append, List.mem_flatten] at this
    rcases this with h | ⟨l, hl, hyl⟩
    · have := hz.first_le y0 h; omega
    · obtain ⟨u, hu, rfl⟩ := List.mem_map.1 hl
      have := a1 u hu f hf y0 hyl
      omega
theorem permNodup {xs ys : List IT} (hx : xs.Nodup) (hy : ys.Nodup) (h : ∀ a, a ∈ xs ↔ a ∈ ys) : xs.Perm ys := by
  rw [List.perm_iff_count]
  intro a
  rw [hx.count, hy.count]
  simp only [h a]
theorem uniqL {bs : List Int} {σ g : Int} (hg : 0 < g) : ∀ (L L' : List SP) (X : List IT), IsL bs σ g L X → IsL bs σ g L' X → X.Nodup → Uniq X → L.map (·.1) = L'.map (·.1)
  | [], [], _, _, _, _, _ => rfl
  | [], z :: L, X, h, h', _, _ => by
    obtain ⟨f, hf, -⟩ := (h'.2.1 z List.mem_cons_self).first_mem
    have e : X = [] := List.nil_perm.1 h.1
    subst e
    have := h'.1.mem_iff.1 (show f ∈ _ by simp only [List.map_cons, List.flatten_cons, List.mem_append]; exact Or.inl hf)
    simp at this
  | z :: L, [], X, h, h', _, _ => by
    obtain ⟨f, hf, -⟩ := (h.2.1 z List.mem_cons_self).first_mem
    have e : X = [] := List.nil_perm.1 h'.1
    subst e
    have := h.1.mem_iff.1 (show f ∈ _ by simp only [List.map_cons, List.flatten_cons, List.mem_append]; exact Or.inl hf)
    simp at this
  | z :: L, z' :: L', X, h, h', hn, hu => by
    have s1 := head_sub hg h h'
    have s2 := head_sub hg h' h
    obtain ⟨hp, hok, hap⟩ := h
    obtain ⟨hp', hok', hap'⟩ := h'
    simp only [List.map_cons, List.flatten_cons] at hp hp'
    have n1 := hp.nodup_iff.2 hn
    have n2 := hp'.nodup_iff.2 hn
    have nz := (List.nodup_append.1 n1).1
    have nz' := (List.nodup_append.1 n2).1
    have pz : z.2.Perm z'.2 := permNodup nz nz' fun a => ⟨s1 a, s2 a⟩
    have hz := hok z List.mem_cons_self
    have hz' := hok' z' List.mem_cons_self
    have mz : ∀ y ∈ z.2, y ∈ X := fun y hy => hp.mem_iff.1 (List.mem_append_left _ hy)
    have ea : z.1.2.2 = z'.1.2.2 := hz.pc.is.uniq (hz'.pc.is.perm pz.symm) fun x hx y hy => hu x (mz x hx) y (mz y hy)
    have e1 : z.1.1 = z'.1.1 := by rw [hz.fst, hz'.fst, ea]
    have e2 : z.1.2.1 = z'.1.2.1 := by rw [hz.lst, hz'.lst, ea]
    have ez : z.1 = z'.1 := Prod.ext e1 (Prod.ext e2 ea)
    have pr : ((L'.map (·.2)).flatten).Perm ((L.map (·.2)).flatten) :=
      (List.perm_append_left_iff z'.2).1 (hp'.trans (hp.symm.trans (pz.append_right _)))
    simp only [List.map_cons, ez]
    congr 1
    exact uniqL hg L L' (L.map (·.2)).flatten ⟨List.Perm.refl _, fun w hw => hok w (List.mem_cons_of_mem _ hw), (List.pairwise_cons.1 hap).2⟩
      ⟨pr, fun w hw => hok' w (List.mem_cons_of_mem _ hw), (List.pairwise_cons.1 hap').2⟩ (List.nodup_append.1 n1).2.1 (fun x hx y hy => hu x (hp.mem_iff.1 (List.mem_append_right _ hx)) y (hp.mem_iff.1 (List.mem_append_right _ hy)))
theorem is_uniq {bs : List Int} {σ g : Int} (hg : gapMay g = true) {ss tt : List SE} {X Y : List IT} (h : Is bs σ g ss X) (h' : Is bs σ g tt Y) (e : X.Perm Y) (hn : (X.map fun x => x.2.2.1).Nodup) : ss = tt := by
  obtain ⟨L, rfl, hL⟩ := h
  obtain ⟨L', rfl, hL'⟩ := h'
  have hg0 : 0 < g := by simp only [gapMay, Bool.and_eq_true, decide_eq_true_eq] at hg; omega
  have hu : Uniq X := by
    intro x hx y hy hxy
    have key : ∀ (X : List IT), (X.map fun x => x.2.2.1).Nodup → ∀ x ∈ X, ∀ y ∈ X, x.2.2.1 = y.2.2.1 → x = y := by
      intro X
      induction X with
      | nil => intro _ x hx; simp at hx
      | cons a X ih =>
        intro hn x hx y hy e
        rw [List.map_cons, List.nodup_cons] at hn
        rcases List.mem_cons.1 hx with ex | hx' <;> rcases List.mem_cons.1 hy with ey | hy'
        · rw [ex, ey]
        · exfalso; rw [ex] at e; exact hn.1 (by rw [e]; exact List.mem_map.2 ⟨y, hy', rfl⟩)
        · exfalso; rw [ey] at e; exact hn.1 (by rw [← e]; exact List.mem_map.2 ⟨x, hx', rfl⟩)
        · exact ih hn.2 x hx' y hy' e
    exact key X hn x hx y hy hxy
  have hnd : X.Nodup := List.Pairwise.of_map (fun x : IT => x.2.2.1) (fun a b hab e => hab (by rw [e])) hn
  exact uniqL hg0 L L' X hL ⟨hL'.1.trans e.symm, hL'.2⟩ hnd hu
end Go.Proofs.Ytoffmcfaeolcjaa
