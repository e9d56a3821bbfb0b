/- A checked evaluator, part B: states, records of operations, what it is for an operation to do what its record says. -/
import Derived.Test.YtoffmcfaeolcjaaQEvA
namespace Go.Ev
open Go.RowKit
set_option linter.unusedVariables false

structure FS where
  env : Nat → Option AV
  heap : Nat → Option HV
  fresh : Nat → Prop
  /-- the numbers of the objects that the call gives back -/
  pin : List Nat

/-- What stays the same during one call: the world at its begin, the blocks that it may write, those that its arguments lead to, those that hold what is lent to it; the number of slots. -/
structure Fr where
  w0 : World
  F : Nat → Prop
  I0 : Nat → Prop
  J : Nat → Prop
  N : Nat
  /-- the pointers to the objects that the call gives back -/
  pins : List Value

structure R (fr : Fr) (σ : FS) (φ : Nat → Option Value) (I : Nat → Prop) (a : Act) (w : World) : Prop where
  nt : a.tmps.size = fr.N
  dfr : a.defers = []
  env : ∀ t av, σ.env t = some av → ∃ v, a.tmps[t]? = some v ∧ RA fr.J φ I w av v
  heap : ∀ id hv, σ.heap id = some hv → RH fr.J φ I w id hv
  fresh : ∀ id, σ.fresh id → φ id = none
  own : ∀ id hv v b, σ.heap id = some hv → hv.owned = true → φ id = some v → blk v = some b → ¬ I b ∧ ¬ fr.J b ∧ (fr.F b ∨ fr.w0.heap.size ≤ b)
  sep : ∀ id id' hv hv' v v' b, id ≠ id' → σ.heap id = some hv → σ.heap id' = some hv' → hv.owned = true → hv'.owned = true → φ id = some v → φ id' = some v' → blk v = some b → blk v' ≠ some b
  only : OnlyP fr.F fr.w0 w
  imm : ∀ b, I b → fr.I0 b ∨ fr.F b ∨ fr.w0.heap.size ≤ b
  lt : ∀ b, I b ∨ fr.J b → b < w.heap.size
  pin : all2 (fun id u => φ id = some u) σ.pin fr.pins

/-- What an operation does: where it writes, what (none: nothing that is known), of which slots and blocks it hangs, which blocks it turns, the numbers that it gives to new ones. -/
structure Rec where
  dst : Option Tmp
  val : Option AV
  temps : List (Tmp × AV)
  hp : List (Nat × Option HV)
  wr : List (Nat × Option HV)
  new : List Nat

def Rec.valid (r : Rec) (σ : FS) : Prop := (∀ p ∈ r.temps, σ.env p.1 = some p.2) ∧ (∀ p ∈ r.hp, σ.heap p.1 = p.2) ∧ (∀ id ∈ r.new, σ.fresh id)

def Rec.apply (r : Rec) (σ : FS) : FS where
  env := fun t => if r.dst = some t then r.val else σ.env t
  heap := fun id => match r.wr.lookup id with
    | some h => h
    | none => σ.heap id
  fresh := fun id => σ.fresh id ∧ id ∉ r.new
  pin := σ.pin

/-- The operation does what the record says. -/
def OpOK (P : Program) (o : Oper) (r : Rec) : Prop :=
  ∀ (fr : Fr) (σ : FS) (φ : Nat → Option Value) (I : Nat → Prop) (a : Act) (w : World) (K : Act → World → Prop) (Q : Exit → Act → World → Prop),
    R fr σ φ I a w → r.valid σ → (∀ d, o.dst = some d → d < fr.N) →
    (∀ φ' I' v w', R fr (r.apply σ) φ' I' (a.put o.dst v) w' → K (a.put o.dst v) w') → o.wp P a w K Q

section
variable {fr : Fr} {σ : FS} {φ φ' : Nat → Option Value} {I I' : Nat → Prop} {a : Act} {w w' : World}

theorem put_get (a : Act) (d : Option Tmp) (v : Value) (t : Nat) (h : ∀ x, d = some x → x < a.tmps.size) : (a.put d v).tmps[t]? = if d = some t then some v else a.tmps[t]? := by
  cases d with
  | none => simp [Act.put]
  | some x =>
    simp only [Act.put, Array.getElem?_setIfInBounds, Option.some.injEq]
    by_cases e : x = t
    · subst e
      simp [h x rfl]
    · simp [e]

theorem put_size (a : Act) (d : Option Tmp) (v : Value) : (a.put d v).tmps.size = a.tmps.size := by cases d <;> simp [Act.put]
theorem put_dfr (a : Act) (d : Option Tmp) (v : Value) : (a.put d v).defers = a.defers := by cases d <;> rfl

/-- The relation behind an operation. -/
theorem R.upd (h : R fr σ φ I a w) (r : Rec) {v : Value} {G : Nat → Prop} (hd : ∀ d, r.dst = some d → d < fr.N)
    (hφ : ∀ id u, φ id = some u → φ' id = some u) (hI : ∀ b, I b → I' b) (hfresh : ∀ id, σ.fresh id → id ∉ r.new → φ' id = none)
    (honly : OnlyP G w w') (hG : ∀ b, G b → ¬ I b ∧ ¬ fr.J b ∧ (fr.F b ∨ fr.w0.heap.size ≤ b))
    (hGk : ∀ id hv u b, r.wr.lookup id = none → σ.heap id = some hv → hv.owned = true → φ id = some u → blk u = some b → ¬ G b)
    (himm : ∀ b, I' b → I b ∨ ((fr.F b ∨ fr.w0.heap.size ≤ b) ∧ b < w'.heap.size ∧ ¬ fr.J b ∧ ∀ id hv u, r.wr.lookup id = none → σ.heap id = some hv → hv.owned = true → φ id = some u → blk u ≠ some b))
    (hwr : ∀ id hv, r.wr.lookup id = some (some hv) → RH fr.J φ' I' w' id hv)
    (hown : ∀ id hv u b, r.wr.lookup id = some (some hv) → hv.owned = true → φ' id = some u → blk u = some b → ¬ I' b ∧ ¬ fr.J b ∧ (fr.F b ∨ fr.w0.heap.size ≤ b))
    (hsep1 : ∀ id id' hv hv' u u' b, r.wr.lookup id = some (some hv) → r.wr.lookup id' = none → σ.heap id' = some hv' → hv.owned = true → hv'.owned = true → φ' id = some u → φ id' = some u' → blk u = some b → blk u' ≠ some b)
    (hsep2 : ∀ id id' hv hv' u u' b, id ≠ id' → r.wr.lookup id = some (some hv) → r.wr.lookup id' = some (some hv') → hv.owned = true → hv'.owned = true → φ' id = some u → φ' id' = some u' → blk u = some b → blk u' ≠ some b)
    (hval : ∀ av, r.val = some av → RA fr.J φ' I' w' av v) : R fr (r.apply σ) φ' I' (a.put r.dst v) w' := by
  have hwIJ : ∀ b, I b ∨ fr.J b → w'.heap[b]? = w.heap[b]? := fun b hb => honly.block b (h.lt b hb) fun hg => by
    have h1 := hG b hg
    rcases hb with hb | hb
    · exact h1.1 hb
    · exact h1.2.1 hb
  have hlook : ∀ id hv, (r.apply σ).heap id = some hv → r.wr.lookup id = some (some hv) ∨ (r.wr.lookup id = none ∧ σ.heap id = some hv) := by
    intro id hv he
    simp only [Rec.apply] at he
    cases hl : r.wr.lookup id with
    | none => rw [hl] at he; exact .inr ⟨rfl, he⟩
    | some x => rw [hl] at he; left; simpa using he
  have old : ∀ id hv, σ.heap id = some hv → ∃ u, φ id = some u := by
    intro id hv he
    have := h.heap id hv he
    cases hv with
    | cells cs => obtain ⟨b, vs, t, e, _⟩ := this; exact ⟨_, e⟩
    | row e k xs => obtain ⟨v, vs, e, _⟩ := this; exact ⟨_, e⟩
    | frozen e k xs => obtain ⟨v, e, _⟩ := this; exact ⟨_, e⟩
    | buf e k bs => obtain ⟨v, e, _⟩ := this; exact ⟨_, e⟩
  constructor
  · rw [put_size]; exact h.nt
  · rw [put_dfr]; exact h.dfr
  · intro t av he
    rw [put_get a r.dst v t (fun x hx => by rw [h.nt]; exact hd x hx)]
    simp only [Rec.apply] at he
    by_cases ht : r.dst = some t
    · rw [if_pos ht] at he ⊢
      exact ⟨v, rfl, hval av he⟩
    · rw [if_neg ht] at he ⊢
      obtain ⟨u, h1, h2⟩ := h.env t av he
      exact ⟨u, h1, RA.mono hφ hI hwIJ h2⟩
  · intro id hv he
    rcases hlook id hv he with hl | ⟨hl, h0⟩
    · exact hwr id hv hl
    · refine RH.mono hφ hI hwIJ (h.heap id hv h0) fun ho b u hu hb => ?_
      have hlt : b < w.heap.size := by
        have h3 := h.heap id hv h0
        cases hv with
        | cells cs =>
          obtain ⟨b', vs, t, e, h4, _⟩ := h3
          rw [e] at hu; cases hu; simp [blk] at hb; subst hb
          exact (Array.getElem?_eq_some_iff.1 h4).1
        | row e k xs =>
          obtain ⟨v', vs, e, h4, _⟩ := h3
          rw [e] at hu; cases hu
          rcases h4.2 with ⟨rfl, _⟩ | ⟨g, cap, cur, rfl, _, hg, _⟩
          · simp [blk] at hb
          · simp [blk] at hb; subst hb
            exact (Array.getElem?_eq_some_iff.1 hg).1
        | frozen e k xs => simp [HV.owned] at ho
        | buf e k bs =>
          obtain ⟨v', e, h4⟩ := h3
          rw [e] at hu; cases hu
          rcases h4 with ⟨rfl, _⟩ | ⟨g, cur, rfl, hg, _⟩
          · simp [blk] at hb
          · simp [blk] at hb; subst hb
            exact (Array.getElem?_eq_some_iff.1 hg).1
      exact honly.block b hlt (hGk id hv u b hl h0 ho hu hb)
  · intro id he
    exact hfresh id he.1 he.2
  · intro id hv u b he ho hu hb
    rcases hlook id hv he with hl | ⟨hl, h0⟩
    · exact hown id hv u b hl ho hu hb
    · obtain ⟨u', hu'⟩ := old id hv h0
      have := hφ id u' hu'
      rw [hu] at this; cases this
      obtain ⟨h1, h2, h3⟩ := h.own id hv u b h0 ho hu' hb
      refine ⟨fun hi => ?_, h2, h3⟩
      rcases himm b hi with h4 | ⟨_, _, _, h4⟩
      · exact h1 h4
      · exact h4 id hv u hl h0 ho hu' hb
  · intro id id' hv hv' u u' b hne he he' ho ho' hu hu' hb
    rcases hlook id hv he with hl | ⟨hl, h0⟩ <;> rcases hlook id' hv' he' with hl' | ⟨hl', h0'⟩
    · exact hsep2 id id' hv hv' u u' b hne hl hl' ho ho' hu hu' hb
    · obtain ⟨x, hx⟩ := old id' hv' h0'
      have := hφ id' x hx
      rw [hu'] at this; cases this
      exact hsep1 id id' hv hv' u u' b hl hl' h0' ho ho' hu hx hb
    · obtain ⟨x, hx⟩ := old id hv h0
      have := hφ id x hx
      rw [hu] at this; cases this
      intro hb'
      exact hsep1 id' id hv' hv u' u b hl' hl h0 ho' ho hu' hx hb' hb
    · obtain ⟨x, hx⟩ := old id hv h0
      have := hφ id x hx
      rw [hu] at this; cases this
      obtain ⟨x', hx'⟩ := old id' hv' h0'
      have := hφ id' x' hx'
      rw [hu'] at this; cases this
      exact h.sep id id' hv hv' u u' b hne h0 h0' ho ho' hx hx' hb
  · exact h.only.trans honly fun g hg => (hG g hg).2.2
  · intro b hb
    rcases himm b hb with h1 | ⟨h1, _⟩
    · exact h.imm b h1
    · exact .inr h1
  · intro b hb
    rcases hb with hb | hb
    · rcases himm b hb with h1 | ⟨_, h1, _⟩
      · exact Nat.lt_of_lt_of_le (h.lt b (.inl h1)) honly.size
      · exact h1
    · exact Nat.lt_of_lt_of_le (h.lt b (.inr hb)) honly.size
  · exact h.pin.mono fun _ _ h => hφ _ _ h

/-- Nothing in memory turned. -/
theorem R.pure (h : R fr σ φ I a w) (r : Rec) {v : Value} (hd : ∀ d, r.dst = some d → d < fr.N) (hw : r.wr = []) (hn : r.new = []) (hval : ∀ av, r.val = some av → RA fr.J φ I w av v) : R fr (r.apply σ) φ I (a.put r.dst v) w :=
  h.upd r (G := fun _ => False) hd (fun _ _ h => h) (fun _ h => h) (fun id hf _ => h.fresh id hf) (OnlyP.refl _ _) (fun _ h => h.elim) (fun _ _ _ _ _ _ _ _ _ h => h)
    (fun b hb => .inl hb) (fun id hv h => by rw [hw] at h; cases h) (fun id hv u b h => by rw [hw] at h; cases h) (fun id id' hv hv' u u' b h => by rw [hw] at h; cases h)
    (fun id id' hv hv' u u' b _ h => by rw [hw] at h; cases h) hval

/-- A draw turns nothing. -/
theorem R.drew (h : R fr σ φ I a w) : R fr σ φ I a w.drew where
  nt := h.nt
  dfr := h.dfr
  env := fun t av he => let ⟨v, h1, h2⟩ := h.env t av he; ⟨v, h1, RA.mono (w := w) (w' := w.drew) (fun _ _ h => h) (fun _ h => h) (fun _ _ => rfl) h2⟩
  heap := fun id hv he => RH.mono (w := w) (w' := w.drew) (fun _ _ h => h) (fun _ h => h) (fun _ _ => rfl) (h.heap id hv he) (fun _ _ _ _ _ => rfl)
  fresh := h.fresh
  own := h.own
  sep := h.sep
  only := ⟨h.only.os, h.only.tape, h.only.output, h.only.size, h.only.block⟩
  imm := h.imm
  lt := h.lt
  pin := h.pin

def ext (φ : Nat → Option Value) (id : Nat) (u : Value) : Nat → Option Value := fun i => if i = id then some u else φ i
theorem ext_mono {φ : Nat → Option Value} {id : Nat} {u : Value} (hn : φ id = none) : ∀ i x, φ i = some x → ext φ id u i = some x := by
  intro i x hx
  unfold ext
  by_cases e : i = id
  · subst e; rw [hn] at hx; cases hx
  · rw [if_neg e]; exact hx
theorem ext_same {φ : Nat → Option Value} {id : Nat} {u : Value} : ext φ id u id = some u := by simp [ext]

theorem R.heap_lt (h : R fr σ φ I a w) {id : Nat} {hv : HV} {u : Value} {b : Nat} (h0 : σ.heap id = some hv) (ho : hv.owned = true) (hu : φ id = some u) (hb : blk u = some b) : b < w.heap.size := by
  have h3 := h.heap id hv h0
  cases hv with
  | cells cs =>
    obtain ⟨b', vs, t, e, h4, _⟩ := h3
    rw [e] at hu; cases hu; simp [blk] at hb; subst hb
    exact (Array.getElem?_eq_some_iff.1 h4).1
  | row e k xs =>
    obtain ⟨v', vs, e, h4, _⟩ := h3
    rw [e] at hu; cases hu
    rcases h4.2 with ⟨rfl, _⟩ | ⟨g, cap, cur, rfl, _, hg, _⟩
    · simp [blk] at hb
    · simp [blk] at hb; subst hb
      exact (Array.getElem?_eq_some_iff.1 hg).1
  | frozen e k xs => simp [HV.owned] at ho
  | buf e k bs =>
    obtain ⟨v', e, h4⟩ := h3
    rw [e] at hu; cases hu
    rcases h4 with ⟨rfl, _⟩ | ⟨g, cur, rfl, hg, _⟩
    · simp [blk] at hb
    · simp [blk] at hb; subst hb
      exact (Array.getElem?_eq_some_iff.1 hg).1

/-- A new block under a new number. -/
theorem R.new (h : R fr σ φ I a w) (r : Rec) {v u : Value} {id : Nat} {hv : HV} (hd : ∀ d, r.dst = some d → d < fr.N) (hw : r.wr = [(id, some hv)]) (hn : r.new = [id]) (hf : σ.fresh id)
    (honly : OnlyP (fun _ => False) w w') (hu : ∀ b, blk u = some b → w.heap.size ≤ b)
    (hwr : RH fr.J (ext φ id u) I w' id hv) (hval : ∀ av, r.val = some av → RA fr.J (ext φ id u) I w' av v) : R fr (r.apply σ) (ext φ id u) I (a.put r.dst v) w' := by
  have hno := h.fresh id hf
  have hlk : ∀ i x, r.wr.lookup i = some x → i = id ∧ x = some hv := by
    intro i x hx
    rw [hw] at hx
    simp only [List.lookup] at hx
    by_cases e : i = id
    · subst e; simp at hx; exact ⟨rfl, hx.symm⟩
    · have : (i == id) = false := by simp [e]
      rw [this] at hx; cases hx
  refine h.upd r (G := fun _ => False) hd (ext_mono hno) (fun _ h => h) (fun i hi hni => ?_) honly (fun _ h => h.elim) (fun _ _ _ _ _ _ _ _ _ h => h) (fun b hb => .inl hb) ?_ ?_ ?_ ?_ hval
  · have : i ≠ id := fun e => hni (by rw [hn, e]; simp)
    simp only [ext, if_neg this]
    exact h.fresh i hi
  · intro i hv' hl
    obtain ⟨rfl, e⟩ := hlk i _ hl
    cases e
    exact hwr
  · intro i hv' x b hl ho hx hb
    obtain ⟨rfl, e⟩ := hlk i _ hl
    rw [ext_same] at hx; cases hx
    have h1 := hu b hb
    refine ⟨fun hi => ?_, fun hj => ?_, .inr ?_⟩
    · have := h.lt b (.inl hi); omega
    · have := h.lt b (.inr hj); omega
    · exact Nat.le_trans h.only.size h1
  · intro i i' hv1 hv2 x x' b hl hl' h0 ho ho' hx hx' hb hb'
    obtain ⟨rfl, e⟩ := hlk i _ hl
    rw [ext_same] at hx; cases hx
    have h1 := hu b hb
    have := h.heap_lt h0 ho' hx' hb'
    omega
  · intro i i' hv1 hv2 x x' b hne hl hl' ho ho' hx hx' hb hb'
    obtain ⟨rfl, _⟩ := hlk i _ hl
    obtain ⟨rfl, _⟩ := hlk i' _ hl'
    exact hne rfl

/-- One block of the call's own turned in place. -/
theorem R.put (h : R fr σ φ I a w) (r : Rec) {v u : Value} {id b : Nat} {hv0 hv : HV} (hd : ∀ d, r.dst = some d → d < fr.N) (hw : r.wr = [(id, some hv)]) (hn : r.new = []) (h0 : σ.heap id = some hv0) (ho : hv0.owned = true) (hu : φ id = some u) (hb : blk u = some b)
    (honly : OnlyP (· = b) w w') (hwr : RH fr.J φ I w' id hv) (hval : ∀ av, r.val = some av → RA fr.J φ I w' av v) : R fr (r.apply σ) φ I (a.put r.dst v) w' := by
  have hlk : ∀ i x, r.wr.lookup i = some x → i = id ∧ x = some hv := by
    intro i x hx
    rw [hw] at hx
    simp only [List.lookup] at hx
    by_cases e : i = id
    · subst e; simp at hx; exact ⟨rfl, hx.symm⟩
    · have : (i == id) = false := by simp [e]
      rw [this] at hx; cases hx
  have hlk0 : ∀ i, r.wr.lookup i = none → i ≠ id := by
    rintro i hl rfl
    rw [hw] at hl
    simp [List.lookup] at hl
  refine h.upd r (G := (· = b)) hd (fun _ _ h => h) (fun _ h => h) (fun i hi _ => h.fresh i hi) honly ?_ ?_ (fun b hb => .inl hb) ?_ ?_ ?_ ?_ hval
  · rintro b' rfl
    exact h.own id hv0 u b' h0 ho hu hb
  · intro i hv' x b' hl h1 ho' hx hb' e
    subst e
    exact h.sep i id hv' hv0 x u b' (hlk0 i hl) h1 h0 ho' ho hx hu hb' hb
  · intro i hv' hl
    obtain ⟨rfl, e⟩ := hlk i _ hl
    cases e
    exact hwr
  · intro i hv' x b' hl ho' hx hb'
    obtain ⟨rfl, e⟩ := hlk i _ hl
    rw [hu] at hx; cases hx
    exact h.own i hv0 u b' h0 ho hu hb'
  · intro i i' hv1 hv2 x x' b' hl hl' h1 ho1 ho2 hx hx' hb1 hb2
    obtain ⟨rfl, e⟩ := hlk i _ hl
    rw [hu] at hx; cases hx
    exact h.sep i i' hv0 hv2 u x' b' (fun e => hlk0 i' hl' e.symm) h0 h1 ho ho2 hu hx' hb1 hb2
  · intro i i' hv1 hv2 x x' b' hne hl hl' _ _ _ _ _ _
    obtain ⟨rfl, _⟩ := hlk i _ hl
    obtain ⟨rfl, _⟩ := hlk i' _ hl'
    exact hne rfl
end
end Go.Ev
