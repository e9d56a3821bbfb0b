/- A checked evaluator, part I: code, loops, functions. -/
import Derived.Test.YtoffmcfaeolcjaaQEvL
import Derived.Scope
import Derived.LoopN
namespace Go.Ev
open Go.RowKit
set_option linter.unusedVariables false

/-! ### other numbers for the blocks, at the head of a loop -/
def Cp.ids : Cp → List Nat
  | .ptr id _ => [id]
  | .ip .. => []
def CV.ids : CV → List Nat
  | .ptr id _ => [id]
  | .eptr id _ _ _ => [id]
  | .own id => [id]
  | .clo _ caps => caps.flatMap Cp.ids
  | .view id _ _ _ => [id]
  | _ => []
def AV.ids : AV → List Nat
  | .sv _ cs => cs.flatMap CV.ids
  | .tup l => l.flatMap fun p => p.2.flatMap CV.ids
def HV.ids : HV → List Nat
  | .cells cs => cs.flatMap CV.ids
  | _ => []

def Cp.ren (f : Nat → Nat) : Cp → Cp
  | .ptr id off => .ptr (f id) off
  | c => c
def CV.ren (f : Nat → Nat) : CV → CV
  | .ptr id off => .ptr (f id) off
  | .eptr id sz i off => .eptr (f id) sz i off
  | .own id => .own (f id)
  | .clo g caps => .clo g (caps.map (Cp.ren f))
  | .view id sz lo n => .view (f id) sz lo n
  | c => c
def AV.ren (f : Nat → Nat) : AV → AV
  | .sv g cs => .sv g (cs.map (CV.ren f))
  | .tup l => .tup (l.map fun p => (p.1, p.2.map (CV.ren f)))
def HV.ren (f : Nat → Nat) : HV → HV
  | .cells cs => .cells (cs.map (CV.ren f))
  | h => h

theorem HV.owned_ren (f : Nat → Nat) (h : HV) : (h.ren f).owned = h.owned := by cases h <;> rfl

section
variable {J I : Nat → Prop} {φ φ' : Nat → Option Value} {w : World} {f : Nat → Nat}
theorem pv_ren {id off : Nat} (h : φ' (f id) = φ id) : pv φ' (f id) off = pv φ id off := by unfold pv; rw [h]
theorem RC.ren {c : Cp} {u : Value} (hf : ∀ id ∈ c.ids, φ' (f id) = φ id) (h : RC J φ I w c u) : RC J φ' I w (c.ren f) u := by
  cases c with
  | ptr id off => show pv φ' (f id) off = _; rw [pv_ren (hf id (by simp [Cp.ids]))]; exact h
  | ip k x off => exact h
theorem RCs.ren : ∀ {caps : List Cp} {vs : List Value}, (∀ id ∈ caps.flatMap Cp.ids, φ' (f id) = φ id) → all2 (RC J φ I w) caps vs → all2 (RC J φ' I w) (caps.map (Cp.ren f)) vs
  | [], [], _, _ => trivial
  | c :: cs, v :: vs, hf, ⟨h1, h2⟩ => ⟨RC.ren (fun id h => hf id (by simp [h])) h1, RCs.ren (fun id h => hf id (by rw [List.flatMap_cons]; exact List.mem_append_right _ h)) h2⟩
  | [], _ :: _, _, h => h.elim
  | _ :: _, [], _, h => h.elim
theorem RV.ren {c : CV} {u : Value} (hf : ∀ id ∈ c.ids, φ' (f id) = φ id) (h : RV J φ I w c u) : RV J φ' I w (c.ren f) u := by
  cases c with
  | lit v => exact h
  | ptr id off => exact RC.ren (J := J) (I := I) (w := w) (c := .ptr id off) hf h
  | iptr k x off => exact h
  | eptr id sz i off => obtain ⟨b, n, c, e, h⟩ := h; exact ⟨b, n, c, by rw [hf id (by simp [CV.ids])]; exact e, h⟩
  | imm e k xs => exact h
  | own id => exact ⟨by rw [hf id (by simp [CV.ids])]; exact h.1, h.2⟩
  | clo g caps => obtain ⟨vs, e, h⟩ := h; exact ⟨vs, e, RCs.ren hf h⟩
  | view id sz lo n => exact ViewOK.mono (fun v h => by rw [hf id (by simp [CV.ids])]; exact h) h
theorem RVs.ren : ∀ {cs : List CV} {vs : List Value}, (∀ id ∈ cs.flatMap CV.ids, φ' (f id) = φ id) → all2 (RV J φ I w) cs vs → all2 (RV J φ' I w) (cs.map (CV.ren f)) vs
  | [], [], _, _ => trivial
  | c :: cs, v :: vs, hf, ⟨h1, h2⟩ => ⟨RV.ren (fun id h => hf id (by simp [h])) h1, RVs.ren (fun id h => hf id (by rw [List.flatMap_cons]; exact List.mem_append_right _ h)) h2⟩
  | [], _ :: _, _, h => h.elim
  | _ :: _, [], _, h => h.elim
theorem RSV.ren {g : Bool} {cs : List CV} {v : Value} (hf : ∀ id ∈ cs.flatMap CV.ids, φ' (f id) = φ id) (h : RSV J φ I w g cs v) : RSV J φ' I w g (cs.map (CV.ren f)) v := by
  obtain ⟨vs, h1, h2⟩ := RSV.pack h
  exact RSV.mk (RVs.ren hf h1) h2
theorem RSVs.ren : ∀ {l : List (Bool × List CV)} {vs : List Value}, (∀ id ∈ (l.flatMap fun p => p.2.flatMap CV.ids), φ' (f id) = φ id) → all2 (fun p u => RSV J φ I w p.1 p.2 u) l vs → all2 (fun p u => RSV J φ' I w p.1 p.2 u) (l.map fun p => (p.1, p.2.map (CV.ren f))) vs
  | [], [], _, _ => trivial
  | c :: cs, v :: vs, hf, ⟨h1, h2⟩ => ⟨RSV.ren (fun id h => hf id (by rw [List.flatMap_cons]; exact List.mem_append_left _ h)) h1, RSVs.ren (fun id h => hf id (by rw [List.flatMap_cons]; exact List.mem_append_right _ h)) h2⟩
  | [], _ :: _, _, h => h.elim
  | _ :: _, [], _, h => h.elim
theorem RA.ren {av : AV} {v : Value} (hf : ∀ id ∈ av.ids, φ' (f id) = φ id) (h : RA J φ I w av v) : RA J φ' I w (av.ren f) v := by
  cases av with
  | sv g cs => exact RSV.ren hf h
  | tup l => obtain ⟨vs, e, h⟩ := h; exact ⟨vs, e, RSVs.ren hf h⟩
theorem RH.ren {id : Nat} {hv : HV} (hid : φ' (f id) = φ id) (hf : ∀ id ∈ hv.ids, φ' (f id) = φ id) (h : RH J φ I w id hv) : RH J φ' I w (f id) (hv.ren f) := by
  cases hv with
  | cells cs => obtain ⟨b, vs, t, e, h1, h2, h3⟩ := h; exact ⟨b, vs, t, by rw [hid]; exact e, h1, RVs.ren hf h2, h3⟩
  | row e k xs => obtain ⟨v, vs, e, h1, h2⟩ := h; exact ⟨v, vs, by rw [hid]; exact e, h1, h2⟩
  | frozen e k xs => obtain ⟨v, e, h1⟩ := h; exact ⟨v, by rw [hid]; exact e, h1⟩
  | buf e k bs => obtain ⟨v, e, h1⟩ := h; exact ⟨v, by rw [hid]; exact e, h1⟩
end

def oids {α : Type} (f : α → List Nat) : Option α → List Nat
  | some x => f x
  | none => []

def reach (σ : LS) : Nat → List Nat → List Nat → List Nat
  | 0, _, acc => acc.reverse
  | _ + 1, [], acc => acc.reverse
  | n + 1, id :: todo, acc => if acc.contains id then reach σ n todo acc else reach σ n (oids HV.ids (σ.at id) ++ todo) (id :: acc)

def LS.canon (σ : LS) (keep : List Nat) : LS :=
  let L := reach σ 200 (σ.pins ++ keep.flatMap fun t => oids AV.ids (σ.get t)) []
  if nodupB L && (σ.pins.all L.contains && ((keep.all fun t => (oids AV.ids (σ.get t)).all L.contains) && L.all fun id => (oids HV.ids (σ.at id)).all L.contains)) then
    { env := keep.map fun t => (t, (σ.get t).map (AV.ren L.idxOf)), heap := L.map fun id => (L.idxOf id, (σ.at id).map (HV.ren L.idxOf)), next := L.length, pins := σ.pins.map L.idxOf }
  else σ

theorem lookup_map_self {α : Type} (g : Nat → α) : ∀ (l : List Nat) (t : Nat), (l.map fun t => (t, g t)).lookup t = if t ∈ l then some (g t) else none
  | [], t => rfl
  | x :: l, t => by
    simp only [List.map_cons, List.lookup]
    by_cases e : t = x
    · subst e; simp
    · have : (t == x) = false := by simpa using e
      rw [this, lookup_map_self g l t]
      simp [e]

theorem lookup_map_idx {α : Type} (g : Nat → α) (f : Nat → Nat) : ∀ (l : List Nat) (i : Nat) (y : α), (l.map fun id => (f id, g id)).lookup i = some y → ∃ id ∈ l, f id = i ∧ y = g id
  | [], i, y, h => by cases h
  | x :: l, i, y, h => by
    simp only [List.map_cons, List.lookup] at h
    cases e : i == f x with
    | true =>
      rw [e] at h
      cases h
      exact ⟨x, List.mem_cons_self, (by simpa using e : i = f x).symm, rfl⟩
    | false =>
      rw [e] at h
      obtain ⟨id, h1, h2⟩ := lookup_map_idx g f l i y h
      exact ⟨id, List.mem_cons_of_mem _ h1, h2⟩

theorem R.canon {fr : Fr} {σ : LS} {φ : Nat → Option Value} {I : Nat → Prop} {a : Act} {w : World} (keep : List Nat) (h : R fr σ.toF φ I a w) : ∃ φ', R fr (σ.canon keep).toF φ' I a w := by
  unfold LS.canon
  simp only
  generalize reach σ 200 (σ.pins ++ keep.flatMap fun t => oids AV.ids (σ.get t)) [] = L
  split
  case isFalse => exact ⟨φ, h⟩
  case isTrue hc =>
  simp only [Bool.and_eq_true, List.all_eq_true] at hc
  obtain ⟨hnd, hpn, hk, hl⟩ := hc
  have hnd := nodupB_ok hnd
  refine ⟨fun i => (L[i]?).bind φ, ?_⟩
  have hφ : ∀ id ∈ L, (L[L.idxOf id]?).bind φ = φ id := by
    intro id hid
    have hlt := List.idxOf_lt_length_iff.2 hid
    rw [List.getElem?_eq_getElem hlt, List.getElem_idxOf hlt]
    rfl
  have hinj : ∀ id ∈ L, ∀ id' ∈ L, L.idxOf id = L.idxOf id' → id = id' := by
    intro id hid id' hid' e
    have h1 := List.getElem_idxOf (List.idxOf_lt_length_iff.2 hid)
    have h2 := List.getElem_idxOf (List.idxOf_lt_length_iff.2 hid')
    have h3 : L[L.idxOf id]? = L[L.idxOf id']? := by rw [e]
    rw [List.getElem?_eq_getElem (List.idxOf_lt_length_iff.2 hid), List.getElem?_eq_getElem (List.idxOf_lt_length_iff.2 hid'), h1, h2] at h3
    simpa using h3
  have hget : ∀ t av, (LS.toF { env := keep.map fun t => (t, (σ.get t).map (AV.ren L.idxOf)), heap := L.map fun id => (L.idxOf id, (σ.at id).map (HV.ren L.idxOf)), next := L.length, pins := σ.pins.map L.idxOf }).env t = some av → t ∈ keep ∧ ∃ av0, σ.get t = some av0 ∧ av = av0.ren L.idxOf := by
    intro t av he
    have he : (match (keep.map fun t => (t, (σ.get t).map (AV.ren L.idxOf))).lookup t with
      | some x => x
      | none => none) = some av := he
    rw [lookup_map_self] at he
    by_cases ht : t ∈ keep
    · rw [if_pos ht] at he
      simp only at he
      obtain ⟨av0, h1, h2⟩ := Option.map_eq_some_iff.1 he
      exact ⟨ht, av0, h1, h2.symm⟩
    · rw [if_neg ht] at he
      cases he
  have hat : ∀ i hv, (LS.toF { env := keep.map fun t => (t, (σ.get t).map (AV.ren L.idxOf)), heap := L.map fun id => (L.idxOf id, (σ.at id).map (HV.ren L.idxOf)), next := L.length, pins := σ.pins.map L.idxOf }).heap i = some hv → ∃ id ∈ L, L.idxOf id = i ∧ ∃ hv0, σ.at id = some hv0 ∧ hv = hv0.ren L.idxOf := by
    intro i hv he
    have he : (match (L.map fun id => (L.idxOf id, (σ.at id).map (HV.ren L.idxOf))).lookup i with
      | some x => x
      | none => none) = some hv := he
    cases hq : (L.map fun id => (L.idxOf id, (σ.at id).map (HV.ren L.idxOf))).lookup i with
    | none => rw [hq] at he; cases he
    | some y =>
      rw [hq] at he
      obtain ⟨id, h1, h2, h3⟩ := lookup_map_idx _ _ L i y hq
      simp only at he
      rw [h3] at he
      obtain ⟨hv0, h4, h5⟩ := Option.map_eq_some_iff.1 he
      exact ⟨id, h1, h2, hv0, h4, h5.symm⟩
  constructor
  · exact h.nt
  · exact h.dfr
  · intro t av he
    obtain ⟨ht, av0, h1, rfl⟩ := hget t av he
    obtain ⟨v, h2, h3⟩ := h.env t av0 h1
    refine ⟨v, h2, RA.ren (fun id hid => hφ id ?_) h3⟩
    have := hk t ht id (by rw [h1]; exact hid)
    simpa using this
  · intro i hv he
    obtain ⟨id, h1, rfl, hv0, h2, rfl⟩ := hat i hv he
    refine RH.ren (φ := φ) (φ' := fun i => (L[i]?).bind φ) (f := L.idxOf) (hφ id h1) (fun id' hid' => hφ id' ?_) (h.heap id hv0 h2)
    have := hl id h1 id' (by rw [h2]; exact hid')
    simpa using this
  · intro i he
    have he : L.length ≤ i := he
    simp [List.getElem?_eq_none he]
  · intro i hv v b he ho hv' hb
    obtain ⟨id, h1, rfl, hv0, h2, rfl⟩ := hat i hv he
    rw [HV.owned_ren] at ho
    simp only [hφ id h1] at hv'
    exact h.own id hv0 v b h2 ho hv' hb
  · intro i i' hv hv' v v' b hne he he' ho ho' hφv hφv' hb
    obtain ⟨id, h1, rfl, hv0, h2, rfl⟩ := hat i hv he
    obtain ⟨id', h1', rfl, hv0', h2', rfl⟩ := hat i' hv' he'
    rw [HV.owned_ren] at ho ho'
    simp only [hφ id h1] at hφv
    simp only [hφ id' h1'] at hφv'
    exact h.sep id id' hv0 hv0' v v' b (fun e => hne (by rw [e])) h2 h2' ho ho' hφv hφv' hb
  · exact h.only
  · exact h.imm
  · exact h.lt
  · have key : ∀ (l : List Nat) (us : List Value), (∀ id ∈ l, id ∈ L) → all2 (fun id u => φ id = some u) l us → all2 (fun id u => (L[id]?).bind φ = some u) (l.map L.idxOf) us := by
      intro l
      induction l with
      | nil =>
        intro us _ h
        cases us with
        | nil => trivial
        | cons u us => exact h.elim
      | cons x l ih =>
        intro us hl h
        cases us with
        | nil => exact h.elim
        | cons u us => exact ⟨(hφ x (hl x List.mem_cons_self)).trans h.1, ih us (fun y hy => hl y (List.mem_cons_of_mem _ hy)) h.2⟩
    exact key σ.pins fr.pins (fun id hid => by have := hpn id hid; simpa using this) h.pin

/-- All own rows among some values, kept as they are. -/
def LS.frzL (σ : LS) : List CV → LS
  | [] => σ
  | c :: cs => match c with
    | .own id => match σ.at id with
      | some (.row e t xs) => (σ.frz id e t xs).frzL cs
      | _ => σ.frzL cs
    | _ => σ.frzL cs

theorem frz_toF (σ : LS) (id : Nat) (e : TypeId) (k : Ty) (xs : List (D k)) : (σ.frz id e k xs).toF = σ.toF.frz id e k xs := by
  unfold LS.toF FS.frz
  congr 1
  funext i
  exact frz_at σ id e k xs i

theorem R.frzL {fr : Fr} {φ : Nat → Option Value} {a : Act} {w : World} : ∀ (cs : List CV) (σ : LS) (I : Nat → Prop), R fr σ.toF φ I a w → ∃ I', R fr (σ.frzL cs).toF φ I' a w
  | [], σ, I, h => ⟨I, h⟩
  | c :: cs, σ, I, h => by
    have plain : ∃ I', R fr (σ.frzL cs).toF φ I' a w := R.frzL cs σ I h
    cases c with
    | own id =>
      simp only [LS.frzL]
      split
      · rename_i e t xs h0
        obtain ⟨I', h1⟩ := h.frz (id := id) (e := e) (k := t) (xs := xs) h0
        rw [← frz_toF] at h1
        exact R.frzL cs _ I' h1
      · exact plain
    | _ => exact plain

/-! ### nil slices that are rows of the call's own -/
structure Wd where
  slot : Nat
  box : Bool
  cell : Nat
  e : TypeId
  k : Ty
  /-- not a nil slice that becomes a row, but a row that is kept as it is -/
  fz : Bool

def widCell (cs : List CV) (j n : Nat) : Option (List CV) := match cs[j]? with
  | some c => if isNil c then some (cs.set j (.own n)) else none
  | none => none

def LS.widen1 (σ : LS) (d : Wd) : LS := match σ.get d.slot with
  | some (.sv g cs) => if d.box = true then (match cs with
    | [.ptr id _] => match σ.at id with
      | some (.cells cs) => match widCell cs d.cell σ.next with
        | some cs' => ⟨σ.env, (id, some (.cells cs')) :: (σ.next, some (.row d.e d.k [])) :: σ.heap, σ.next + 1, σ.pins⟩
        | none => σ
      | _ => σ
    | _ => σ) else (match widCell cs d.cell σ.next with
      | some cs' => ⟨(d.slot, some (.sv g cs')) :: σ.env, (σ.next, some (.row d.e d.k [])) :: σ.heap, σ.next + 1, σ.pins⟩
      | none => σ)
  | _ => σ

def fzCVs (σ : LS) (d : Wd) : List CV := match σ.get d.slot with
  | some (.sv g cs) => if d.box = true then (match cs with
    | [.ptr id _] => match σ.at id with
      | some (.cells cs) => (cs.drop d.cell).take 1
      | _ => []
    | _ => []) else (cs.drop d.cell).take 1
  | _ => []

def immCell (σ : LS) (cs : List CV) (j : Nat) : Option (List CV) := match cs[j]? with
  | some (.own id) => match σ.at id with
    | some (.frozen e k xs) => some (cs.set j (.imm e k xs))
    | _ => none
  | _ => none

def LS.imm1 (σ : LS) (d : Wd) : LS := match σ.get d.slot with
  | some (.sv g cs) => if d.box = true then (match cs with
    | [.ptr id _] => match σ.at id with
      | some (.cells cs) => match immCell σ cs d.cell with
        | some cs' => ⟨σ.env, (id, some (.cells cs')) :: σ.heap, σ.next, σ.pins⟩
        | none => σ
      | _ => σ
    | _ => σ) else (match immCell σ cs d.cell with
      | some cs' => ⟨(d.slot, some (.sv g cs')) :: σ.env, σ.heap, σ.next, σ.pins⟩
      | none => σ)
  | _ => σ

def LS.widen (σ : LS) : List Wd → LS
  | [] => σ
  | d :: ds => if d.fz = true then ((σ.frzL (fzCVs σ d)).imm1 d).widen ds else (σ.widen1 d).widen ds

section
variable {fr : Fr} {σ : FS} {φ : Nat → Option Value} {I : Nat → Prop} {a : Act} {w : World}
theorem R.reenv (h : R fr σ φ I a w) {t : Nat} {av av' : AV} (h0 : σ.env t = some av) (hs : ∀ v, RA fr.J φ I w av v → RA fr.J φ I w av' v) : R fr { σ with env := fun i => if i = t then some av' else σ.env i } φ I a w where
  nt := h.nt
  dfr := h.dfr
  env := fun i av1 e => by
    replace e : (if i = t then some av' else σ.env i) = some av1 := e
    split at e
    · rename_i hi; subst hi; cases e
      obtain ⟨v, h1, h2⟩ := h.env i av h0
      exact ⟨v, h1, hs v h2⟩
    · exact h.env i av1 e
  heap := h.heap
  fresh := h.fresh
  own := h.own
  sep := h.sep
  only := h.only
  imm := h.imm
  lt := h.lt
  pin := h.pin

theorem R.reheap (h : R fr σ φ I a w) {id : Nat} {hv hv' : HV} (h0 : σ.heap id = some hv) (ho : hv.owned = true) (hs : RH fr.J φ I w id hv → RH fr.J φ I w id hv') : R fr { σ with heap := fun i => if i = id then some hv' else σ.heap i } φ I a w := by
  have key : ∀ i hv1, (if i = id then some hv' else σ.heap i) = some hv1 → ∃ hv2, σ.heap i = some hv2 ∧ (hv1.owned = true → hv2.owned = true) := by
    intro i hv1 e
    split at e
    · rename_i hi; subst hi; exact ⟨hv, h0, fun _ => ho⟩
    · exact ⟨hv1, e, fun h => h⟩
  exact {
    nt := h.nt
    dfr := h.dfr
    env := h.env
    heap := fun i hv1 e => by
      replace e : (if i = id then some hv' else σ.heap i) = some hv1 := e
      split at e
      · rename_i hi; subst hi; cases e
        exact hs (h.heap i hv h0)
      · exact h.heap i hv1 e
    fresh := h.fresh
    own := fun i hv1 v b e ho1 => by
      obtain ⟨hv2, h1, h2⟩ := key i hv1 e
      exact h.own i hv2 v b h1 (h2 ho1)
    sep := fun i i' hv1 hv1' v v' b hne e e' ho1 ho1' => by
      obtain ⟨hv2, h1, h2⟩ := key i hv1 e
      obtain ⟨hv2', h1', h2'⟩ := key i' hv1' e'
      exact h.sep i i' hv2 hv2' v v' b hne h1 h1' (h2 ho1) (h2' ho1')
    only := h.only
    imm := h.imm
    lt := h.lt
    pin := h.pin }

def nilV : Value := .slice none 0 0

theorem R.nilRow (h : R fr σ φ I a w) {id : Nat} (hf : σ.fresh id) (e : TypeId) (k : Ty) : R fr ((⟨none, none, [], [], [(id, some (.row e k []))], [id]⟩ : Rec).apply σ) (ext φ id nilV) I a w :=
  h.new (v := undef) (w' := w) ⟨none, none, [], [], [(id, some (.row e k []))], [id]⟩ (fun _ h => by cases h) rfl rfl hf (OnlyP.refl _ _) (fun b hb => by cases hb)
    ⟨nilV, [], ext_same, World.ownsRow_nil _ _ _ _, rfl⟩ (fun _ h => by cases h)

theorem widCell_ok {J : Nat → Prop} {cs cs' : List CV} {j n : Nat} (h : widCell cs j n = some cs') (hn : φ n = some nilV) {vs : List Value} (ha : all2 (RV J φ I w) cs vs) : all2 (RV J φ I w) cs' vs := by
  unfold widCell at h
  split at h
  case h_2 => cases h
  case h_1 c hc =>
  have h0 := ite_some h rfl
  clear h
  obtain ⟨hi, h⟩ := h0
  cases h
  obtain ⟨v, h1, h2⟩ := ha.get hc
  have h3 : v = nilV := by rw [isNil_ok hi] at h2; exact h2
  have h4 := ha.set j (a := .own n) (b := v) ⟨by rw [h3]; exact hn, by rw [h3]; rfl⟩
  have h5 : vs.set j v = vs := by
    apply List.ext_getElem?
    intro i
    rw [List.getElem?_set]
    split
    · rename_i hij; subst hij
      split
      · exact h1.symm
      · rename_i hlt; rw [List.getElem?_eq_none (by omega)]
    · rfl
  rw [h5] at h4
  exact h4
end

theorem R.widen1 {fr : Fr} {σ : LS} {φ : Nat → Option Value} {I : Nat → Prop} {a : Act} {w : World} (d : Wd) (h : R fr σ.toF φ I a w) : ∃ φ', R fr (σ.widen1 d).toF φ' I a w := by
  unfold LS.widen1
  split
  case h_2 => exact ⟨φ, h⟩
  case h_1 g cs hg =>
  have hf : σ.toF.fresh σ.next := Nat.le_refl _
  have hnew := h.nilRow hf d.e d.k
  have hno := h.fresh _ hf
  have hlk : ∀ i, (match ([(σ.next, some (HV.row d.e d.k []))] : List (Nat × Option HV)).lookup i with
      | some h => h
      | none => σ.at i) = if i = σ.next then some (.row d.e d.k []) else σ.at i := by
    intro i
    simp only [List.lookup]
    by_cases e : i = σ.next
    · simp [e]
    · have : (i == σ.next) = false := by simpa using e
      simp [this, e]
  split
  · split
    case h_2 => exact ⟨φ, h⟩
    case h_1 id off =>
    split
    case h_2 => exact ⟨φ, h⟩
    case h_1 cs1 hat =>
    split
    case h_2 => exact ⟨φ, h⟩
    case h_1 cs' hw =>
    have hne : id ≠ σ.next := by
      rintro rfl
      obtain ⟨b, vs, t, e, _⟩ := h.heap _ _ hat
      rw [hno] at e; cases e
    refine ⟨_, (hnew.reheap (id := id) (hv := .cells cs1) (hv' := .cells cs') ?_ rfl ?_).sub (fun t av he => he) (fun i hv he => ?_) fun i he => ?_⟩
    · show (match ([(σ.next, some (HV.row d.e d.k []))] : List (Nat × Option HV)).lookup id with
        | some h => h
        | none => σ.at id) = _
      rw [hlk, if_neg hne]; exact hat
    · rintro ⟨b, vs, t, h1, h2, h3, h4⟩
      exact ⟨b, vs, t, h1, h2, widCell_ok hw ext_same h3, h4⟩
    · show (if i = id then some (HV.cells cs') else (match ([(σ.next, some (HV.row d.e d.k []))] : List (Nat × Option HV)).lookup i with
        | some h => h
        | none => σ.at i)) = some hv
      rw [hlk]
      have he : (match ((id, some (HV.cells cs')) :: (σ.next, some (HV.row d.e d.k [])) :: σ.heap).lookup i with
        | some x => x
        | none => none) = some hv := he
      simp only [List.lookup] at he
      by_cases e1 : i = id
      · rw [if_pos e1]; simpa [e1] using he
      · have e2 : (i == id) = false := by simpa using e1
        rw [if_neg e1]
        rw [e2] at he
        by_cases e3 : i = σ.next
        · rw [if_pos e3]; simpa [e3] using he
        · have e4 : (i == σ.next) = false := by simpa using e3
          rw [if_neg e3]
          rw [e4] at he
          exact he
    · have he : σ.next + 1 ≤ i := he
      exact ⟨show σ.next ≤ i by omega, by simp; omega⟩
  · split
    case h_2 => exact ⟨φ, h⟩
    case h_1 cs' hw =>
    refine ⟨_, (hnew.reenv (t := d.slot) (av := .sv g cs) (av' := .sv g cs') ?_ ?_).sub (fun t av he => ?_) (fun i hv he => ?_) fun i he => ?_⟩
    · exact hg
    · intro v hv
      obtain ⟨vs, h1, h2⟩ := RSV.pack hv
      exact RSV.mk (widCell_ok hw ext_same h1) h2
    · show (if t = d.slot then some (AV.sv g cs') else σ.get t) = some av
      have he : (match ((d.slot, some (AV.sv g cs')) :: σ.env).lookup t with
        | some x => x
        | none => none) = some av := he
      simp only [List.lookup] at he
      by_cases e1 : t = d.slot
      · rw [if_pos e1]; simpa [e1] using he
      · have e2 : (t == d.slot) = false := by simpa using e1
        rw [if_neg e1]
        rw [e2] at he
        exact he
    · show (match ([(σ.next, some (HV.row d.e d.k []))] : List (Nat × Option HV)).lookup i with
        | some h => h
        | none => σ.at i) = some hv
      rw [hlk]
      have he : (match ((σ.next, some (HV.row d.e d.k [])) :: σ.heap).lookup i with
        | some x => x
        | none => none) = some hv := he
      simp only [List.lookup] at he
      by_cases e3 : i = σ.next
      · rw [if_pos e3]; simpa [e3] using he
      · have e4 : (i == σ.next) = false := by simpa using e3
        rw [if_neg e3]
        rw [e4] at he
        exact he
    · have he : σ.next + 1 ≤ i := he
      exact ⟨show σ.next ≤ i by omega, by simp; omega⟩

theorem immCell_ok {fr : Fr} {σ : LS} {φ : Nat → Option Value} {I : Nat → Prop} {a : Act} {w : World} (hR : R fr σ.toF φ I a w) {cs cs' : List CV} {j : Nat} (h : immCell σ cs j = some cs') {vs : List Value} (ha : all2 (RV fr.J φ I w) cs vs) : all2 (RV fr.J φ I w) cs' vs := by
  unfold immCell at h
  split at h
  case h_2 => cases h
  case h_1 id hc =>
  split at h
  case h_2 => cases h
  case h_1 e k xs hat =>
  cases h
  obtain ⟨v, h1, h2⟩ := ha.get hc
  obtain ⟨v', h3, h4⟩ := hR.heap id _ hat
  have h2 : φ id = some v := h2.1
  rw [h2] at h3; cases h3
  have h5 := ha.set j (a := .imm e k xs) (b := v) h4
  have h6 : vs.set j v = vs := by
    apply List.ext_getElem?
    intro i
    rw [List.getElem?_set]
    split
    · rename_i hij; subst hij
      split
      · exact h1.symm
      · rename_i hlt; rw [List.getElem?_eq_none (by omega)]
    · rfl
  rw [h6] at h5
  exact h5

theorem R.imm1 {fr : Fr} {σ : LS} {φ : Nat → Option Value} {I : Nat → Prop} {a : Act} {w : World} (d : Wd) (h : R fr σ.toF φ I a w) : R fr (σ.imm1 d).toF φ I a w := by
  unfold LS.imm1
  split
  case h_2 => exact h
  case h_1 g cs hg =>
  split
  · split
    case h_2 => exact h
    case h_1 id off =>
    split
    case h_2 => exact h
    case h_1 cs1 hat =>
    split
    case h_2 => exact h
    case h_1 cs' hw =>
    refine (h.reheap (id := id) (hv := .cells cs1) (hv' := .cells cs') hat rfl ?_).sub (fun t av he => he) (fun i hv he => ?_) fun i he => he
    · rintro ⟨b, vs, t, h1, h2, h3, h4⟩
      exact ⟨b, vs, t, h1, h2, immCell_ok h hw h3, h4⟩
    · show (if i = id then some (HV.cells cs') else σ.at i) = some hv
      have he : (match ((id, some (HV.cells cs')) :: σ.heap).lookup i with
        | some x => x
        | none => none) = some hv := he
      simp only [List.lookup] at he
      by_cases e1 : i = id
      · rw [if_pos e1]; simpa [e1] using he
      · have e2 : (i == id) = false := by simpa using e1
        rw [if_neg e1]
        rw [e2] at he
        exact he
  · split
    case h_2 => exact h
    case h_1 cs' hw =>
    refine (h.reenv (t := d.slot) (av := .sv g cs) (av' := .sv g cs') hg ?_).sub (fun t av he => ?_) (fun i hv he => he) fun i he => he
    · intro v hv
      obtain ⟨vs, h1, h2⟩ := RSV.pack hv
      exact RSV.mk (immCell_ok h hw h1) h2
    · show (if t = d.slot then some (AV.sv g cs') else σ.get t) = some av
      have he : (match ((d.slot, some (AV.sv g cs')) :: σ.env).lookup t with
        | some x => x
        | none => none) = some av := he
      simp only [List.lookup] at he
      by_cases e1 : t = d.slot
      · rw [if_pos e1]; simpa [e1] using he
      · have e2 : (t == d.slot) = false := by simpa using e1
        rw [if_neg e1]
        rw [e2] at he
        exact he

theorem R.widen {fr : Fr} {a : Act} {w : World} : ∀ (ds : List Wd) {σ : LS} {φ : Nat → Option Value} {I : Nat → Prop}, R fr σ.toF φ I a w → ∃ φ' I', R fr (σ.widen ds).toF φ' I' a w
  | [], σ, φ, I, h => ⟨φ, I, h⟩
  | d :: ds, σ, φ, I, h => by
    unfold LS.widen
    split
    · obtain ⟨I1, h1⟩ := R.frzL (fzCVs σ d) σ I h
      exact R.widen ds (R.imm1 d h1)
    · obtain ⟨φ1, h1⟩ := R.widen1 d h
      exact R.widen ds h1

/-! ### code -/
section
variable {ρ : Type}

def loopE (body : LS → (Exit → LS → Option ρ) → Option ρ) (cn : LS → LS) (k : Exit → LS → Option ρ) : Nat → LS → Option ρ
  | 0, _ => none
  | m + 1, σ => body σ fun e σ' => match e with
    | .normal => loopE body cn k m (cn σ')
    | e => k e σ'

/-- The number of a code's first region: the name of a loop. -/
def firstReg : Code → Nat
  | .region id _ _ => id
  | .seq a b => match a with
    | .skip => firstReg b
    | a => firstReg a
  | .cond _ a _ => firstReg a
  | .block _ a => firstReg a
  | .loop a => firstReg a
  | .scope a => firstReg a
  | _ => 0

abbrev HL := List (Nat × List Nat × List Wd)

def headOf (H : HL) (id : Nat) (σ : LS) : LS := match H.lookup id with
  | some p => (σ.widen p.2).canon p.1
  | none => σ.canon []

theorem R.head {fr : Fr} {σ : LS} {φ : Nat → Option Value} {I : Nat → Prop} {a : Act} {w : World} (H : HL) (id : Nat) (h : R fr σ.toF φ I a w) : ∃ φ' I', R fr (headOf H id σ).toF φ' I' a w := by
  unfold headOf
  split
  · rename_i p _
    obtain ⟨φ1, I1, h1⟩ := R.widen p.2 h
    obtain ⟨φ2, h2⟩ := R.canon p.1 h1
    exact ⟨φ2, I1, h2⟩
  · obtain ⟨φ2, h2⟩ := R.canon [] h
    exact ⟨φ2, I, h2⟩

/-- What follows behind a code that branches: its ways may come together at one state. -/
def joinOf (H : HL) (b : Code) (σ : LS) : LS := match H.lookup (1000000 + firstReg b) with
  | some p => (σ.widen p.2).canon p.1
  | none => σ

theorem R.join {fr : Fr} {σ : LS} {φ : Nat → Option Value} {I : Nat → Prop} {a : Act} {w : World} (H : HL) (b : Code) (h : R fr σ.toF φ I a w) : ∃ φ' I', R fr (joinOf H b σ).toF φ' I' a w := by
  unfold joinOf
  split
  · rename_i p _
    obtain ⟨φ1, I1, h1⟩ := R.widen p.2 h
    obtain ⟨φ2, h2⟩ := R.canon p.1 h1
    exact ⟨φ2, I1, h2⟩
  · exact ⟨φ, I, h⟩

def jn (run : LS → (Exit → LS → Option ρ) → Option ρ) (cn : LS → LS) (σ : LS) (k : Exit → LS → Option ρ) : Option ρ := run (cn σ) k

def codeE (ev : Oper → LS → Nat → (Rec → Option ρ) → Option ρ) (N : Nat) (H : HL) (n : Nat) : Code → LS → (Exit → LS → Option ρ) → Option ρ
  | .skip, σ, k => k .normal σ
  | .label _, σ, k => k .normal σ
  | .region _ ops draw, σ, k => regT ev N ops.toList ops.toList σ fun tes σ' => if draw then (if drawOk ops.toList tes then k .normal σ' else none) else k .normal σ'
  | .seq a b, σ, k => codeE ev N H n a σ fun e σ' => match e with
    | .normal => jn (codeE ev N H n b) (joinOf H b) σ' k
    | e => k e σ'
  | .cond c a b, σ, k => match (opd σ c).bind fun p => boolOf p.1 with
    | some t => cnd t (codeE ev N H n a σ k) (codeE ev N H n b σ k)
    | none => none
  | .block id a, σ, k => codeE ev N H n a σ fun e σ' => match e with
    | .exit id' => if id' = id then k .normal σ' else k (.exit id') σ'
    | e => k e σ'
  | .loop a, σ, k => loopE (codeE ev N H n a) (headOf H (firstReg a)) k n (headOf H (firstReg a) σ)
  | .exit id, σ, k => k (.exit id) σ
  | .ret, σ, k => k .ret σ
  | _, _, _ => none

/-- A place in code. -/
inductive Dir where
  | l
  | r
  | b
  | loop (m : Nat)

def codeAt : Code → List Dir → Code
  | c, [] => c
  | .seq a _, .l :: p => codeAt a p
  | .seq _ b, .r :: p => codeAt b p
  | .cond _ a _, .l :: p => codeAt a p
  | .cond _ _ b, .r :: p => codeAt b p
  | .block _ a, .b :: p => codeAt a p
  | .loop a, .loop _ :: p => codeAt a p
  | c, _ => c

/-- What follows behind a place. -/
def kAt (ev : Oper → LS → Nat → (Rec → Option ρ) → Option ρ) (N : Nat) (H : HL) (n : Nat) : Code → List Dir → (Exit → LS → Option ρ) → Exit → LS → Option ρ
  | .seq a b, .l :: p, k => kAt ev N H n a p fun e σ' => match e with
    | .normal => jn (codeE ev N H n b) (joinOf H b) σ' k
    | e => k e σ'
  | .seq _ b, .r :: p, k => kAt ev N H n b p k
  | .cond _ a _, .l :: p, k => kAt ev N H n a p k
  | .cond _ _ b, .r :: p, k => kAt ev N H n b p k
  | .block id a, .b :: p, k => kAt ev N H n a p fun e σ' => match e with
    | .exit id' => if id' = id then k .normal σ' else k (.exit id') σ'
    | e => k e σ'
  | .loop a, .loop m :: p, k => kAt ev N H n a p fun e σ' => match e with
    | .normal => loopE (codeE ev N H n a) (headOf H (firstReg a)) k m (headOf H (firstReg a) σ')
    | e => k e σ'
  | _, _, k => k

/-- The loop at a place, m rounds, from a state on. -/
def loopAt (ev : Oper → LS → Nat → (Rec → Option ρ) → Option ρ) (N : Nat) (H : HL) (n : Nat) (c : Code) (p : List Dir) (k : Exit → LS → Option ρ) (m : Nat) (σ : LS) : Option ρ :=
  match codeAt c p with
  | .loop a => loopE (codeE ev N H n a) (headOf H (firstReg a)) (kAt ev N H n c p k) m σ
  | _ => none

/-- What 'jn' comes to; named, for the kernel unfolds it last. -/
def jnR (run : LS → (Exit → LS → Option ρ) → Option ρ) (σ : LS) (k : Exit → LS → Option ρ) : Option ρ := run σ k

def PostE (fr : Fr) (k : Exit → LS → Option ρ) (z : ρ) (e : Exit) (a : Act) (w : World) : Prop := ∃ σ φ I, k e σ = some z ∧ R fr σ.toF φ I a w

theorem codeE_ok {P : Program} (hm : P.follows .mixedOrders = true) {ev : Oper → LS → Nat → (Rec → Option ρ) → Option ρ} (hev : EvOK P ev) {H : HL} {n : Nat} {fr : Fr} {z : ρ} :
    ∀ (c : Code) (σ : LS) (k : Exit → LS → Option ρ), codeE ev fr.N H n c σ k = some z → ∀ (φ : Nat → Option Value) (I : Nat → Prop) (a : Act) (w : World), R fr σ.toF φ I a w → c.wp P (PostE fr k z) a w
  | .skip, σ, k, h, φ, I, a, w, hR => wp_skip ⟨σ, φ, I, h, hR⟩
  | .label _, σ, k, h, φ, I, a, w, hR => wp_label ⟨σ, φ, I, h, hR⟩
  | .region id ops draw, σ, k, h, φ, I, a, w, hR => by
    obtain ⟨tes, σ', ht, h1⟩ := regT_ok hev _ _ _ _ h
    cases draw with
    | false =>
      simp only [Bool.false_eq_true, if_false] at h1
      refine wp_region ?_
      have := ht.seq (Q := PostE fr k z) (i := 0) (by simp) hR fun φ' I' a' w' h3 => ⟨σ', φ', I', h1, h3⟩
      rw [List.range_eq_range']
      simpa using this
    | true =>
      simp only [if_true] at h1
      obtain ⟨hd, h1⟩ := ite_some h1 rfl
      refine wp_region_any hm ?_
      refine ht.any hd (fun φ' I' a' w' h3 => ⟨σ', φ', I', h1, h3⟩) ops.size _ φ I a _ (by simp) ?_ ?_ ?_
      · have : (Array.replicate ops.size false).toList.countP (fun b => !b) ≤ (Array.replicate ops.size false).toList.length := List.countP_le_length
        simpa using this
      · intro j o ho hj
        simp only [Array.getD_eq_getD_getElem?, Array.getElem?_replicate] at hj
        split at hj <;> simp at hj
      · have hX : ∀ j, (Array.replicate ops.size false).getD j false = false := by
          intro j
          simp only [Array.getD_eq_getD_getElem?, Array.getElem?_replicate]
          split <;> rfl
        refine (hR.drew).sub (fun t av he => ?_) (fun id hv he => ?_) fun id he => he.1
        · rw [← he]
          exact (fo_none fun j _ hj => by rw [hX] at hj; cases hj).symm
        · rw [← he]
          exact (fo_none fun j _ hj => by rw [hX] at hj; cases hj).symm
  | .seq c d, σ, k, h, φ, I, a, w, hR => by
    refine wp_seq (wp_mono (codeE_ok hm hev c σ _ h φ I a w hR) ?_)
    rintro e a' w' ⟨σ', φ', I', h1, h2⟩
    cases e with
    | normal =>
      obtain ⟨φ2, I2, h3⟩ := h2.join H d
      exact codeE_ok hm hev d _ k h1 φ2 I2 a' w' h3
    | _ => exact ⟨σ', φ', I', h1, h2⟩
  | .cond c x y, σ, k, h, φ, I, a, w, hR => by
    unfold codeE at h
    split at h
    case h_2 => cases h
    case h_1 t ht =>
    obtain ⟨⟨av, tl⟩, h1, h2⟩ := Option.bind_eq_some_iff.1 ht
    have h3 := opd_eval h1 hR (opd_temps h1)
    have h2 : boolOf av = some t := h2
    rw [boolOf_eq h2] at h3
    cases t with
    | true => exact wp_cond_true h3 (codeE_ok hm hev x σ k h φ I a w hR)
    | false => exact wp_cond_false h3 (codeE_ok hm hev y σ k h φ I a w hR)
  | .block id c, σ, k, h, φ, I, a, w, hR => by
    refine wp_block (wp_mono (codeE_ok hm hev c σ _ h φ I a w hR) ?_)
    rintro e a' w' ⟨σ', φ', I', h1, h2⟩
    cases e with
    | exit id' =>
      simp only [Exit.inBlock]
      simp only at h1
      by_cases e : id' = id
      · rw [if_pos e] at h1 ⊢; exact ⟨σ', φ', I', h1, h2⟩
      · rw [if_neg e] at h1 ⊢; exact ⟨σ', φ', I', h1, h2⟩
    | _ => exact ⟨σ', φ', I', h1, h2⟩
  | .loop c, σ, k, h, φ, I, a, w, hR => by
    have body := codeE_ok hm hev (H := H) (n := n) (fr := fr) (z := z) c
    have h : loopE (codeE ev fr.N H n c) (headOf H (firstReg c)) k n (headOf H (firstReg c) σ) = some z := h
    have key : ∀ (m : Nat) (σ : LS) (φ : Nat → Option Value) (I : Nat → Prop) (a : Act) (w : World), loopE (codeE ev fr.N H n c) (headOf H (firstReg c)) k m σ = some z → R fr σ.toF φ I a w → Code.rounds P c (PostE fr k z) m a w := by
      intro m
      induction m with
      | zero => intro σ φ I a w h; cases h
      | succ m ih =>
        intro σ φ I a w h hR
        rw [rounds_succ]
        refine wp_mono (body _ _ h φ I a w hR) ?_
        rintro e a' w' ⟨σ', φ', I', h1, h2⟩
        cases e with
        | normal =>
          obtain ⟨φ0, I0, hR0⟩ := h2.head H (firstReg c)
          exact ih _ φ0 I0 a' w' h1 hR0
        | _ => exact ⟨σ', φ', I', h1, h2⟩
    obtain ⟨φ0, I0, hR0⟩ := hR.head H (firstReg c)
    exact wp_loop_rounds n (key n _ φ0 I0 a w h hR0)
  | .exit id, σ, k, h, φ, I, a, w, hR => wp_exit ⟨σ, φ, I, h, hR⟩
  | .ret, σ, k, h, φ, I, a, w, hR => wp_ret ⟨σ, φ, I, h, hR⟩
  | .rangeFunc .., σ, k, h, _, _, _, _, _ => by cases h
  | .scope _, σ, k, h, _, _, _, _, _ => by cases h
  | .goto _, σ, k, h, _, _, _, _, _ => by cases h
  | .refuse _, σ, k, h, _, _, _, _, _ => by cases h
end
end Go.Ev
