/- The plain law of acc.Join. -/
import Derived.Test.YtohnakoineakdaaGreatQQ2
namespace Go.Proofs.YtohnakoineakdaaGreat
open Go Go.Ev
set_option linter.unusedVariables false
set_option linter.unusedSimpArgs false

def okA (bs : List Int) (a : AC) : Prop := a.2.2.2.2.2.2.length = bs.length + 1 ∧ 0 ≤ a.1 ∧ -(a.1 * 1099511627776) ≤ a.2.1 ∧ a.2.1 ≤ a.1 * 1099511627776 ∧ ∀ x ∈ a.2.2.2.2.2.2, 0 ≤ x ∧ x ≤ a.1
theorem leSum : ∀ {xs : List Int}, (∀ x ∈ xs, 0 ≤ x) → 0 ≤ xs.sum ∧ ∀ x ∈ xs, x ≤ xs.sum
  | [], _ => by simp
  | y :: ys, h => by
    have r := leSum (fun x hx => h x (List.mem_cons_of_mem _ hx))
    have hy := h y List.mem_cons_self
    rw [List.sum_cons]
    refine ⟨by omega, fun x hx => ?_⟩
    rcases List.mem_cons.1 hx with rfl | hx
    · omega
    · have := r.2 x hx; omega
theorem okA_smA {bs : List Int} {a : AC} (h : okA bs a) (h8 : a.1 ≤ 8192) : smA a := by
  obtain ⟨h0, h1, h2, h3, h4⟩ := h
  refine ⟨h1, h8, by omega, by omega, fun x hx => ?_⟩
  have := h4 x hx; omega
theorem accMay_okA {bs : List Int} {a : AC} (h : accMay a bs = true) : okA bs a ∧ a.1 ≤ 8192 := by
  simp only [accMay, Bool.and_eq_true] at h
  obtain ⟨hb, hh, hn, hr⟩ := h
  simp only [histMay, Bool.and_eq_true, List.all_eq_true, decide_eq_true_eq, inN] at hh hn
  obtain ⟨hall, hlen, hsum⟩ := hh
  have ls := leSum (fun x hx => (hall x hx).1)
  have key : -(a.1 * 1099511627776) ≤ a.2.1 ∧ a.2.1 ≤ a.1 * 1099511627776 := by
    by_cases hz : a.1 = 0
    · rw [if_pos hz] at hr
      simp only [bareA, Bool.and_eq_true, beq_iff_eq] at hr
      have := hr.1; omega
    · rw [if_neg hz] at hr
      simp only [accBody, Bool.and_eq_true, decide_eq_true_eq, inV] at hr
      obtain ⟨b1, b2, -, -, b3, b4⟩ := hr
      have m1 : a.1 * (-1099511627776) ≤ a.1 * a.2.2.1 := Int.mul_le_mul_of_nonneg_left b1.1 hn.1
      have m2 : a.1 * a.2.2.2.1 ≤ a.1 * 1099511627776 := Int.mul_le_mul_of_nonneg_left b2.2 hn.1
      omega
  refine ⟨⟨hlen, hn.1, key.1, key.2, fun x hx => ⟨(hall x hx).1, ?_⟩⟩, hn.2⟩
  rw [← hsum]; exact ls.2 x hx
theorem memZip {xs ys : List Int} {z : Int} (h : z ∈ List.zipWith (· + ·) xs ys) : ∃ x ∈ xs, ∃ y ∈ ys, z = x + y := by
  induction xs generalizing ys with
  | nil => simp at h
  | cons x xs ih =>
    cases ys with
    | nil => simp at h
    | cons y ys =>
      simp only [List.zipWith_cons_cons, List.mem_cons] at h
      rcases h with rfl | h
      · exact ⟨x, List.mem_cons_self, y, List.mem_cons_self, rfl⟩
      · obtain ⟨a, ha, b, hb, e⟩ := ih h
        exact ⟨a, List.mem_cons_of_mem _ ha, b, List.mem_cons_of_mem _ hb, e⟩
theorem okA_add {bs : List Int} {o a : AC} (ho : okA bs o) (ha : okA bs a) : okA bs (addA o a) := by
  obtain ⟨o0, o1, o2, o3, o4⟩ := ho
  obtain ⟨a0, a1, a2, a3, a4⟩ := ha
  refine ⟨?_, ?_, ?_, ?_, fun x hx => ?_⟩
  · show (List.zipWith _ _ _).length = _
    rw [List.length_zipWith]; omega
  · show 0 ≤ o.1 + a.1
    omega
  · show -((o.1 + a.1) * 1099511627776) ≤ o.2.1 + a.2.1
    omega
  · show o.2.1 + a.2.1 ≤ (o.1 + a.1) * 1099511627776
    omega
  · obtain ⟨y, hy, z, hz, rfl⟩ := memZip hx
    have := o4 y hy; have := a4 z hz
    show 0 ≤ y + z ∧ y + z ≤ o.1 + a.1
    omega

def tot (cs : List AC) : Int := (cs.map fun a => a.1).sum
def addIf (o a : AC) : AC := if 0 < a.1 then addA o a else o
def zeroA (bs : List Int) : AC := (0, 0, 0, 0, (0, 0, 0, 0), (0, 0, 0, 0), List.replicate (bs.length + 1) 0)
def joinA (bs : List Int) (cs : List AC) : AC × Int := if allFrom bs (-1) cs = true then (if 8192 < tot cs then (AC0, 101) else (cs.foldl addIf (zeroA bs), 0)) else (AC0, 100)
theorem tot_cons (a : AC) (cs : List AC) : tot (a :: cs) = a.1 + tot cs := by simp [tot]
theorem tot_nonneg {cs : List AC} (h : ∀ a ∈ cs, 0 ≤ a.1) : 0 ≤ tot cs := by
  induction cs with
  | nil => simp [tot]
  | cons a cs ih =>
    rw [tot_cons]
    have := h a List.mem_cons_self
    have := ih fun b hb => h b (List.mem_cons_of_mem _ hb)
    omega
theorem Join_l1 (n : Nat) (hn : 20 ≤ n) (bs : List Int) (hb : bs.length ≤ 8) (cs : List AC) (hc : cs.length ≤ 1073741824) (hm : ∀ a ∈ cs, accMay a bs = true) :
    ∀ (k m i : Nat) (o : AC), i + k = cs.length → k < m → okA bs o → o.1 + tot (cs.drop i) ≤ 8192 →
    acc_Join_l1 n c94.F c95.F cs m (i : Int) o.1 o.2.1 o.2.2.1 o.2.2.2.1 o.2.2.2.2.1.1 o.2.2.2.2.1.2.1 o.2.2.2.2.1.2.2.1 o.2.2.2.2.1.2.2.2 o.2.2.2.2.2.1.1 o.2.2.2.2.2.1.2.1 o.2.2.2.2.2.1.2.2.1 o.2.2.2.2.2.1.2.2.2 o.2.2.2.2.2.2 = some ((cs.drop i).foldl addIf o, 0) := by
  intro k
  induction k with
  | zero =>
    intro m i o hi hm ho ht
    obtain ⟨m, rfl, hm⟩ := sucM hm
    have : cs.drop i = [] := List.drop_eq_nil_of_le (by omega)
    have h1 : ¬ ((i : Int) < (cs.length : Int)) := by omega
    rw [acc_Join_l1_S]
    simp [this, h1]
  | succ k ih =>
    intro m i o hi hmm ho ht
    obtain ⟨m, rfl, hmm⟩ := sucM hmm
    have hlt : i < cs.length := by omega
    have h1 : ((i : Int) < (cs.length : Int)) := by omega
    have h2 : (0 : Int) ≤ (i : Int) := by omega
    have ha := accMay_okA (hm _ (List.getElem_mem hlt))
    have tn : 0 ≤ tot (cs.drop (i + 1)) := tot_nonneg fun a h => (accMay_okA (hm _ (List.mem_of_mem_drop h))).1.2.1
    rw [dropLt hlt, tot_cons] at ht
    have a0 := ha.1.2.1
    rw [acc_Join_l1_S, dropLt hlt]
    simp only [h1, h2, and_self, if_true, decide_true, cond_true, Int.toNat_natCast, getLt hlt, acc_Join_j2_S, wrapS (i := i) (by omega), List.foldl_cons, GT.gt]
    by_cases h0 : 0 < cs[i].1
    · have e : addIf o cs[i] = addA o cs[i] := if_pos h0
      rw [e, ← ih m (i + 1) (addA o cs[i]) (by omega) (by omega) (okA_add ho ha.1) (by show o.1 + cs[i].1 + _ ≤ _; omega)]
      have ae := add_eq n hn o cs[i] (by rw [ho.1, ha.1.1]) (by rw [ha.1.1]; omega) (okA_smA ho (by omega)) (okA_smA ha.1 ha.2)
      simp only [h0, decide_true, cond_true]
      rw [show (o.1, o.2.1, o.2.2.1, o.2.2.2.1, (o.2.2.2.2.1.1, o.2.2.2.2.1.2.1, o.2.2.2.2.1.2.2.1, o.2.2.2.2.1.2.2.2), (o.2.2.2.2.2.1.1, o.2.2.2.2.2.1.2.1, o.2.2.2.2.2.1.2.2.1, o.2.2.2.2.2.1.2.2.2), o.2.2.2.2.2.2) = o from rfl, ae]
      rfl
    · have e : addIf o cs[i] = o := if_neg h0
      rw [e]
      simp only [h0, decide_false, cond_false]
      exact ih m (i + 1) o (by omega) (by omega) ho (by omega)
theorem Join_l0 (n : Nat) (hn : 20 ≤ n) (bs : List Int) (hb : bs.length ≤ 8) (cs : List AC) (hc : cs.length ≤ 1073741824) (hm : ∀ a ∈ cs, accMay a bs = true) (hl : cs.length < n) :
    ∀ (k m i : Nat) (s : Int), i + k = cs.length → k < m → 0 ≤ s → s ≤ 8192 * i → s + tot (cs.drop i) = tot cs →
    acc_Join_l0 n c94.F c95.F bs cs m s (i : Int) = some (if 8192 < tot cs then (AC0, 101) else (cs.foldl addIf (zeroA bs), 0)) := by
  intro k
  induction k with
  | zero =>
    intro m i s hi hmm h0 hs ht
    obtain ⟨m, rfl, hmm⟩ := sucM hmm
    have : cs.drop i = [] := List.drop_eq_nil_of_le (by omega)
    have h1 : ¬ ((i : Int) < (cs.length : Int)) := by omega
    rw [this] at ht
    have ht : s = tot cs := by simpa [tot] using ht
    rw [acc_Join_l0_S]
    simp only [h1, decide_false, cond_false, GT.gt, ht]
    by_cases h8 : 8192 < tot cs
    · simp [h8, AC0, nl]
    · simp only [h8, decide_false, cond_false, wrapS (i := bs.length) (by omega), if_true, Int.toNat_natCast, if_false]
      rw [if_pos (by omega)]
      have z : okA bs (zeroA bs) := ⟨by simp [zeroA], by simp [zeroA], by simp [zeroA], by simp [zeroA], fun x hx => by simp only [zeroA, List.mem_replicate] at hx; simp only [zeroA]; omega⟩
      have := Join_l1 n hn bs hb cs hc hm cs.length n 0 (zeroA bs) (by omega) hl z (by simp only [List.drop_zero]; show 0 + tot cs ≤ 8192; omega)
      simp only [List.drop_zero] at this
      exact this
  | succ k ih =>
    intro m i s hi hmm h0 hs ht
    obtain ⟨m, rfl, hmm⟩ := sucM hmm
    have hlt : i < cs.length := by omega
    have h1 : ((i : Int) < (cs.length : Int)) := by omega
    have h2 : (0 : Int) ≤ (i : Int) := by omega
    have ha := accMay_okA (hm _ (List.getElem_mem hlt))
    have a0 := ha.1.2.1
    have a1 := ha.2
    rw [dropLt hlt, tot_cons] at ht
    rw [acc_Join_l0_S]
    simp only [h1, h2, and_self, if_true, decide_true, cond_true, Int.toNat_natCast, getLt hlt, wrapS (i := i) (by omega)]
    rw [wrapOK (by omega) (by omega)]
    exact ih m (i + 1) _ (by omega) (by omega) (by omega) (by omega) (by omega)
theorem Join_eq (n : Nat) (hn : 20 ≤ n) (bs : List Int) (cs : List AC) (hc : cs.length ≤ 1073741824) (hl : cs.length < n) : acc_Join n bs cs = some (joinA bs cs) := by
  rw [acc_Join_S, allMay_eq n hn bs cs hc hl]
  unfold joinA
  cases h : allFrom bs (-1) cs with
  | false => simp [AC0, nl]
  | true =>
    simp only [Option.bind_some, Bool.not_true, cond_false, if_true]
    exact Join_l0 n hn bs (bnd8 (allFrom_bnd h)) cs hc (allFrom_mem h) hl cs.length n 0 0 (by omega) hl (by omega) (by omega) (by simp)

/-! copies -/
theorem Clone_int_eq (n : Nat) (xs : List Int) (h : xs.length ≤ 1073741824) : slices_Clone_int_int n xs = some xs := by
  unfold slices_Clone_int_int slices_Clone_int_int_n
  cases xs with
  | nil => rfl
  | cons x xs =>
    simp only [List.isEmpty_cons, cond_false, Bool.not_false, cond_true, List.length_replicate, Nat.zero_add]
    rw [if_pos (by simp only [List.length_cons] at h ⊢; omega)]; rfl
end Go.Proofs.YtohnakoineakdaaGreat
