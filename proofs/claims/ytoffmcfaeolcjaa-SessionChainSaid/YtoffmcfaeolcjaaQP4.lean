/- The plain law of session: May, one, put, Add. -/
import Derived.Test.YtoffmcfaeolcjaaQP3
import Derived.Test.YtoffmcfaeolcjaaQSessBp
namespace Go.Proofs.Ytoffmcfaeolcjaa
open Go Go.Ev
set_option linter.unusedVariables false
set_option linter.unusedSimpArgs false

/-! May -/
def gapMay (g : Int) : Bool := decide (1 ≤ g) && decide (g ≤ 1073741824)
theorem GapMay_eq (n : Nat) (g : Int) : session_GapMay n g = some (gapMay g) := by
  unfold session_GapMay gapMay
  cases h : decide (1 ≤ g) <;> simp [GE.ge, h]
def sesFrom (s0 : Int) (gap : Int) (bs : List Int) : Option Int → List SE → Bool
  | _, [] => true
  | p, s :: ss => accMay s.2.2 bs && (!(s.2.2.1 == 0) && (!(s.1 != s.2.2.2.2.2.2.1.2.1) && (!(s.2.1 != s.2.2.2.2.2.2.2.1.2.1) && (!(s.2.2.2.2.2.2.1.1 != s0) && ((match p with | none => true | some q => !decide (s.1 - q < gap)) && sesFrom s0 gap bs (some s.2.1) ss)))))
def sesMay (ss : List SE) (gap : Int) (bs : List Int) : Bool := gapMay gap && (boundsMay bs && sesFrom (ss.getD 0 SE0).2.2.2.2.2.2.1.1 gap bs none ss)
theorem ends_time {a : AC} {bs : List Int} (h : accMay a bs = true) (h0 : (a.1 == 0) = false) : endsMay a = true ∧ itemMay a.2.2.2.2.1 = true ∧ itemMay a.2.2.2.2.2.1 = true ∧ inV a.2.2.2.2.1.2.1 = true ∧ inV a.2.2.2.2.2.1.2.1 = true := by
  simp only [accMay, Bool.and_eq_true] at h
  have hz : ¬ a.1 = 0 := by simpa using h0
  have hr := h.2.2.2
  rw [if_neg hz] at hr
  simp only [accBody, Bool.and_eq_true] at hr
  have he := hr.2.2.2.1
  have he' := he
  simp only [endsMay, endMay, Bool.and_eq_true] at he'
  have i1 := he'.1.1
  have i2 := he'.2.1.1
  refine ⟨he, i1, i2, ?_, ?_⟩
  · simp only [itemMay, Bool.and_eq_true] at i1; exact i1.2.2.1
  · simp only [itemMay, Bool.and_eq_true] at i2; exact i2.2.2.1
theorem sMay_l0 (n : Nat) (hn : 20 ≤ n) (ss : List SE) (gap : Int) (bs : List Int) (hs : ss.length ≤ 1073741824) : ∀ (k m i : Nat), i + k = ss.length → k < m → (i = 0 ∨ inV (ss.getD (i - 1) SE0).2.1 = true) →
    session_May_l0 n c63.F c64.F c65.F ss gap bs m (i : Int) = some (sesFrom (ss.getD 0 SE0).2.2.2.2.2.2.1.1 gap bs (if i = 0 then none else some (ss.getD (i - 1) SE0).2.1) (ss.drop i)) := by
  intro k
  induction k with
  | zero =>
    intro m i hi hm hp
    obtain ⟨m, rfl, hm⟩ := sucM hm
    have : ss.drop i = [] := List.drop_eq_nil_of_le (by omega)
    have h1 : ¬ ((i : Int) < (ss.length : Int)) := by omega
    rw [session_May_l0_S]
    simp [this, h1, sesFrom]
  | succ k ih =>
    intro m i hi hm hp
    obtain ⟨m, rfl, hm⟩ := sucM hm
    have hlt : i < ss.length := by omega
    have h1 : ((i : Int) < (ss.length : Int)) := by omega
    have h2 : (0 : Int) ≤ (i : Int) := by omega
    have h3 : (0 : Int) < (ss.length : Int) := by omega
    have e1 : ss.getD (i + 1 - 1) SE0 = ss[i] := by simp [List.getD, hlt]
    have z0 : Int.toNat 0 = 0 := rfl
    have hd : ∀ j, ss.getD j ((0 : Int), (0 : Int), (0 : Int), (0 : Int), (0 : Int), (0 : Int), ((0 : Int), (0 : Int), (0 : Int), (0 : Int)), ((0 : Int), (0 : Int), (0 : Int), (0 : Int)), Go.Ev.nl Int) = ss.getD j SE0 := fun _ => rfl
    rw [session_May_l0_S, dropLt hlt]
    simp only [h1, h2, h3, z0, Int.le_refl, and_self, if_true, decide_true, cond_true, Int.toNat_natCast, hd, wrapS (i := i) (by omega), May_eq n hn, Option.bind_some, sesFrom, GT.gt]
    simp only [getLt hlt]
    cases hM : accMay ss[i].2.2 bs with
    | false => rfl
    | true =>
      cases hz : (ss[i].2.2.1 == 0) with
      | true => rfl
      | false =>
        cases hF : (ss[i].1 != ss[i].2.2.2.2.2.2.1.2.1) with
        | true => rfl
        | false =>
          cases hL : (ss[i].2.1 != ss[i].2.2.2.2.2.2.2.1.2.1) with
          | true => rfl
          | false =>
            have et := ends_time hM hz
            have eF : ss[i].1 = ss[i].2.2.2.2.2.2.1.2.1 := by simpa using hF
            have eL : ss[i].2.1 = ss[i].2.2.2.2.2.2.2.1.2.1 := by simpa using hL
            have ih' := ih m (i + 1) (by omega) (by omega) (Or.inr (by rw [e1, eL]; exact et.2.2.2.2))
            rw [if_neg (by omega : ¬ i + 1 = 0), e1] at ih'
            rw [ih']
            cases hS : (ss[i].2.2.2.2.2.2.1.1 != (ss.getD 0 SE0).2.2.2.2.2.2.1.1) with
            | true => rfl
            | false =>
              by_cases h0 : i = 0
              · subst h0
                simp
              · have hp' := hp.resolve_left h0
                have gp : (0 : Int) < (i : Int) := by omega
                have gq : (0 : Int) ≤ ((i - 1 : Nat) : Int) ∧ ((i - 1 : Nat) : Int) < (ss.length : Int) := by omega
                have b1 := et.2.2.2.1
                rw [← eF] at b1
                simp only [inV, decide_eq_true_eq] at b1 hp'
                simp only [gp, gq, decide_true, cond_true, wrapP (i := i) (by omega) (by omega), and_self, if_true, Int.toNat_natCast, if_neg h0, Bool.not_true, Bool.not_false, cond_false, Bool.true_and]
                rw [wrapOK (by omega) (by omega)]
                cases decide (ss[i].1 - (ss.getD (i - 1) SE0).2.1 < gap) <;> rfl
theorem sMay_eq (n : Nat) (hn : 20 ≤ n) (ss : List SE) (gap : Int) (bs : List Int) (hs : ss.length ≤ 1073741824) (hm : ss.length < n) : session_May n ss gap bs = some (sesMay ss gap bs) := by
  have := sMay_l0 n hn ss gap bs hs ss.length n 0 (by omega) hm (Or.inl rfl)
  rw [session_May_S, GapMay_eq, BoundsMay_eq n (by omega)]
  unfold sesMay
  cases gapMay gap with
  | false => rfl
  | true =>
    cases boundsMay bs with
    | false => rfl
    | true => simpa using this

/-! one -/
def oneFrom : Int → List IT → Bool
  | _, [] => true
  | f, x :: xs => itemMay x && (!(decide (0 ≤ f) && x.1 != f) && oneFrom x.1 xs)
def sesOne (ss : List SE) (xs : List IT) : Bool := oneFrom (match ss with | [] => -1 | s :: _ => s.2.2.2.2.2.2.1.1) xs
theorem one_l1 (n : Nat) (xs : List IT) (hs : xs.length ≤ 1073741824) : ∀ (k m i : Nat) (f : Int), i + k = xs.length → k < m → session_one_l1 n c70.F xs m f (i : Int) = some (oneFrom f (xs.drop i)) := by
  intro k
  induction k with
  | zero =>
    intro m i f hi hm
    obtain ⟨m, rfl, hm⟩ := sucM hm
    have : xs.drop i = [] := List.drop_eq_nil_of_le (by omega)
    have h1 : ¬ ((i : Int) < (xs.length : Int)) := by omega
    rw [session_one_l1_S]
    simp [this, h1, oneFrom]
  | succ k ih =>
    intro m i f hi hm
    obtain ⟨m, rfl, hm⟩ := sucM hm
    have hlt : i < xs.length := by omega
    have h1 : ((i : Int) < (xs.length : Int)) := by omega
    have h2 : (0 : Int) ≤ (i : Int) := by omega
    rw [session_one_l1_S, dropLt hlt]
    simp only [h1, h2, and_self, if_true, decide_true, cond_true, Int.toNat_natCast, getLt hlt, wrapS (i := i) (by omega), ih m (i + 1) _ (by omega) (by omega), ItemMay_eq, Option.bind_some, oneFrom, GE.ge]
    cases itemMay xs[i] with
    | false => rfl
    | true =>
      cases decide (0 ≤ f) with
      | false => rfl
      | true => cases xs[i].1 != f <;> rfl
theorem sOne_eq (n : Nat) (ss : List SE) (xs : List IT) (hs : xs.length ≤ 1073741824) (hm : xs.length < n) : session_one n ss xs = some (sesOne ss xs) := by
  have := fun f => one_l1 n xs hs xs.length n 0 f (by omega) hm
  simp only [List.drop_zero, Int.cast_ofNat_Int] at this
  rw [session_one_S]
  cases ss with
  | nil => simpa [session_one_j0_S, sesOne] using this (-1)
  | cons s ss =>
    have e : (decide (((s :: ss).length : Int) > 0)) = true := by simp
    rw [e]
    have e2 : (0 : Int) ≤ 0 ∧ (0 : Int) < ((s :: ss).length : Int) := by simp
    simp only [cond_true, if_pos e2, session_one_j0_S]
    exact this _

/-! put -/
def behind (t gap : Int) (s : SE) : Bool := decide (s.2.1 > t - gap)
theorem idx_l0 (n : Nat) (ss : List SE) (x : IT) (gap : Int) (hs : ss.length ≤ 1073741824) (hx : inV x.2.1 = true) (hg : gapMay gap = true) : ∀ (k m i : Nat), i + k = ss.length → k < m →
    slices_IndexFunc_api_Session_l0 n c72.F ss (x, gap, ()) m (i : Int) = some (if (ss.drop i).findIdx (behind x.2.1 gap) < k then ((i + (ss.drop i).findIdx (behind x.2.1 gap) : Nat) : Int) else -1) := by
  have w : Go.IntKind.i64.wrap (x.2.1 - gap) = x.2.1 - gap := by
    simp only [inV, gapMay, Bool.and_eq_true, decide_eq_true_eq] at hx hg
    exact wrapOK (by omega) (by omega)
  intro k
  induction k with
  | zero =>
    intro m i hi hm
    obtain ⟨m, rfl, hm⟩ := sucM hm
    have h1 : ¬ ((i : Int) < (ss.length : Int)) := by omega
    rw [slices_IndexFunc_api_Session_l0_S]
    simp [h1]
  | succ k ih =>
    intro m i hi hm
    obtain ⟨m, rfl, hm⟩ := sucM hm
    have hlt : i < ss.length := by omega
    have h1 : ((i : Int) < (ss.length : Int)) := by omega
    have h2 : (0 : Int) ≤ (i : Int) := by omega
    rw [slices_IndexFunc_api_Session_l0_S, dropLt hlt]
    simp only [h1, h2, and_self, if_true, decide_true, cond_true, Int.toNat_natCast, getLt hlt, wrapS (i := i) (by omega), ih m (i + 1) (by omega) (by omega), session_put_1, w, Option.bind_some, List.findIdx_cons, behind]
    by_cases h : ss[i].2.1 > x.2.1 - gap
    · simp [h]
    · have hd : decide (ss[i].2.1 > x.2.1 - gap) = false := decide_eq_false h
      simp only [hd, cond_false]
      by_cases g : List.findIdx (behind x.2.1 gap) (List.drop (i + 1) ss) < k
      · rw [if_pos g, if_pos (by omega)]
        congr 2; omega
      · rw [if_neg g, if_neg (by omega)]
theorem idx_eq (n : Nat) (ss : List SE) (x : IT) (gap : Int) (hs : ss.length ≤ 1073741824) (hx : inV x.2.1 = true) (hg : gapMay gap = true) (hm : ss.length < n) :
    slices_IndexFunc_api_Session n ss (x, gap, ()) = some (if ss.findIdx (behind x.2.1 gap) < ss.length then (ss.findIdx (behind x.2.1 gap) : Int) else -1) := by
  have := idx_l0 n ss x gap hs hx hg ss.length n 0 (by omega) hm
  have e : ss.drop 0 = ss := rfl
  rw [e, Nat.zero_add] at this
  rw [slices_IndexFunc_api_Session_S]
  exact this
def ahead (t gap : Int) (s : SE) : Bool := decide (s.1 < t + gap)
def putA (ss : List SE) (gap : Int) (bs : List Int) (x : IT) : List SE × Int :=
  let i := ss.findIdx (behind x.2.1 gap)
  let mid := (ss.drop i).takeWhile (ahead x.2.1 gap)
  let r := joinA bs (mid.map (fun s => s.2.2) ++ [if itemMay x = true ∧ boundsMay bs = true then oneA x bs else AC0])
  if r.2 ≠ 0 then ([], r.2) else (ss.take i ++ [(r.1.2.2.2.2.1.2.1, r.1.2.2.2.2.2.1.2.1, r.1)] ++ (ss.drop i).dropWhile (ahead x.2.1 gap), 0)
theorem put_l1 (n : Nat) (hn : 20 ≤ n) (ss : List SE) (x : IT) (gap : Int) (bs : List Int) (from_ : Nat) (hs : ss.length < 1000000000) (hx : inV x.2.1 = true) (hg : gapMay gap = true) (hl : ss.length + 1 < n) : ∀ (k m i : Nat) (cs : List AC), i + k = ss.length → k < m → from_ ≤ i → cs.length + from_ = i →
    session_put_l1 n c72.F c71.F c73.F c74.F c75.F ss gap bs x (from_ : Int) m (i : Int) cs = some (
      let mid := (ss.drop i).takeWhile (ahead x.2.1 gap)
      let r := joinA bs (cs ++ mid.map (fun s => s.2.2) ++ [if itemMay x = true ∧ boundsMay bs = true then oneA x bs else AC0])
      if r.2 ≠ 0 then ([], r.2) else (ss.take from_ ++ [(r.1.2.2.2.2.1.2.1, r.1.2.2.2.2.2.1.2.1, r.1)] ++ (ss.drop i).dropWhile (ahead x.2.1 gap), 0)) := by
  have w : Go.IntKind.i64.wrap (x.2.1 + gap) = x.2.1 + gap := by
    simp only [inV, gapMay, Bool.and_eq_true, decide_eq_true_eq] at hx hg
    exact wrapOK (by omega) (by omega)
  have tail : ∀ (i : Nat) (cs : List AC), from_ ≤ i → i ≤ ss.length → cs.length + from_ = i → ∀ (r1 : AC × Int), r1.1 = (if itemMay x = true ∧ boundsMay bs = true then oneA x bs else AC0) →
      (if (cs.length + ((List.replicate 1 ((0 : Int), (0 : Int), (0 : Int), (0 : Int), ((0 : Int), (0 : Int), (0 : Int), (0 : Int)), ((0 : Int), (0 : Int), (0 : Int), (0 : Int)), Go.Ev.nl Int)).set 0 r1.fst).length) * 120 ≤ 140737488355328 ∧ 0 < 120 then
        Option.bind (α := AC × Int) (acc_Join n bs (cs ++ (List.replicate 1 ((0 : Int), (0 : Int), (0 : Int), (0 : Int), ((0 : Int), (0 : Int), (0 : Int), (0 : Int)), ((0 : Int), (0 : Int), (0 : Int), (0 : Int)), Go.Ev.nl Int)).set 0 r1.fst)) fun r2 => bif r2.snd != 0 then some (Go.Ev.nl SE, r2.snd) else
          Option.bind (α := List SE) (slices_Replace_api_Session n ss (from_ : Int) (i : Int) ((List.replicate 1 ((0 : Int), (0 : Int), (0 : Int), (0 : Int), (0 : Int), (0 : Int), ((0 : Int), (0 : Int), (0 : Int), (0 : Int)), ((0 : Int), (0 : Int), (0 : Int), (0 : Int)), Go.Ev.nl Int)).set 0 (r2.fst.snd.snd.snd.snd.fst.snd.fst, r2.fst.snd.snd.snd.snd.snd.fst.snd.fst, r2.fst))) fun r3 => some (r3, 0) else none) =
      some (let r := joinA bs (cs ++ [if itemMay x = true ∧ boundsMay bs = true then oneA x bs else AC0])
        if r.2 ≠ 0 then ([], r.2) else (ss.take from_ ++ [(r.1.2.2.2.2.1.2.1, r.1.2.2.2.2.2.1.2.1, r.1)] ++ ss.drop i, 0)) := by
    intro i cs h1 h2 h3 r1 hr
    have e1 (v : AC) : (List.replicate 1 ((0 : Int), (0 : Int), (0 : Int), (0 : Int), ((0 : Int), (0 : Int), (0 : Int), (0 : Int)), ((0 : Int), (0 : Int), (0 : Int), (0 : Int)), Go.Ev.nl Int)).set 0 v = [v] := rfl
    have e2 (v : SE) : (List.replicate 1 ((0 : Int), (0 : Int), (0 : Int), (0 : Int), (0 : Int), (0 : Int), ((0 : Int), (0 : Int), (0 : Int), (0 : Int)), ((0 : Int), (0 : Int), (0 : Int), (0 : Int)), Go.Ev.nl Int)).set 0 v = [v] := rfl
    rw [hr]
    simp only [e1, e2]
    have hlen : (cs ++ [if itemMay x = true ∧ boundsMay bs = true then oneA x bs else AC0]).length = cs.length + 1 := by simp
    rw [if_pos (by simp only [List.length_cons, List.length_nil]; omega), Join_eq n hn bs _ (by omega) (by omega)]
    simp only [Option.bind_some]
    generalize joinA bs (cs ++ [if itemMay x = true ∧ boundsMay bs = true then oneA x bs else AC0]) = r
    by_cases h : r.2 = 0
    · have e : (r.2 != 0) = false := by simp [h]
      rw [e]
      simp only [cond_false, slices_Replace_api_Session, repF, Int.toNat_natCast]
      rw [if_pos (by omega)]
      simp [h]
    · have e : (r.2 != 0) = true := by simp [h]
      rw [e]
      simp [h, nl]
  have one : acc_One n x bs = some (if itemMay x = true ∧ boundsMay bs = true then (oneA x bs, 0) else (AC0, 100)) := One_eq n hn x bs
  have one1 : (if itemMay x = true ∧ boundsMay bs = true then (oneA x bs, (0 : Int)) else (AC0, 100)).1 = (if itemMay x = true ∧ boundsMay bs = true then oneA x bs else AC0) := by split <;> rfl
  intro k
  induction k with
  | zero =>
    intro m i cs hi hm hf hc
    obtain ⟨m, rfl, hm⟩ := sucM hm
    have e0 : ss.drop i = [] := List.drop_eq_nil_of_le (by omega)
    have h1 : ¬ ((i : Int) < (ss.length : Int)) := by omega
    rw [session_put_l1_S]
    simp only [h1, decide_false, cond_false, one, Option.bind_some]
    have t := tail i cs hf (by omega) hc _ one1
    rw [e0] at t ⊢
    simp only [List.takeWhile_nil, List.dropWhile_nil, List.map_nil, List.append_nil] at t ⊢
    exact t
  | succ k ih =>
    intro m i cs hi hm hf hc
    obtain ⟨m, rfl, hm⟩ := sucM hm
    have hlt : i < ss.length := by omega
    have h1 : ((i : Int) < (ss.length : Int)) := by omega
    have h2 : (0 : Int) ≤ (i : Int) := by omega
    rw [session_put_l1_S]
    simp only [h1, h2, and_self, if_true, decide_true, cond_true, Int.toNat_natCast, getLt hlt, wrapS (i := i) (by omega), w, one, Option.bind_some]
    by_cases h : ss[i].1 < x.2.1 + gap
    · have e1 (v : AC) : (List.replicate 1 ((0 : Int), (0 : Int), (0 : Int), (0 : Int), ((0 : Int), (0 : Int), (0 : Int), (0 : Int)), ((0 : Int), (0 : Int), (0 : Int), (0 : Int)), Go.Ev.nl Int)).set 0 v = [v] := rfl
      have hd : decide (ss[i].1 < x.2.1 + gap) = true := decide_eq_true h
      simp only [hd, cond_true, e1]
      rw [if_pos (by simp only [List.length_cons, List.length_nil]; omega), ih m (i + 1) _ (by omega) (by omega) (by omega) (by simp only [List.length_append, List.length_cons, List.length_nil]; omega)]
      rw [dropLt hlt]
      have ha : ahead x.2.1 gap ss[i] = true := hd
      simp only [List.takeWhile_cons, List.dropWhile_cons, ha, if_true, List.map_cons, List.append_assoc, List.cons_append, List.nil_append]
    · have hd : decide (ss[i].1 < x.2.1 + gap) = false := decide_eq_false h
      have ha : ahead x.2.1 gap ss[i] = false := hd
      have t := tail i cs hf (by omega) hc _ one1
      have e0 : List.takeWhile (ahead x.2.1 gap) (ss.drop i) = [] := by rw [dropLt hlt, List.takeWhile_cons, ha]; rfl
      have e2 : List.dropWhile (ahead x.2.1 gap) (ss.drop i) = ss.drop i := by rw [dropLt hlt, List.dropWhile_cons, ha]; rfl
      simp only [hd, cond_false, e0, e2, List.map_nil, List.append_nil]
      exact t
theorem put_eq (n : Nat) (hn : 20 ≤ n) (ss : List SE) (x : IT) (gap : Int) (bs : List Int) (hs : ss.length < 1000000000) (hx : inV x.2.1 = true) (hg : gapMay gap = true) (hl : ss.length + 1 < n) : session_put n ss gap bs x = some (putA ss gap bs x) := by
  rw [session_put_S, idx_eq n ss x gap (by omega) hx hg (by omega)]
  have L := fun (f : Nat) (hf : f ≤ ss.length) => put_l1 n hn ss x gap bs f hs hx hg hl (ss.length - f) n f [] (by omega) (by omega) (Nat.le_refl f) (by simp)
  have hle : ss.findIdx (behind x.2.1 gap) ≤ ss.length := List.findIdx_le_length
  have fin : (bif decide ((if ss.findIdx (behind x.2.1 gap) < ss.length then (ss.findIdx (behind x.2.1 gap) : Int) else -1) < 0) then session_put_l1 n c72.F c71.F c73.F c74.F c75.F ss gap bs x (ss.length : Int) n (ss.length : Int) [] else session_put_l1 n c72.F c71.F c73.F c74.F c75.F ss gap bs x (if ss.findIdx (behind x.2.1 gap) < ss.length then (ss.findIdx (behind x.2.1 gap) : Int) else -1) n (if ss.findIdx (behind x.2.1 gap) < ss.length then (ss.findIdx (behind x.2.1 gap) : Int) else -1) []) = some (putA ss gap bs x) := by
    by_cases h : ss.findIdx (behind x.2.1 gap) < ss.length
    · have h0 : ¬ ((ss.findIdx (behind x.2.1 gap) : Int) < 0) := by omega
      rw [if_pos h]
      simp only [h0, decide_false, cond_false]
      rw [L _ hle]
      simp only [putA, List.nil_append]
    · have h0 : ss.findIdx (behind x.2.1 gap) = ss.length := by omega
      rw [if_neg h]
      simp only [show ((-1 : Int) < 0) = True from by simp, decide_true, cond_true]
      rw [L ss.length (Nat.le_refl _)]
      simp only [putA, List.nil_append, h0]
  exact fin

/-! Add -/
def putAll (gap : Int) (bs : List Int) : List SE → List IT → List SE × Int
  | ss, [] => (ss, 0)
  | ss, x :: xs => let r := putA ss gap bs x; if r.2 ≠ 0 then ([], r.2) else putAll gap bs r.1 xs
def addS (ss : List SE) (gap : Int) (bs : List Int) (xs : List IT) : List SE × Int := if sesMay ss gap bs = true ∧ sesOne ss xs = true then putAll gap bs ss xs else ([], 600)
theorem findIdx_take {α : Type} (p : α → Bool) (xs : List α) : xs.findIdx p ≤ xs.length := List.findIdx_le_length
theorem putA_len (ss : List SE) (gap : Int) (bs : List Int) (x : IT) : (putA ss gap bs x).1.length ≤ ss.length + 1 := by
  unfold putA
  simp only
  generalize joinA bs _ = r
  by_cases h : r.2 = 0
  · have := (List.dropWhile_sublist (ahead x.2.1 gap) (l := ss.drop (ss.findIdx (behind x.2.1 gap)))).length_le
    rw [if_neg (by simp [h])]
    simp only [List.length_append, List.length_take, List.length_cons, List.length_nil, List.length_drop] at this ⊢
    omega
  · rw [if_pos h]; simp
theorem Add_l1 (n : Nat) (hn : 20 ≤ n) (gap : Int) (bs : List Int) (xs : List IT) (hg : gapMay gap = true) (hx : ∀ x ∈ xs, inV x.2.1 = true) : ∀ (k m i : Nat) (ss : List SE), i + k = xs.length → k < m → ss.length + k < 1000000000 → xs.length < 1000000000 → ss.length + k + 1 < n →
    session_Add_l1 n c41.F c55.F c56.F c57.F c58.F gap bs xs m (i : Int) ss = some (putAll gap bs ss (xs.drop i)) := by
  intro k
  induction k with
  | zero =>
    intro m i ss hi hm hs hxs hl
    obtain ⟨m, rfl, hm⟩ := sucM hm
    have : xs.drop i = [] := List.drop_eq_nil_of_le (by omega)
    have h1 : ¬ ((i : Int) < (xs.length : Int)) := by omega
    rw [session_Add_l1_S]
    simp [this, h1, putAll]
  | succ k ih =>
    intro m i ss hi hm hs hxs hl
    obtain ⟨m, rfl, hm⟩ := sucM hm
    have hlt : i < xs.length := by omega
    have h1 : ((i : Int) < (xs.length : Int)) := by omega
    have h2 : (0 : Int) ≤ (i : Int) := by omega
    rw [session_Add_l1_S, dropLt hlt]
    have pl := putA_len ss gap bs xs[i]
    simp only [h1, h2, and_self, if_true, decide_true, cond_true, Int.toNat_natCast, getLt hlt, wrapS (i := i) (by omega), put_eq n hn ss xs[i] gap bs (by omega) (hx _ (List.getElem_mem hlt)) hg (by omega), Option.bind_some, putAll]
    by_cases h : (putA ss gap bs xs[i]).2 = 0
    · have e : ((putA ss gap bs xs[i]).2 != 0) = false := by simp [h]
      rw [e]
      simp only [cond_false]
      rw [if_neg (by simp [h])]
      exact ih m (i + 1) _ (by omega) (by omega) (by omega) hxs (by omega)
    · have e : ((putA ss gap bs xs[i]).2 != 0) = true := by simp [h]
      rw [e]
      simp [h, nl]
theorem setSame {ss : List SE} {i : Nat} (h : i < ss.length) : ss.set i (ss[i].1, ss[i].2.1, ss[i].2.2) = ss := List.set_getElem_self h
theorem Add_l0 (n : Nat) (hn : 20 ≤ n) (gap : Int) (bs : List Int) (xs : List IT) (ss : List SE) (hh : ∀ s ∈ ss, s.2.2.2.2.2.2.2.2.length ≤ 1073741824) (hs : ss.length < 1000000000) : ∀ (k m i : Nat), i + k = ss.length → k < m →
    session_Add_l0 n c41.F c55.F c56.F c57.F c58.F gap bs xs ss m (i : Int) ss = session_Add_l1 n c41.F c55.F c56.F c57.F c58.F gap bs xs n 0 ss := by
  intro k
  induction k with
  | zero =>
    intro m i hi hm
    obtain ⟨m, rfl, hm⟩ := sucM hm
    have h1 : ¬ ((i : Int) < (ss.length : Int)) := by omega
    rw [session_Add_l0_S]
    simp [h1]
  | succ k ih =>
    intro m i hi hm
    obtain ⟨m, rfl, hm⟩ := sucM hm
    have hlt : i < ss.length := by omega
    have h1 : ((i : Int) < (ss.length : Int)) := by omega
    have h2 : (0 : Int) ≤ (i : Int) := by omega
    rw [session_Add_l0_S]
    simp only [h1, h2, and_self, if_true, decide_true, cond_true, Int.toNat_natCast, getLt hlt, wrapS (i := i) (by omega), Copy_eq n _ (hh _ (List.getElem_mem hlt)), Option.bind_some, setSame hlt]
    exact ih m (i + 1) (by omega) (by omega)
theorem sesFrom_mem {s0 gap : Int} {bs : List Int} : ∀ {ss : List SE} {p : Option Int}, sesFrom s0 gap bs p ss = true → ∀ s ∈ ss, accMay s.2.2 bs = true
  | [], _, _, _, h => by simp at h
  | a :: ss, p, h, b, hb => by
    simp only [sesFrom, Bool.and_eq_true] at h
    rcases List.mem_cons.1 hb with rfl | hb
    · exact h.1
    · exact sesFrom_mem h.2.2.2.2.2.2 b hb
theorem oneFrom_mem : ∀ {xs : List IT} {f : Int}, oneFrom f xs = true → ∀ x ∈ xs, itemMay x = true
  | [], _, _, _, h => by simp at h
  | a :: ss, p, h, b, hb => by
    simp only [oneFrom, Bool.and_eq_true] at h
    rcases List.mem_cons.1 hb with rfl | hb
    · exact h.1
    · exact oneFrom_mem h.2.2 b hb
theorem itemMay_time {x : IT} (h : itemMay x = true) : inV x.2.1 = true := by simp only [itemMay, Bool.and_eq_true] at h; exact h.2.2.1
theorem Add_eq (n : Nat) (hn : 20 ≤ n) (ss : List SE) (gap : Int) (bs : List Int) (xs : List IT) (hs : ss.length + xs.length < 1000000000) (hl : ss.length + xs.length + 1 < n) : session_Add n ss gap bs xs = some (addS ss gap bs xs) := by
  rw [session_Add_S, sMay_eq n hn ss gap bs (by omega) (by omega), sOne_eq n ss xs (by omega) (by omega)]
  unfold addS
  cases hM : sesMay ss gap bs with
  | false => simp [nl]
  | true =>
    cases hO : sesOne ss xs with
    | false => simp [nl]
    | true =>
      simp only [Option.bind_some, Bool.not_true, cond_false, Clone_ses_eq n ss (by omega), and_self, if_true]
      simp only [sesMay, Bool.and_eq_true] at hM
      have hh : ∀ s ∈ ss, s.2.2.2.2.2.2.2.2.length ≤ 1073741824 := fun s h => by
        have := (accMay_okA (sesFrom_mem hM.2.2 s h)).1.1
        have h8 := bnd8 hM.2.1
        omega
      have h0 := Add_l0 n hn gap bs xs ss hh (by omega) ss.length n 0 (by omega) (by omega)
      have h1 := Add_l1 n hn gap bs xs hM.1 (fun x h => itemMay_time (oneFrom_mem hO x h)) xs.length n 0 ss (by omega) (by omega) (by omega) (by omega) (by omega)
      simp only [Int.cast_ofNat_Int, List.drop_zero] at h0 h1
      rw [h0, h1]
end Go.Proofs.Ytoffmcfaeolcjaa
