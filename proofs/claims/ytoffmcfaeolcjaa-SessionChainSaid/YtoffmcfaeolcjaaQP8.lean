/- What the laws of sessions need: masks, sameness, copies, rows out of parts. -/
import Derived.Test.YtoffmcfaeolcjaaQP7
import Derived.Test.YtoffmcfaeolcjaaQSessDp
namespace Go.Proofs.Ytoffmcfaeolcjaa
open Go Go.Ev
set_option linter.unusedVariables false
set_option linter.unusedSimpArgs false

theorem maskP (a : Int) (k : Nat) (hk : k ≤ 62) (m : Int) (hm : m = 2 ^ k - 1) : Go.IntKind.i64.wrap (((BitVec.ofInt Go.IntKind.i64.bits a &&& BitVec.ofInt Go.IntKind.i64.bits m).toNat : Nat) : Int) = ((((a % 18446744073709551616).toNat) % 2 ^ k : Nat) : Int) := by
  have hb : Go.IntKind.i64.bits = 64 := rfl
  have p0 : (2 : Nat) ^ k ≤ 2 ^ 62 := Nat.pow_le_pow_right (by decide) hk
  have p1 : 0 < (2 : Nat) ^ k := Nat.pow_pos (by decide)
  have pc : ((2 : Int) ^ k) = (((2 : Nat) ^ k : Nat) : Int) := by simp
  have e : (BitVec.ofInt Go.IntKind.i64.bits a &&& BitVec.ofInt Go.IntKind.i64.bits m).toNat = (a % 18446744073709551616).toNat % 2 ^ k := by
    rw [BitVec.toNat_and, BitVec.toNat_ofInt, BitVec.toNat_ofInt, hb]
    have e1 : (m % ((2 ^ 64 : Nat) : Int)).toNat = 2 ^ k - 1 := by rw [hm, pc]; omega
    rw [e1, Nat.and_two_pow_sub_one_eq_mod]
    rfl
  rw [e]
  have := Nat.mod_lt (a % 18446744073709551616).toNat p1
  exact wrapOK (by omega) (by omega)
theorem mask15 (a : Int) : Go.IntKind.i64.wrap (((BitVec.ofInt Go.IntKind.i64.bits a &&& BitVec.ofInt Go.IntKind.i64.bits 15).toNat : Nat) : Int) = a % 16 := by
  rw [maskP a 4 (by decide) 15 rfl]; omega
theorem mask31 (a : Int) : Go.IntKind.i64.wrap (((BitVec.ofInt Go.IntKind.i64.bits a &&& BitVec.ofInt Go.IntKind.i64.bits 31).toNat : Nat) : Int) = a % 32 := by
  rw [maskP a 5 (by decide) 31 rfl]; omega
theorem mask63 (a : Int) : Go.IntKind.i64.wrap (((BitVec.ofInt Go.IntKind.i64.bits a &&& BitVec.ofInt Go.IntKind.i64.bits 63).toNat : Nat) : Int) = a % 64 := by
  rw [maskP a 6 (by decide) 63 rfl]; omega
theorem mask127 (a : Int) : Go.IntKind.i64.wrap (((BitVec.ofInt Go.IntKind.i64.bits a &&& BitVec.ofInt Go.IntKind.i64.bits 127).toNat : Nat) : Int) = a % 128 := by
  rw [maskP a 7 (by decide) 127 rfl]; omega
theorem mask1023 (a : Int) : Go.IntKind.i64.wrap (((BitVec.ofInt Go.IntKind.i64.bits a &&& BitVec.ofInt Go.IntKind.i64.bits 1023).toNat : Nat) : Int) = a % 1024 := by
  rw [maskP a 10 (by decide) 1023 rfl]; omega
theorem awake_eq (n : Nat) : c45.F n PUnit.unit = some true := rfl

/-! sameness -/
theorem SameInts_refl (n : Nat) (xs : List Int) (h : xs.length ≤ 1073741824) (hn : xs.length < n) : bournelaw0_SameInts n xs xs = some true := by
  have L : ∀ (k m i : Nat), i + k = xs.length → k < m → bournelaw0_SameInts_l0 n xs xs m (i : Int) = some true := by
    intro k
    induction k with
    | zero =>
      intro m i hi hm
      obtain ⟨m, rfl, hm⟩ := sucM hm
      have h1 : ¬ ((i : Int) < (xs.length : Int)) := by omega
      rw [bournelaw0_SameInts_l0_S]
      simp [h1]
    | succ k ih =>
      intro m i hi hm
      obtain ⟨m, rfl, hm⟩ := sucM hm
      have h1 : ((i : Int) < (xs.length : Int)) := by omega
      have h2 : (0 : Int) ≤ (i : Int) := by omega
      rw [bournelaw0_SameInts_l0_S]
      simp only [h1, h2, and_self, if_true, decide_true, cond_true, bne_self_eq_false, cond_false, wrapS (i := i) (by omega), ih m (i + 1) (by omega) (by omega)]
  rw [bournelaw0_SameInts_S]
  simp only [bne_self_eq_false, cond_false]
  exact L xs.length n 0 (by omega) hn
theorem SameAcc_refl (n : Nat) (a : AC) (h : a.2.2.2.2.2.2.length ≤ 1073741824) (hn : a.2.2.2.2.2.2.length < n) : bournelaw0_SameAcc n a a = some true := by
  rw [bournelaw0_SameAcc_S]
  simp only [beq_self_eq_true, Bool.and_self, cond_true, SameInts_refl n _ h hn, Option.bind_some]
theorem SameSes_refl (n : Nat) (xs : List SE) (h : xs.length ≤ 1073741824) (hn : xs.length < n) (ha : ∀ s ∈ xs, s.2.2.2.2.2.2.2.2.length ≤ 10) (hn2 : 20 ≤ n) : bournelaw0_SameSessions n xs xs = some true := by
  have L : ∀ (k m i : Nat), i + k = xs.length → k < m → bournelaw0_SameSessions_l0 n c62.F xs xs m (i : Int) = some true := by
    intro k
    induction k with
    | zero =>
      intro m i hi hm
      obtain ⟨m, rfl, hm⟩ := sucM hm
      have h1 : ¬ ((i : Int) < (xs.length : Int)) := by omega
      rw [bournelaw0_SameSessions_l0_S]
      simp [h1]
    | succ k ih =>
      intro m i hi hm
      obtain ⟨m, rfl, hm⟩ := sucM hm
      have hlt : i < xs.length := by omega
      have h1 : ((i : Int) < (xs.length : Int)) := by omega
      have h2 : (0 : Int) ≤ (i : Int) := by omega
      have h3 := ha _ (List.getElem_mem hlt)
      rw [bournelaw0_SameSessions_l0_S]
      simp only [h1, h2, and_self, if_true, decide_true, cond_true, bne_self_eq_false, cond_false, Int.toNat_natCast, getLt hlt, SameAcc_refl n xs[i].2.2 (by omega) (by omega), Option.bind_some, Bool.not_true, wrapS (i := i) (by omega), ih m (i + 1) (by omega) (by omega)]
  rw [bournelaw0_SameSessions_S]
  simp only [bne_self_eq_false, cond_false]
  exact L xs.length n 0 (by omega) hn
theorem CopyAcc_eq (n : Nat) (a : AC) (h : a.2.2.2.2.2.2.length ≤ 1073741824) : bournelaw0_CopyAcc n a = some a := by
  unfold bournelaw0_CopyAcc
  simp only [List.length_replicate, Nat.zero_add]
  rw [if_pos (by omega)]; rfl
theorem CopySes_eq (n : Nat) (xs : List SE) (h : xs.length ≤ 1000000) (hn : xs.length < n) (ha : ∀ s ∈ xs, s.2.2.2.2.2.2.2.2.length ≤ 10) : bournelaw0_CopySessions n xs = some xs := by
  have L : ∀ (k m i : Nat), i + k = xs.length → k < m → bournelaw0_CopySessions_l0 n c52.F xs m (i : Int) (xs.take i) = some xs := by
    intro k
    induction k with
    | zero =>
      intro m i hi hm
      obtain ⟨m, rfl, hm⟩ := sucM hm
      have h1 : ¬ ((i : Int) < (xs.length : Int)) := by omega
      have e : xs.take i = xs := List.take_of_length_le (by omega)
      rw [bournelaw0_CopySessions_l0_S]
      simp [h1, e]
    | succ k ih =>
      intro m i hi hm
      obtain ⟨m, rfl, hm⟩ := sucM hm
      have hlt : i < xs.length := by omega
      have h1 : ((i : Int) < (xs.length : Int)) := by omega
      have h2 : (0 : Int) ≤ (i : Int) := by omega
      have h3 := ha _ (List.getElem_mem hlt)
      have e2 (v : SE) : (List.replicate 1 ((0 : Int), (0 : Int), (0 : Int), (0 : Int), (0 : Int), (0 : Int), ((0 : Int), (0 : Int), (0 : Int), (0 : Int)), ((0 : Int), (0 : Int), (0 : Int), (0 : Int)), Go.Ev.nl Int)).set 0 v = [v] := rfl
      have ee : (xs[i].1, xs[i].2.1, xs[i].2.2) = xs[i] := rfl
      have et : xs.take i ++ [xs[i]] = xs.take (i + 1) := (List.take_succ_eq_append_getElem hlt).symm
      rw [bournelaw0_CopySessions_l0_S]
      simp only [h1, h2, and_self, if_true, decide_true, cond_true, Int.toNat_natCast, getLt hlt, CopyAcc_eq n xs[i].2.2 (by omega), Option.bind_some, wrapS (i := i) (by omega), e2, ee, et]
      rw [if_pos (by simp only [List.length_take, List.length_cons, List.length_nil]; omega)]
      exact ih m (i + 1) (by omega) (by omega)
  rw [bournelaw0_CopySessions_S]
  exact L xs.length n 0 (by omega) hn
theorem Is.hist {bs : List Int} {σ g : Int} {ss : List SE} {X : List IT} (h : Is bs σ g ss X) : ∀ s ∈ ss, s.2.2.2.2.2.2.2.2.length = bs.length + 1 := by
  obtain ⟨L, rfl, -, hok, -⟩ := h
  intro s hs
  obtain ⟨z, hz, rfl⟩ := List.mem_map.1 hs
  rw [(hok z hz).pc.is.hist]; simp [histOf]
theorem len_flat {bs : List Int} {σ g : Int} : ∀ {L : List SP}, (∀ z ∈ L, SOK bs σ g z) → L.length ≤ (L.map (·.2)).flatten.length
  | [], _ => by simp
  | z :: L, h => by
    have := len_flat fun w hw => h w (List.mem_cons_of_mem _ hw)
    have := List.length_pos_of_mem (h z List.mem_cons_self).pc.is.fm
    simp only [List.map_cons, List.flatten_cons, List.length_append, List.length_cons]; omega
theorem Is.len {bs : List Int} {σ g : Int} {ss : List SE} {X : List IT} (h : Is bs σ g ss X) : ss.length ≤ X.length := by
  obtain ⟨L, rfl, hp, hok, -⟩ := h
  rw [List.length_map, ← hp.length_eq]
  exact len_flat hok
theorem Is.app {bs : List Int} {σ g : Int} {ss tt : List SE} {X Y : List IT} (h : Is bs σ g ss X) (h' : Is bs σ g tt Y) (ha : Apart g X Y) : Is bs σ g (ss ++ tt) (X ++ Y) := by
  obtain ⟨L, rfl, hp, hok, hap⟩ := h
  obtain ⟨M, rfl, hp', hok', hap'⟩ := h'
  refine ⟨L ++ M, by simp, ?_, ?_, ?_⟩
  · simp only [List.map_append, List.flatten_append]
    exact hp.append hp'
  · intro z hz
    rcases List.mem_append.1 hz with hz | hz
    · exact hok z hz
    · exact hok' z hz
  · refine List.pairwise_append.2 ⟨hap, hap', fun z hz w hw x hx y hy => ha x ?_ y ?_⟩
    · exact hp.mem_iff.1 (List.mem_flatten.2 ⟨z.2, List.mem_map.2 ⟨z, hz, rfl⟩, hx⟩)
    · exact hp'.mem_iff.1 (List.mem_flatten.2 ⟨w.2, List.mem_map.2 ⟨w, hw, rfl⟩, hy⟩)

/-! rows out of parts -/
theorem singles (f : IT → AC) : ∀ (p : List IT), ((p.map fun x => (f x, [x])).map (·.2)).flatten = p
  | [] => rfl
  | x :: p => by
    have := singles f p
    simp only [List.map_cons, List.flatten_cons, this, List.singleton_append]
theorem mk_part {bs : List Int} {σ g : Int} (hb : boundsMay bs = true) {p : List IT} (h0 : p ≠ []) (hx : ∀ x ∈ p, itemMay x = true ∧ x.1 = σ) (hl : p.length ≤ 8192) (hc : Conn g p) : ∃ z : SP, z.2 = p ∧ SOK bs σ g z := by
  let zs : List (AC × List IT) := p.map fun x => (oneA x bs, [x])
  have e : (zs.map (·.2)).flatten = p := singles (fun x => oneA x bs) p
  have j := join_piece (bs := bs) (σ := σ) hb zs (by simp [zs, h0]) (fun z hz => by
    obtain ⟨x, hxp, rfl⟩ := List.mem_map.1 hz
    exact ⟨AccIs.one bs x, oneA_may hb (hx x hxp).1, (hx x hxp).2⟩) (by rw [e]; exact hl)
  rw [e] at j
  let r := (joinA bs (zs.map (·.1))).1
  exact ⟨((r.2.2.2.2.1.2.1, r.2.2.2.2.2.1.2.1, r), p), rfl, j.2, rfl, rfl, hc⟩
theorem mk_parts {bs : List Int} {σ g : Int} (hb : boundsMay bs = true) : ∀ (ps : List (List IT)), (∀ p ∈ ps, p ≠ [] ∧ (∀ x ∈ p, itemMay x = true ∧ x.1 = σ) ∧ p.length ≤ 8192 ∧ Conn g p) → ∃ L : List SP, L.map (·.2) = ps ∧ ∀ z ∈ L, SOK bs σ g z
  | [], _ => ⟨[], rfl, fun _ h => by simp at h⟩
  | p :: ps, h => by
    obtain ⟨L, hL, hok⟩ := mk_parts hb ps fun q hq => h q (List.mem_cons_of_mem _ hq)
    obtain ⟨h0, hx, hl, hc⟩ := h p List.mem_cons_self
    obtain ⟨z, hz, hzok⟩ := mk_part (g := g) hb h0 hx hl hc
    exact ⟨z :: L, by rw [List.map_cons, hL, hz], fun w hw => by
      rcases List.mem_cons.1 hw with rfl | hw
      · exact hzok
      · exact hok w hw⟩
/-- the row of sessions of parts that lie apart -/
theorem is_parts {bs : List Int} {σ g : Int} (hb : boundsMay bs = true) (hg : gapMay g = true) {ps : List (List IT)} (h : ∀ p ∈ ps, p ≠ [] ∧ (∀ x ∈ p, itemMay x = true ∧ x.1 = σ) ∧ p.length ≤ 8192 ∧ Conn g p) (hap : ps.Pairwise (Apart g)) {ss : List SE} {X : List IT} (hs : Is bs σ g ss X) (e : X.Perm ps.flatten) (hn : (X.map fun x => x.2.2.1).Nodup) :
    ∃ L : List SP, ss = L.map (·.1) ∧ L.map (·.2) = ps ∧ ∀ z ∈ L, SOK bs σ g z := by
  obtain ⟨L, hL, hok⟩ := mk_parts hb ps h
  have hpw : L.Pairwise fun z w => Apart g z.2 w.2 := by rw [← hL] at hap; exact List.pairwise_map.1 hap
  have hI : Is bs σ g (L.map (·.1)) ps.flatten := ⟨L, rfl, by rw [hL], hok, hpw⟩
  exact ⟨L, is_uniq hg hs hI e hn, hL, hok⟩

/-! for the laws -/
theorem bnd0 : boundsMay [] = true := rfl
theorem add_run {n : Nat} {g : Int} {ss : List SE} {X xs : List IT} {σ : Int} (hn : 200 ≤ n) (hg : gapMay g = true) (h : Is [] σ g ss X) (hx : ∀ x ∈ xs, itemMay x = true ∧ x.1 = σ) (hl : X.length + xs.length ≤ 100) :
    ∃ tt, session_Add n ss g [] xs = some (tt, 0) ∧ Is [] σ g tt (xs ++ X) := by
  obtain ⟨tt, h1, h2⟩ := add_is bnd0 hg h hx (by omega)
  have := h.len
  exact ⟨tt, by rw [Add_eq n (by omega) ss g [] xs (by omega) (by omega), h1], h2⟩
theorem item_ok {σ t k : Int} (h1 : 0 ≤ σ) (h2 : σ ≤ 1048575) (h3 : -1099511627776 ≤ t) (h4 : t ≤ 1099511627776) (h5 : 1 ≤ k) (h6 : k ≤ 1073741823) : itemMay (σ, t, k, 1) = true := by
  simp only [itemMay, inV, Bool.and_eq_true, decide_eq_true_eq]
  omega
theorem gap15 (gap : Int) : Go.IntKind.i64.wrap (1 + gap % 16) = 1 + gap % 16 := wrapOK (by omega) (by omega)
theorem set1 (x : IT) : (List.replicate 1 ((0 : Int), (0 : Int), (0 : Int), (0 : Int))).set 0 x = [x] := rfl
end Go.Proofs.Ytoffmcfaeolcjaa
