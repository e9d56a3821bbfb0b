/- What all texts of this place use: which blocks a call may have turned ('Only'), and a set of numbers kept as a map to bools ('SetAt'). -/
import Derived.Test.YtoffmcfaeolcjaaProg
import Derived.WalkKit
import Derived.Maps.OwnSet
import Derived.Laws.BitsLemmas
import Derived.WideKeyEntry
import Derived.Lib.Hide
import Derived.Deep.AppendLies
import Derived.Deep.QuietTactic
namespace Go.Proofs.Ytoffmcfaeolcjaa
open Go.RowKit Go.Maps

@[go_sem] theorem alloc_drewN (w : World) (n : Nat) (o : Obj) : (w.drewN n).alloc o = (w.alloc o).drewN n := rfl
@[go_sem] theorem setCell_drewN (w : World) (n : Nat) (a : Addr) (v : Value) : (w.drewN n).setCell a v = (w.setCell a v).drewN n := rfl

/-- 'x & (2^k - 1)' of an int. -/
theorem and_mask (x : Int) (k : Nat) (hk : k ≤ 62) : bits BinOp.and IntKind.i64 x (((2 ^ k - 1 : Nat) : Int)) = x % ((2 ^ k : Nat) : Int) := by
  have h2 : 2 ^ k ≤ 2 ^ 62 := Nat.pow_le_pow_right (by omega) hk
  have hp : 0 < 2 ^ k := Nat.two_pow_pos k
  have e1 : (BitVec.ofInt 64 ((2 ^ k - 1 : Nat) : Int)).toNat = 2 ^ k - 1 := by
    rw [BitVec.toNat_ofInt]
    omega
  have e2 : ((BitVec.ofInt 64 x).toNat : Int) = x % 18446744073709551616 := by
    rw [BitVec.toNat_ofInt]
    omega
  have e3 : (((BitVec.ofInt 64 x).toNat % 2 ^ k : Nat) : Int) = x % ((2 ^ k : Nat) : Int) := by
    rw [Int.natCast_emod, e2]
    have hd : ((2 ^ k : Nat) : Int) ∣ 18446744073709551616 := by
      have : (18446744073709551616 : Int) = ((2 ^ 64 : Nat) : Int) := by decide
      rw [this]
      exact Int.natCast_dvd_natCast.2 (Nat.pow_dvd_pow 2 (by omega))
    exact Int.emod_emod_of_dvd x hd
  have e4 : (BitVec.ofInt 64 x &&& BitVec.ofInt 64 ((2 ^ k - 1 : Nat) : Int)).toNat = (BitVec.ofInt 64 x).toNat % 2 ^ k := by
    rw [BitVec.toNat_and, e1, Nat.and_two_pow_sub_one_eq_mod]
  show IntKind.i64.wrap (((BitVec.ofInt 64 x &&& BitVec.ofInt 64 ((2 ^ k - 1 : Nat) : Int)).toNat : Nat) : Int) = _
  rw [e4, e3, IntKind.wrap_i64]
  have h3 := Int.emod_nonneg x (b := ((2 ^ k : Nat) : Int)) (by omega)
  have h4 := Int.emod_lt_of_pos x (b := ((2 ^ k : Nat) : Int)) (by omega)
  omega

/-- w' is w but for new blocks and for the blocks of F. -/
structure Only (F : List Nat) (w w' : World) : Prop where
  os : w'.os = w.os
  tape : w'.tape = w.tape
  output : w'.output = w.output
  size : w.heap.size ≤ w'.heap.size
  block : ∀ k, k < w.heap.size → k ∉ F → w'.heap[k]? = w.heap[k]?

theorem Only.refl (F : List Nat) (w : World) : Only F w w := ⟨rfl, rfl, rfl, Nat.le_refl _, fun _ _ _ => rfl⟩
theorem Only.mono {F G : List Nat} {w w' : World} (h : Only F w w') (hs : ∀ k ∈ F, k ∈ G ∨ w.heap.size ≤ k) : Only G w w' :=
  ⟨h.os, h.tape, h.output, h.size, fun k hk hg => h.block k hk fun hf => by rcases hs k hf with h1 | h1; exact hg h1; omega⟩
theorem Only.trans {F G : List Nat} {a b c : World} (h : Only F a b) (k : Only G b c) (hs : ∀ g ∈ G, g ∈ F ∨ a.heap.size ≤ g) : Only F a c :=
  ⟨k.os.trans h.os, k.tape.trans h.tape, k.output.trans h.output, Nat.le_trans h.size k.size, fun i hi hf => by
    rw [k.block i (Nat.lt_of_lt_of_le hi h.size) fun hg => ?_, h.block i hi hf]
    rcases hs i hg with h1 | h1
    · exact hf h1
    · omega⟩
theorem Only.drewN {F : List Nat} {a w : World} (h : Only F a w) (n : Nat) : Only F a (w.drewN n) := ⟨h.os, h.tape, h.output, h.size, h.block⟩
theorem Only.drew {F : List Nat} {a w : World} (h : Only F a w) : Only F a w.drew := ⟨h.os, h.tape, h.output, h.size, h.block⟩
theorem Only.alloc {F : List Nat} {a w : World} (h : Only F a w) (o : Obj) : Only F a (w.alloc o) :=
  h.trans (G := []) ⟨rfl, rfl, rfl, by simp, fun k hk _ => Below.heap_alloc _ _ _ hk⟩ (by simp)
theorem Only.setCell {F : List Nat} {a w : World} (h : Only F a w) {p : Addr} (hp : p.block ∈ F ∨ a.heap.size ≤ p.block) (u : Value) : Only F a (w.setCell p u) :=
  h.trans (G := [p.block]) ⟨rfl, rfl, rfl, by simp, fun k _ hk => Below.heap_setCell _ _ _ _ (by simpa using hk)⟩ (by simpa using hp)
theorem Only.of_grown {w w' : World} {row : Option Nat} (h : w.grownBy w' row) : Only row.toList w w' :=
  ⟨h.os, h.tape, h.output, h.size, fun k hk hf => h.block k hk fun e => hf (by simp [← e])⟩
theorem Only.grown {F : List Nat} {a w w' : World} {row : Option Nat} (h : Only F a w) (g : w.grownBy w' row) (hr : ∀ k, row = some k → k ∈ F ∨ a.heap.size ≤ k) : Only F a w' :=
  h.trans (Only.of_grown g) (fun k hk => hr k (by simpa using hk))
theorem Only.below {w w' : World} (h : Only [] w w') : Below w.heap.size w w' := ⟨h.os, h.tape, h.output, h.size, fun k hk => h.block k hk (by simp)⟩
theorem Only.of_below {w w' : World} (h : Below w.heap.size w w') : Only [] w w' := ⟨h.os, h.tape, h.output, h.size, fun k hk _ => h.block k hk⟩
theorem Only.step {F G : List Nat} {a b c : World} (h : Only F a b) (k : Only G b c) (hs : ∀ g ∈ G, a.heap.size ≤ g) : Only F a c := h.trans k fun g hg => .inr (hs g hg)
theorem Only.nil {F : List Nat} {a b c : World} (h : Only F a b) (k : Only [] b c) : Only F a c := h.trans k (by simp)
theorem Only.cell {F : List Nat} {w w' : World} (h : Only F w w') {p : Addr} {v : Value} (hc : w.cell? p = some v) (hp : p.block ∉ F) : w'.cell? p = some v :=
  (World.cell?_of_block (h.block p.block (World.block_lt_of_cell? w p hc) hp)).trans hc
theorem Only.ownsRow {F : List Nat} {w w' : World} {base : Nat} {e : TypeId} {size : Nat} {v : Value} {n : Nat} {xs : List Value} (hg : Only F w w') (h : w.ownsRow base e size v n xs) (hne : ∀ k, v.ownBlock = some k → k ∉ F) : w'.ownsRow base e size v n xs := by
  refine ⟨h.1, ?_⟩
  rcases h.2 with hn | ⟨g, cap, cur, rfl, hb, hgg, rest⟩
  · exact .inl hn
  · refine .inr ⟨g, cap, cur, rfl, hb, ?_, rest⟩
    rw [hg.block g (Array.getElem?_eq_some_iff.1 hgg).1 (hne g rfl)]
    exact hgg
theorem Only.ownsMap {H : Type} {F : List Nat} {w w' : World} {P : Program} {k : TypeId} {R : Value → Option (DataW H × List MemPlace)} {b n : Nat} {D : DataW H} (hg : Only F w w') (h : w.ownsMap P k R b n D) (hne : b ∉ F) : w'.ownsMap P k R b n D := by
  have hlt := h.lt
  obtain ⟨es, clock, hb, K, hs, hD⟩ := h
  exact ⟨es, clock, (hg.block b hlt hne).trans hb, K, hs, hD⟩

/-- Nothing but some draws. -/
def Drew (w w' : World) : Prop := ∃ n, w' = w.drewN n
theorem Drew.refl (w : World) : Drew w w := ⟨0, rfl⟩
theorem Drew.drewN {a w : World} (h : Drew a w) (n : Nat) : Drew a (w.drewN n) := by obtain ⟨m, rfl⟩ := h; exact ⟨m + n, by simp⟩
theorem Drew.drew {a w : World} (h : Drew a w) : Drew a w.drew := h.drewN 1
theorem Drew.trans {a b c : World} (h : Drew a b) (k : Drew b c) : Drew a c := by obtain ⟨n, rfl⟩ := k; exact h.drewN n
theorem Drew.only {F : List Nat} {a w : World} (h : Drew a w) : Only F a w := by obtain ⟨m, rfl⟩ := h; exact (Only.refl _ _).drewN _

theorem cell_of_block {w : World} {b : Nat} {cs : Array Value} {t : TypeId} {fr : Nat × Nat} (h : w.heap[b]? = some (.cells cs t fr)) (j : Nat) : w.cell? ⟨b, j, none⟩ = cs[j]? := by
  rw [cell_of_row w b j cs t fr h]
theorem free_of_block {w : World} {b : Nat} {cs : Array Value} {t : TypeId} (h : w.heap[b]? = some (.cells cs t (0, 0))) (j : Nat) : w.frozen? ⟨b, j, none⟩ = false := by
  simp [World.frozen?, h]

theorem heap_setCell_at {w : World} {b : Nat} {cs : Array Value} {t : TypeId} {fr : Nat × Nat} (h : w.heap[b]? = some (.cells cs t fr)) (j : Nat) (u : Value) : (w.setCell ⟨b, j, none⟩ u).heap[b]? = some (.cells (cs.setIfInBounds j u) t fr) := by
  simp only [World.setCell, Array.getElem?_modify, h]
  simp
theorem heap_lt {w : World} {b : Nat} {o : Obj} (h : w.heap[b]? = some o) : b < w.heap.size := (Array.getElem?_eq_some_iff.1 h).1
theorem Only.heap {F : List Nat} {w w' : World} (hg : Only F w w') {b : Nat} {o : Obj} (h : w.heap[b]? = some o) (hb : b ∉ F) : w'.heap[b]? = some o := (hg.block b (heap_lt h) hb).trans h

/-- A set of numbers, kept as map[int]bool. -/
def SetAt (w : World) (m n : Nat) (S : List Int) : Prop :=
  ∃ D : DataW Unit, w.ownsMap Try.prog 3 (plainElem Try.prog 4) m n D ∧ ∀ x, (Lit.int .i64 x).wf = true → D.atKey (.int .i64 x) (.lit (.bool false)) = .lit (.bool (decide (x ∈ S)))

theorem lawInt : Keyed Try.prog 3 := int_keyed Try.underlying3
theorem zeroBool (w : World) : (zeroValue 4).run Try.prog w = .ok (.bool false) w := by kernel_rfl

theorem plainElem_bool_inv {P : Program} {e : TypeId} (he : P.underlying e = some .bool) {v : Value} {z : DataW Unit × List MemPlace} (h : plainElem P e v = some z) : ∃ b, v = .bool b ∧ z = (.lit (.bool b), []) := by
  unfold plainElem at h
  rw [he] at h
  cases v <;> simp at h
  subst h
  exact ⟨_, rfl, rfl⟩

theorem SetAt.look {w : World} {m n : Nat} {S : List Int} (h : SetAt w m n S) {x : Int} (hx : (Lit.int .i64 x).wf = true) :
    (Instr.lookup 83 (.map (some m)) (.int .i64 x) false).run Try.prog w = .ok (.bool (decide (x ∈ S))) w := by
  obtain ⟨D, h, hS⟩ := h
  obtain ⟨v, ps, hrun, hv⟩ := h.lookup lawInt Try.underlying83 (zeroBool w) (plainElem_bool Try.underlying4 false) (keyOf_int_mk Try.underlying3 hx)
  rw [hS x hx] at hv
  obtain ⟨b, rfl, hz⟩ := plainElem_bool_inv Try.underlying4 hv
  simp only [Prod.mk.injEq, DataW.lit.injEq, Lit.bool.injEq] at hz
  rw [hrun, ← hz.1]

theorem SetAt.put {w : World} {m n : Nat} {S : List Int} (h : SetAt w m n S) {x : Int} (hx : (Lit.int .i64 x).wf = true) (hn : n < maxLen) :
    ∃ w', (Instr.mapUpdate 83 (.map (some m)) (.int .i64 x) (.bool true)).run Try.prog w = .ok () w' ∧ SetAt w' m (n + 1) (S ++ [x]) ∧ Only [m] w w' := by
  obtain ⟨D, h, hS⟩ := h
  obtain ⟨w', hrun, h', hg⟩ := h.update lawInt Try.underlying83 hn (keyOf_int_mk Try.underlying3 hx) (plainElem_bool Try.underlying4 true)
  refine ⟨w', hrun, ⟨_, h', fun y hy => ?_⟩, Only.of_grown hg⟩
  by_cases e : y = x
  · subst e
    rw [atKey_put_same h.isMap (by simp [WideAt.IsKeyLit])]
    simp
  · rw [atKey_put_other (by simp [e]), hS y hy]
    simp [e]

theorem setBlock_twice (w : World) (b : Nat) (o o' : Obj) : ChangeMaps.setBlock (ChangeMaps.setBlock w b o) b o' = ChangeMaps.setBlock w b o' := by
  simp [ChangeMaps.setBlock]

/-- 'x, m[k] = e, v' takes the entry first and stores behind it: together it is 'm[k] = v'. -/
theorem entry_store {H : Type} {P : Program} {w : World} {t k e : TypeId} {R : Value → Option (DataW H × List MemPlace)} {b : Nat} {es : Array MapEntry} {clock : Nat} (K : Keyed P k) (ht : P.underlying t = some (.map k e)) {z : Value}
    (hz : ∀ u : World, (zeroValue e).run P u = .ok z u) (hb : w.heap[b]? = some (.map es clock)) (F : WideElems.Fit P k R es clock) {key : Value} {kl : Lit} (hkey : keyOf P k key = some kl) (val : Value) :
    ∃ (v0 : Value) (st : Nat) (w1 : World), (Instr.mapEntry t (.map (some b)) key).run P w = .ok (.tuple #[v0, goInt st]) w1 ∧
      ∃ w2, (Instr.entryStore t (.map (some b)) (goInt st) val).run P w1 = .ok () w2 ∧ (Instr.mapUpdate t (.map (some b)) key val).run P w = .ok () w2 := by
  obtain ⟨s1, s2, _⟩ := F.stamped
  rcases K.find w hkey es.toList F.keys with ⟨h1, h2⟩ | ⟨j, e0, h1, h2, h3⟩
  · refine ⟨z, clock, ChangeMaps.setBlock w b (.map (es.push ⟨key, z, clock⟩) (clock + 1)), ?_, ChangeMaps.setBlock w b (.map (es.push ⟨key, val, clock⟩) (clock + 1)), ?_, ?_⟩
    · simp [Instr.mapEntry, run_underlying ht, MapKept.run_getObj_map hb, K.check w false hkey, h1, hz, MapKept.run_setObj_map _ hb, Result.andThen, ChangeMaps.setBlock]
    · have hidx : (es.push ⟨key, z, clock⟩).findIdx? (fun e => ((e.born : Nat) : Int) == ((clock : Nat) : Int)) = some es.size := by
        rw [WideElems.findIdx_arr]
        have := WideElems.findIdx_born (l := (es.push ⟨key, z, clock⟩).toList) (j := es.size) (e0 := ⟨key, z, clock⟩) (by
          simp only [Array.toList_push, List.map_append, List.map_cons, List.map_nil]
          refine List.nodup_append.2 ⟨s2, by simp, fun a ha c hc e1 => ?_⟩
          simp only [List.mem_singleton] at hc
          obtain ⟨x, hx, rfl⟩ := List.mem_map.1 ha
          have := s1 x hx
          omega) (by simp)
        exact this
      have hmod : (es.push ⟨key, z, clock⟩).modify es.size (fun e => { e with val := val }) = es.push ⟨key, val, clock⟩ := by
        apply Array.ext'
        rw [Array.toList_modify, Array.toList_push, Array.toList_push, ← Array.length_toList, WideElems.modify_last]
      have hb1 := ChangeMaps.heap_setBlock_same hb (.map (es.push ⟨key, z, clock⟩) (clock + 1))
      simp only [Instr.entryStore, asInt, asIntOf, goInt, Sem.run_bind, MapKept.run_getObj_map hb1, Result.andThen, Sem.run_pure, hidx, hmod, MapKept.run_setObj_map _ hb1]
      exact congrArg (Result.ok ()) (setBlock_twice _ _ _ _)
    · simp [Instr.mapUpdate, run_underlying ht, MapKept.run_getObj_map hb, K.check w false hkey, h1, MapKept.run_setObj_map _ hb, Result.andThen, ChangeMaps.setBlock]
  · have hj : es[j]? = some e0 := by simpa using h2
    have hsame : es.modify j (fun e => { e with key := key }) = es := by
      apply Array.ext'
      rw [Array.toList_modify, ChangeMaps.modify_eq_set _ _ _ _ h2]
      have : ({ e0 with key := key } : MapEntry) = e0 := by rw [← h3]
      rw [this]
      exact WideElems.set_self _ _ _ h2
    refine ⟨e0.val, e0.born, ChangeMaps.setBlock w b (.map es clock), ?_, ChangeMaps.setBlock w b (.map (es.modify j (fun e' => { e' with key := key, val := val })) clock), ?_, ?_⟩
    · simp [Instr.mapEntry, run_underlying ht, MapKept.run_getObj_map hb, K.check w false hkey, h1, hj, h3, K.stays w hkey, hsame, MapKept.run_setObj_map _ hb, Result.andThen, ChangeMaps.setBlock]
    · have hidx : es.findIdx? (fun e => ((e.born : Nat) : Int) == ((e0.born : Nat) : Int)) = some j := by
        rw [WideElems.findIdx_arr]
        exact WideElems.findIdx_born s2 h2
      have hmod : es.modify j (fun e => { e with val := val }) = es.modify j (fun e' => { e' with key := key, val := val }) := by
        apply Array.ext'
        rw [Array.toList_modify, Array.toList_modify, ChangeMaps.modify_eq_set _ _ _ _ h2, ChangeMaps.modify_eq_set _ _ _ _ h2, ← h3]
      have hb1 := ChangeMaps.heap_setBlock_same hb (.map es clock)
      simp only [Instr.entryStore, asInt, asIntOf, goInt, Sem.run_bind, MapKept.run_getObj_map hb1, Result.andThen, Sem.run_pure, hidx, hmod, MapKept.run_setObj_map _ hb1]
      exact congrArg (Result.ok ()) (setBlock_twice _ _ _ _)
    · simp [Instr.mapUpdate, run_underlying ht, MapKept.run_getObj_map hb, K.check w false hkey, h1, hj, h3, K.stays w hkey, MapKept.run_setObj_map _ hb, Result.andThen, ChangeMaps.setBlock]

theorem SetAt.entry {w : World} {m n : Nat} {S : List Int} (h : SetAt w m n S) {x : Int} (hx : (Lit.int .i64 x).wf = true) (hn : n < maxLen) :
    ∃ (v0 : Value) (st : Nat) (w1 : World), (Instr.mapEntry 83 (.map (some m)) (.int .i64 x)).run Try.prog w = .ok (.tuple #[v0, goInt st]) w1 ∧
      ∃ w2, (Instr.entryStore 83 (.map (some m)) (goInt st) (.bool true)).run Try.prog w1 = .ok () w2 ∧ SetAt w2 m (n + 1) (S ++ [x]) ∧ Only [m] w w2 := by
  obtain ⟨w', hrun, h1, h2⟩ := h.put hx hn
  obtain ⟨D, h, hS⟩ := h
  obtain ⟨es, clock, hb, F, hs, _⟩ := h
  obtain ⟨v0, st, w1, e1, w2, e2, e3⟩ := entry_store lawInt Try.underlying83 zeroBool hb F (keyOf_int_mk Try.underlying3 hx) (.bool true)
  rw [hrun] at e3
  cases e3
  exact ⟨v0, st, w1, e1, w', e2, h1, h2⟩

theorem SetAt.made (w : World) : SetAt (w.alloc (.map #[] 0)) w.heap.size 0 [] :=
  ⟨_, World.ownsMap_made w _ _ _, fun x _ => by simp [DataW.atKey]⟩
theorem SetAt.kept {F : List Nat} {w w' : World} {m n : Nat} {S : List Int} (h : SetAt w m n S) (hg : Only F w w') (hm : m ∉ F) : SetAt w' m n S := by
  obtain ⟨D, h, hS⟩ := h
  exact ⟨D, hg.ownsMap h hm, hS⟩
theorem SetAt.lt {w : World} {m n : Nat} {S : List Int} (h : SetAt w m n S) : m < w.heap.size := by
  obtain ⟨D, h, hS⟩ := h; exact h.lt

theorem slice_of_owns {w : World} {base : Nat} {e : TypeId} {size : Nat} {v : Value} {n : Nat} {xs : List Value} (h : w.ownsRow base e size v n xs) : ∃ va vc, v = .slice va n vc := by
  rcases h.2 with ⟨rfl, rfl⟩ | ⟨g, cap, cur, rfl, _⟩
  · exact ⟨_, _, rfl⟩
  · exact ⟨_, _, rfl⟩

theorem own_ne {w : World} {b : Nat} {cs : Array Value} {t : TypeId} {fr : Nat × Nat} (h : w.heap[b]? = some (.cells cs t fr)) {e : TypeId} (hne : t ≠ e) {base size : Nat} {v : Value} {n : Nat} {xs : List Value} (ho : w.ownsRow base e size v n xs) : ∀ k, v.ownBlock = some k → k ≠ b := by
  rintro k hk rfl
  rcases ho.2 with ⟨rfl, rfl⟩ | ⟨g, cap, cur, rfl, _, hg, _⟩
  · cases hk
  · cases hk
    rw [h] at hg
    cases hg
    exact hne rfl
theorem and1023 (x : Int) : 0 ≤ bits BinOp.and IntKind.i64 x 1023 ∧ bits BinOp.and IntKind.i64 x 1023 ≤ 1023 := by
  have h := and_mask x 10 (by decide)
  have e : (((2 ^ 10 - 1 : Nat) : Int)) = 1023 := by decide
  rw [e] at h
  rw [h]
  omega

end Go.Proofs.Ytoffmcfaeolcjaa
