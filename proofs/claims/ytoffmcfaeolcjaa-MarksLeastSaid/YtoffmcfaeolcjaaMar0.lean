/- Contracts of package marks. -/
import Derived.Test.YtoffmcfaeolcjaaInts
import Derived.Deep.RegionLaw
import Derived.Laws.CopyOwn
import Derived.Maps.RangeWalk
import Derived.RegionTactic
namespace Go.Proofs.Ytoffmcfaeolcjaa
open Go.RowKit Go.Maps

set_option maxHeartbeats 4000000 in
set_option maxRecDepth 100000 in
theorem mul_one (c : Nat) (w : World) (hc : c ≤ 8) : Calls Try.prog 69 #[.int .u64 1, .int .u64 c] w fun e w' => e = .returned (.tuple #[.int .u64 0, .int .u64 c]) ∧ w = w' := by
  rcases c with _ | _ | _ | _ | _ | _ | _ | _ | _ | c
  case succ.succ.succ.succ.succ.succ.succ.succ.succ => omega
  all_goals
    go_enter Try.func69, Try.ntmps69
    go_wp2
    go_ret2
    exact ⟨by kernel_rfl, rfl⟩

theorem oneCell_info : (Try.prog.info? 3).map (·.size) = some 1 := by kernel_rfl

/-- A row of c numbers, the first k of them x. -/
def fillL (x : Int) (c k : Nat) : List Value := List.replicate k (.int .i64 x) ++ List.replicate (c - k) (.int .i64 0)
theorem fillL_len {x : Int} {c k : Nat} (h : k ≤ c) : (fillL x c k).length = c := by simp [fillL]; omega
theorem fillL_splice (x : Int) (c k m : Nat) : splice (fillL x c k) k (List.replicate m (.int .i64 x)) = fillL x c (k + m) := by
  unfold splice fillL
  rw [List.take_append_of_le_length (by simp), List.take_of_length_le (by simp), List.length_replicate, List.drop_append]
  simp only [List.length_replicate, List.drop_replicate]
  rw [show k - (k + m) = 0 by omega, show k + m - k = m by omega, show c - k - m = c - (k + m) by omega, List.replicate_zero, List.nil_append, ← List.append_assoc, List.replicate_append_replicate]
theorem fillL_get {x : Int} {c k j : Nat} (h : j < k) : (fillL x c k)[j]? = some (.int .i64 x) := by
  unfold fillL
  rw [List.getElem?_append_left (by simpa using h), List.getElem?_replicate, if_pos h]
theorem fillL_start (x : Int) (c : Nat) : (madeCells #[.int .i64 0] c).toList = fillL x c 0 := by
  rw [toList_madeCells_one]; simp [fillL]

set_option maxHeartbeats 800000 in
set_option maxRecDepth 100000 in
theorem repeat_one {x : Int} {c b : Nat} {w : World} (hc : 1 ≤ c) (hc2 : c ≤ 8) (hb : w.cell? ⟨b, 0, none⟩ = some (.int .i64 x)) :
    Calls Try.prog 49 #[.slice (some ⟨b, 0, none⟩) 1 1, .int .i64 c] w fun e w' => e = .returned (.slice (some ⟨w.heap.size, 0, none⟩) c c) ∧ w'.heap[w.heap.size]? = some (.cells (fillL x c c).toArray 3 (0, 0)) ∧ Only [] w w' := by
  obtain ⟨i0, hi, hz0, hz1, hz2⟩ := info_parts infoInt
  have hmk := fun wx => run_make (P := Try.prog) wx 22 3 i0 _ Try.underlying22 hi hz0 .i64 .i64 c c (by omega) (Int.le_refl _) (by rw [hz2]; omega) (by omega)
  rw [hz1] at hmk
  simp only [Int.toNat_natCast, Nat.mul_one] at hmk
  have hfl : ∀ wx : World, (wx.alloc (.cells (madeCells (Value.cells (.int .i64 0)) c) 3)).heap[wx.heap.size]? = some (.cells (fillL x c 0).toArray 3 (0, 0)) := fun wx => by
    rw [heap_alloc_new, ← fillL_start]
    rfl
  have HFL := Lib.hid hfl
  have hbl := World.block_lt_of_cell? _ _ hb
  simp only at hbl
  clear hfl
  obtain ⟨M, hM⟩ : ∃ M, M = madeCells (Value.cells (.int .i64 0)) c := ⟨_, rfl⟩
  rw [← hM] at hmk HFL
  clear hM
  obtain ⟨L0, hL0⟩ : ∃ L0, L0 = fillL x c 0 := ⟨_, rfl⟩
  have HL0 := Lib.hid hL0
  rw [← hL0] at HFL
  clear hL0
  have hbig : decide ((9223372036854775807 : Int) < (c : Int)) = false := decide_eq_false (by omega)
  have hneg : decide ((c : Int) < 0) = false := decide_eq_false (by omega)
  go_enter Try.func49, Try.ntmps49
  go_wp2_with (first | (go_at_call 69; refine (mul_one c _ (by omega)).mono ?_; rintro e w1 ⟨rfl, rfl⟩) | (with_reducible refine wpList_copy_splice rfl (.tmp 31) (.tmp 32) 22 22 rfl 3 Try.underlying22 oneCell_info (some ⟨w.heap.size, 0, none⟩) (some ⟨b, 0, none⟩) c c 1 1 rfl rfl w.heap.size 0 L0 3 (HFL.out _) [.int .i64 x] ?c1 ?c2 ?c3 ?c4 w.heap.size w ?c5 (Nat.le_refl _) ?c6))
  case c1 => exact (Nat.min_eq_left hc).symm
  case c2 => intro j v hj; cases j with | zero => simp at hj; rw [hb, hj] | succ j => simp at hj
  case c3 => rw [HL0.out, fillL_len (Nat.zero_le _)]; simp; omega
  case c4 => simp [Value.oneCell']
  case c5 => exact (Below.refl _ _).alloc (Nat.le_refl _) _
  intro w1 hg1 hb1
  have hh : Hid (w1.heap[w.heap.size]? = some (.cells (fillL x c 1).toArray 3 (0, 0))) := by
    have h := hg1.out
    rw [HL0.out, show ([.int .i64 x] : List Value) = List.replicate 1 (.int .i64 x) from rfl, fillL_splice, Nat.zero_add] at h
    exact h
  clear hg1
  go_wp2
  go_loopw [8] (fun n wr => ∃ k : Nat, 1 ≤ k ∧ k ≤ c ∧ n = .int .i64 k ∧ Hid (wr.heap[w.heap.size]? = some (.cells (fillL x c k).toArray 3 (0, 0))) ∧ Below w.heap.size w wr) (fun n _ => c - (intOf n).toNat)
  case atStart => exact ⟨1, Nat.le_refl _, hc, rfl, hh, hb1⟩
  case round =>
    obtain ⟨k, hk1, hk, rfl, hgk, hbk⟩ := hrel
    by_cases hlt : k < c
    · obtain ⟨m, hm⟩ : ∃ m, m = Nat.min k (c - k) := ⟨_, rfl⟩
      have hm1 : 1 ≤ m := by rw [hm]; simp [Nat.min_def]; split <;> omega
      have hm2 : m ≤ k := by rw [hm]; exact Nat.min_le_left _ _
      have hm3 : k + m ≤ c := by have : m ≤ c - k := by rw [hm]; exact Nat.min_le_right _ _
                                 omega
      have HM := Lib.hid hm
      clear hm hh
      obtain ⟨R, hR⟩ : ∃ R : List Value, R = List.replicate m (.int .i64 x) := ⟨_, rfl⟩
      have HR := Lib.hid hR
      obtain ⟨Lk, hLk⟩ : ∃ Lk, Lk = fillL x c k := ⟨_, rfl⟩
      have HLk := Lib.hid hLk
      clear hR
      rw [← hLk] at hgk
      clear hLk
      have q1 : Hid (R.length = Nat.min k (c - k)) := by show _ = _; rw [HR.out, List.length_replicate, HM.out]
      have q2 : Hid (∀ j v, R[j]? = some v → wr.cell? ((⟨w.heap.size, 0, none⟩ : Addr).add j) = some v) := by
        intro j v hj
        have hjm : j < m := by
          rcases Nat.lt_or_ge j m with h | h
          · exact h
          · rw [HR.out, List.getElem?_eq_none (by simpa using h)] at hj; cases hj
        have hadd : (⟨w.heap.size, 0, none⟩ : Addr).add j = ⟨w.heap.size, j, none⟩ := by unfold Addr.add; split <;> simp_all
        rw [HR.out, List.getElem?_replicate, if_pos hjm] at hj
        cases hj
        rw [hadd, cell_of_block hgk.out, List.getElem?_toArray, HLk.out, fillL_get (by omega)]
      have q3 : Hid (k + R.length ≤ Lk.length) := by show _ ≤ _; rw [HR.out, HLk.out, fillL_len hk, List.length_replicate]; exact hm3
      have q4 : Hid (∀ v ∈ R, v.oneCell' = true) := by intro v hv; rw [HR.out] at hv; rw [List.eq_of_mem_replicate hv]; rfl
      have hck : ¬ c = k := by omega
      go_wp2
      go_region_law (refine step_copy_splice rfl _ _ 22 22 rfl 3 Try.underlying22 oneCell_info (some ⟨w.heap.size, k, none⟩) (some ⟨w.heap.size, 0, none⟩) (c - k) (c - k) k c ?h1 ?h2 w.heap.size k Lk 3 ?h3 R ?h4 ?h5 ?h6 ?h7 w.heap.size w ?h8 ?h9 ?h10; (case h1 => go_simp); (case h2 => go_simp); (case h3 => exact hgk.out); (case h4 => exact q1.out); (case h5 => exact fun _ => ⟨rfl, _, rfl, q2.out⟩); (case h6 => exact q3.out); (case h7 => exact q4.out); (case h8 => exact hbk.drew); (case h9 => exact Nat.le_refl _); intro w2 hg2 hb2)
      have hg3 : Hid (w2.heap[w.heap.size]? = some (.cells (fillL x c (k + m)).toArray 3 (0, 0))) := by
        have h := hg2.out
        rw [HLk.out, HR.out, fillL_splice] at h
        exact h
      have hRl : R.length = m := by rw [HR.out, List.length_replicate]
      have hRi : (R.length : Int) = (m : Int) := by omega
      clear hRl
      go_wp2
      refine ⟨?_, ?_⟩
      · (repeat apply Exists.intro)
        refine ⟨⟨k + m, by omega, hm3, ?_, hg3, hb2⟩, rfl⟩
        rw [hRi, IntKind.wrap_i64]
        exact congrArg _ (by omega)
      · have e : IntKind.i64.wrap ((k : Int) + (R.length : Int)) = ((k + m : Nat) : Int) := by rw [hRi, IntKind.wrap_i64]; omega
        show c - (IntKind.i64.wrap ((k : Int) + (R.length : Int))).toNat < c - ((k : Nat) : Int).toNat
        rw [e]
        omega
    · obtain rfl : k = c := by omega
      go_wp2
      go_ret
      exact ⟨rfl, hgk.out, Only.of_below hbk⟩
end Go.Proofs.Ytoffmcfaeolcjaa
