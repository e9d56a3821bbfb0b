/- What the rows of laws over pairs use: an argument that is a slice of pairs, read out of the row's reading. -/
import Derived.Test.YtoffmcfaeolcjaaMar4
import Derived.SizedLaws
import Derived.Deep.SlicePairs
import Derived.OpenShut
namespace Go.Proofs.Ytoffmcfaeolcjaa
open Go.RowKit Go.ChangeShapes Go.WideShapes Go.Deep

set_option linter.unusedVariables false

theorem pairs_of_trod {H : Type} {enc : TypeId × Value → H} {W : World} {a : Option Addr} {len cap : Nat} {d : DataW H} {ps : List MemPlace} {base : Nat} {spare : Nat → Bool} {ts : List TypeId} {ds : List (DataW H)} {j : Nat}
    (hsz : (DataW.weightsEach Try.prog ts ds).all (· ≤ reachBytes) = true) (ht : ts[j]? = some 42) (hd : ds[j]? = some d)
    (h : DataW.Trod enc Try.prog W base spare true 42 (.slice a len cap) d ps) : ∃ qs, PairsAt W (.slice a len cap) qs := by
  obtain ⟨fuel, hf⟩ := h
  rcases open_slice_pairs Try.underlying42 Try.underlying53 (by kernel_rfl) rfl rfl (by kernel_rfl) (by kernel_rfl) hf with ⟨hcs, _⟩ | ⟨x, l, c, m, n, V0, V1, D0, D1, P0, P1, hcs, _, hl, hm, hmm, hx, hall⟩
  · simp [Value.cells] at hcs
    obtain ⟨rfl, rfl, rfl⟩ := hcs
    exact ⟨[], none, 0, rfl, by simp, .inl rfl⟩
  · simp [Value.cells] at hcs
    obtain ⟨rfl, rfl, rfl⟩ := hcs
    have hlm : len ≤ m := by rw [hmm]; split <;> omega
    obtain ⟨hx, _⟩ := Prod.mk.inj hx
    subst hx
    have z := sized_slice hsz ht hd Try.underlying42
    rw [show Try.prog.bytesOf 53 = 16 by kernel_rfl] at z
    simp only [List.length_map, List.length_range, reachBytes] at z
    have each : ∀ i, i < len → ∃ q : Int × Int, V0 i = .int .i64 q.1 ∧ V1 i = .int .i64 q.2 := by
      intro i hi
      obtain ⟨_, _, t0, t1⟩ := hall i (by omega)
      obtain ⟨p, e0, _, _⟩ := DataW.trod_int Try.underlying3 t0
      obtain ⟨q, e1, _, _⟩ := DataW.trod_int Try.underlying3 t1
      simp at e0 e1
      exact ⟨(p, q), e0, e1⟩
    obtain ⟨Q, hQ⟩ := choose_lt each
    have hlen : ((List.range len).map Q).length = len := by simp
    refine ⟨(List.range len).map Q, some x, cap, by rw [hlen], by rw [hlen]; omega, ?_⟩
    by_cases h0 : len = 0
    · left; simp [h0]
    · right
      have h00 := (hall 0 (by omega)).1
      obtain ⟨b, off, spot⟩ := x
      have hspot : spot = none := by simpa [Addr.add] using World.cell?_spot h00
      subst hspot
      refine ⟨b, off, rfl, World.block_lt_of_cell? _ _ (by simpa [Addr.add] using h00), fun i hi => ?_⟩
      rw [hlen] at hi
      obtain ⟨c0, c1, _, _⟩ := hall i (by omega)
      rw [add_plain] at c0 c1
      rw [List.getElem?_map, List.getElem?_range hi]
      simp only [Option.map_some, Option.getD_some]
      rw [← (hQ i hi).1, ← (hQ i hi).2]
      exact ⟨c0, by rw [← c1]; rfl⟩

end Go.Proofs.Ytoffmcfaeolcjaa
