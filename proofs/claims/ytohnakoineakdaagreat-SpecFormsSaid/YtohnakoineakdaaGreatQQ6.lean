/- Results and Held where the call may not be; and at two items. -/
import Derived.Test.YtohnakoineakdaaGreatQQ5
import Derived.Test.YtohnakoineakdaaGreatQSpecFp
namespace Go.Proofs.YtohnakoineakdaaGreat
open Go Go.Ev
set_option linter.unusedVariables false
set_option linter.unusedSimpArgs false

abbrev RE := Int × Int × (Int × Int) × Int × Bool × List Int
theorem Results_bad (n : Nat) (hn : 1099511627776 < n) (c : CF) (xs : List IT) (hx : xs.length ≤ 1099511627776) (a b : Int) (h : mayS c xs [a, b] = false) : spec_Results n c xs a b = some ([], 2100) := by
  rw [spec_Results_S]
  have e : ((List.replicate (2 : Nat) (0 : Int)).set (0 : Nat) a).set (1 : Nat) b = [a, b] := rfl
  rw [e, may_two n hn c xs hx, h]
  rfl
theorem Held_bad (n : Nat) (hn : 1099511627776 < n) (c : CF) (xs : List IT) (hx : xs.length ≤ 1099511627776) (a : Int) (h : mayS c xs [a] = false) : spec_Held n c xs a = some ([], 2100) := by
  rw [spec_Held_S]
  have e : (List.replicate (1 : Nat) (0 : Int)).set (0 : Nat) a = [a] := rfl
  rw [e, may_one n hn c xs hx, h]
  rfl

/-- A config of one query that counts. -/
def cfg1 (late room : Int) : CF := ([(0, 0, 10, 0, [], 0)], late, room, 2, 1)
def two : List IT := [(0, 5, 1, 1), (0, 6, 2, 1)]
theorem good_eq (n : Nat) : spec_Results (n + 40) (cfg1 2 9) two 3 30 = some ([(0, 0, (0, 10), 2, false, [])], 0) := by kernel_rfl
theorem held_eq (n : Nat) : spec_Held (n + 40) (cfg1 2 9) two 30 = some ([], 0) := by kernel_rfl
end Go.Proofs.YtohnakoineakdaaGreat
