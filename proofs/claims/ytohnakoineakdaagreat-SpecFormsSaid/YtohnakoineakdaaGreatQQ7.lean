/- Small things for the laws. -/
import Derived.Test.YtohnakoineakdaaGreatQQ6
import Derived.Test.YtohnakoineakdaaGreatQSpecGp
namespace Go.Proofs.YtohnakoineakdaaGreat
open Go Go.Ev
set_option linter.unusedVariables false
set_option linter.unusedSimpArgs false

theorem maskP (a : Int) (k : Nat) (hk : k ≤ 62) (m : Int) (hm : m = 2 ^ k - 1) : Go.IntKind.i64.wrap (((BitVec.ofInt Go.IntKind.i64.bits a &&& BitVec.ofInt Go.IntKind.i64.bits m).toNat : Nat) : Int) = ((((a % 18446744073709551616).toNat) % 2 ^ k : Nat) : Int) := by
  have hb : Go.IntKind.i64.bits = 64 := rfl
  have p0 : (2 : Nat) ^ k ≤ 2 ^ 62 := Nat.pow_le_pow_right (by decide) hk
  have p1 : 0 < (2 : Nat) ^ k := Nat.pow_pos (by decide)
  have pc : ((2 : Int) ^ k) = (((2 : Nat) ^ k : Nat) : Int) := by simp
  have e : (BitVec.ofInt Go.IntKind.i64.bits a &&& BitVec.ofInt Go.IntKind.i64.bits m).toNat = (a % 18446744073709551616).toNat % 2 ^ k := by
    rw [BitVec.toNat_and, BitVec.toNat_ofInt, BitVec.toNat_ofInt, hb]
    have e1 : (m % ((2 ^ 64 : Nat) : Int)).toNat = 2 ^ k - 1 := by rw [hm, pc]; omega
    rw [e1, Nat.and_two_pow_sub_one_eq_mod]
    rfl
  rw [e]
  have := Nat.mod_lt (a % 18446744073709551616).toNat p1
  exact wrapOK (by omega) (by omega)
theorem mask15 (a : Int) : Go.IntKind.i64.wrap (((BitVec.ofInt Go.IntKind.i64.bits a &&& BitVec.ofInt Go.IntKind.i64.bits 15).toNat : Nat) : Int) = a % 16 := by
  rw [maskP a 4 (by decide) 15 rfl]; omega
theorem mask31 (a : Int) : Go.IntKind.i64.wrap (((BitVec.ofInt Go.IntKind.i64.bits a &&& BitVec.ofInt Go.IntKind.i64.bits 31).toNat : Nat) : Int) = a % 32 := by
  rw [maskP a 5 (by decide) 31 rfl]; omega
theorem mask63 (a : Int) : Go.IntKind.i64.wrap (((BitVec.ofInt Go.IntKind.i64.bits a &&& BitVec.ofInt Go.IntKind.i64.bits 63).toNat : Nat) : Int) = a % 64 := by
  rw [maskP a 6 (by decide) 63 rfl]; omega
theorem mask127 (a : Int) : Go.IntKind.i64.wrap (((BitVec.ofInt Go.IntKind.i64.bits a &&& BitVec.ofInt Go.IntKind.i64.bits 127).toNat : Nat) : Int) = a % 128 := by
  rw [maskP a 7 (by decide) 127 rfl]; omega
theorem mask1023 (a : Int) : Go.IntKind.i64.wrap (((BitVec.ofInt Go.IntKind.i64.bits a &&& BitVec.ofInt Go.IntKind.i64.bits 1023).toNat : Nat) : Int) = a % 1024 := by
  rw [maskP a 10 (by decide) 1023 rfl]; omega
theorem awake_eq (n : Nat) : c25.F n PUnit.unit = some true := rfl
end Go.Proofs.YtohnakoineakdaaGreat
