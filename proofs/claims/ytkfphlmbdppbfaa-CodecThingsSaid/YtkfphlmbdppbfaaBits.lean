/- What 'and' with 2^j - 1 makes of a number. No condition. -/
import Derived.Test.YtkfphlmbdppbfaaBase
namespace Go.Proofs.Ytkfphlmbdppbfaa
open Go.RowKit
theorem and_mask (n m : Int) (j : Nat) (hj : j ≤ 62) (hm : (BitVec.ofInt 64 m).toNat = 2 ^ j - 1) : bits .and .i64 n m = n % (2 ^ j : Nat) := by
  have key : (BitVec.ofInt 64 n &&& BitVec.ofInt 64 m).toNat = (n % ((2 ^ 64 : Nat) : Int)).toNat % 2 ^ j := by
    rw [BitVec.toNat_and, BitVec.toNat_ofInt, hm, Nat.and_two_pow_sub_one_eq_mod]
  show IntKind.i64.wrap ((BitVec.ofInt 64 n &&& BitVec.ofInt 64 m).toNat : Nat) = n % (2 ^ j : Nat)
  rw [key, IntKind.wrap_i64]
  have h1 : (n % ((2 ^ 64 : Nat) : Int)).toNat % 2 ^ j < 2 ^ j := Nat.mod_lt _ (Nat.two_pow_pos j)
  have h2 : (2 : Nat) ^ j ≤ 2 ^ 62 := Nat.pow_le_pow_right (by omega) hj
  have h3 : (((n % ((2 ^ 64 : Nat) : Int)).toNat % 2 ^ j : Nat) : Int) = n % (2 ^ j : Nat) := by
    have e : (((n % ((2 ^ 64 : Nat) : Int)).toNat : Nat) : Int) = n % ((2 ^ 64 : Nat) : Int) := Int.toNat_of_nonneg (Int.emod_nonneg _ (by decide))
    rw [Int.natCast_emod, e]
    exact Int.emod_emod_of_dvd n (Int.natCast_dvd_natCast.2 (Nat.pow_dvd_pow 2 (by omega)))
  rw [h3]
  have h4 : 0 ≤ n % ((2 ^ j : Nat) : Int) := Int.emod_nonneg _ (by have := Nat.two_pow_pos j; omega)
  have h5 : n % ((2 ^ j : Nat) : Int) < ((2 ^ j : Nat) : Int) := Int.emod_lt_of_pos _ (by have := Nat.two_pow_pos j; omega)
  have h6 : (((2 : Nat) ^ j : Nat) : Int) ≤ ((2 ^ 62 : Nat) : Int) := Int.ofNat_le.2 h2
  have h7 : (((2 : Nat) ^ 62 : Nat) : Int) = 4611686018427387904 := by decide
  omega
theorem and1 (n : Int) : bits .and .i64 n 1 = n % 2 := and_mask n 1 1 (by decide) (by decide)
theorem and3 (n : Int) : bits .and .i64 n 3 = n % 4 := and_mask n 3 2 (by decide) (by decide)
theorem and7 (n : Int) : bits .and .i64 n 7 = n % 8 := and_mask n 7 3 (by decide) (by decide)
theorem and15 (n : Int) : bits .and .i64 n 15 = n % 16 := and_mask n 15 4 (by decide) (by decide)
theorem and31 (n : Int) : bits .and .i64 n 31 = n % 32 := and_mask n 31 5 (by decide) (by decide)
theorem and63 (n : Int) : bits .and .i64 n 63 = n % 64 := and_mask n 63 6 (by decide) (by decide)
theorem and255 (n : Int) : bits .and .i64 n 255 = n % 256 := and_mask n 255 8 (by decide) (by decide)
theorem and65535 (n : Int) : bits .and .i64 n 65535 = n % 65536 := and_mask n 65535 16 (by decide) (by decide)
theorem and24 (n : Int) : bits .and .i64 n 16777215 = n % 16777216 := and_mask n 16777215 24 (by decide) (by decide)
end Go.Proofs.Ytkfphlmbdppbfaa
