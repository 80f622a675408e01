/- Masks of low bits of an int. -/
import Derived.Test.YtiljlopgjlgfoaaGrpA
import Derived.Laws.Bits64b
namespace Go.Proofs.Ytiljlopgjlgfoaa
open Go.RowKit

theorem and_mask (x : Int) (k : Nat) (hk : k ≤ 62) : bits .and .i64 x ((2 ^ k - 1 : Nat) : Int) = x % ((2 ^ k : Nat) : Int) := by
  have hp : 2 ^ k ≤ 2 ^ 62 := Nat.pow_le_pow_right (by omega) hk
  have hp0 : 0 < 2 ^ k := Nat.two_pow_pos k
  show IntKind.i64.wrap ((BitVec.ofInt 64 x &&& BitVec.ofInt 64 ((2 ^ k - 1 : Nat) : Int)).toNat : Int) = _
  have h2 : (BitVec.ofInt 64 ((2 ^ k - 1 : Nat) : Int)).toNat = 2 ^ k - 1 := by
    rw [BitVec.ofInt_natCast, BitVec.toNat_ofNat]; exact Nat.mod_eq_of_lt (by omega)
  rw [BitVec.toNat_and, h2, BitVec.toNat_ofInt, Nat.and_two_pow_sub_one_eq_mod]
  have hd : ((2 ^ k : Nat) : Int) ∣ ((2 ^ 64 : Nat) : Int) := by
    exact_mod_cast Nat.pow_dvd_pow 2 (show k ≤ 64 by omega)
  have e1 : (((x % ((2 ^ 64 : Nat) : Int)).toNat % 2 ^ k : Nat) : Int) = x % ((2 ^ k : Nat) : Int) := by
    rw [Int.natCast_emod, Int.toNat_of_nonneg (Int.emod_nonneg _ (by decide)), Int.emod_emod_of_dvd _ hd]
  rw [e1]
  have h3 := Int.emod_nonneg x (show ((2 ^ k : Nat) : Int) ≠ 0 by omega)
  have h4 := Int.emod_lt_of_pos x (show (0 : Int) < ((2 ^ k : Nat) : Int) by omega)
  rw [IntKind.wrap_i64]
  omega
theorem and_1 (x : Int) : bits .and .i64 x 1 = x % 2 := and_mask x 1 (by omega)
theorem and_63 (x : Int) : bits .and .i64 x 63 = x % 64 := and_mask x 6 (by omega)
theorem and_1023 (x : Int) : bits .and .i64 x 1023 = x % 1024 := and_mask x 10 (by omega)
theorem and_p20 (x : Int) : bits .and .i64 x 1048575 = x % 1048576 := and_mask x 20 (by omega)
theorem and_p60 (x : Int) : bits .and .i64 x 1152921504606846975 = x % 1152921504606846976 := and_mask x 60 (by omega)
theorem and_p61 (x : Int) : bits .and .i64 x 2305843009213693951 = x % 2305843009213693952 := and_mask x 61 (by omega)
theorem and_p62 (x : Int) : bits .and .i64 x 4611686018427387903 = x % 4611686018427387904 := and_mask x 62 (by omega)
end Go.Proofs.Ytiljlopgjlgfoaa
