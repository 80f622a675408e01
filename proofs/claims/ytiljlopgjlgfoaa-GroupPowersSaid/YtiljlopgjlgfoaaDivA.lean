/- One digit of a long division: the plain law. No step of the program here. -/
import Derived.Test.YtiljlopgjlgfoaaGrpA
namespace Go.Proofs.Ytiljlopgjlgfoaa

/-- a digit that is not too small and passes the test is the digit -/
theorem digit_eq {u d y y1 y0 q r : Nat} (hy : y = y1 * 4294967296 + y0) (hr : u = q * y1 + r) (hge : (u * 4294967296 + d) / y ≤ q) (hy0 : 0 < y) (htest : q * y0 ≤ 4294967296 * r + d) : q = (u * 4294967296 + d) / y := by
  apply Nat.le_antisymm _ hge
  rw [Nat.le_div_iff_mul_le hy0]
  have e : q * y = q * y1 * 4294967296 + q * y0 := by rw [hy, Nat.mul_add, Nat.mul_assoc]
  rw [e, hr, Nat.add_mul]
  omega
/-- a digit that fails it is too great -/
theorem digit_gt {u d y y1 y0 q r : Nat} (hy : y = y1 * 4294967296 + y0) (hr : u = q * y1 + r) (hy0 : 0 < y) (htest : 4294967296 * r + d < q * y0) : (u * 4294967296 + d) / y < q := by
  rw [Nat.div_lt_iff_lt_mul hy0]
  have e : q * y = q * y1 * 4294967296 + q * y0 := by rw [hy, Nat.mul_add, Nat.mul_assoc]
  rw [e, hr, Nat.add_mul]
  omega
theorem digit_small {u d y : Nat} (hu : u < y) (hd : d < 4294967296) : (u * 4294967296 + d) / y < 4294967296 := by
  rw [Nat.div_lt_iff_lt_mul (by omega)]
  have : (u + 1) * 4294967296 ≤ y * 4294967296 := Nat.mul_le_mul_right _ hu
  rw [Nat.mul_comm 4294967296 y]
  omega
/-- the first guess is not too small -/
theorem digit_first {u d y y1 y0 : Nat} (hy : y = y1 * 4294967296 + y0) (h1 : 0 < y1) (hd : d < 4294967296) : (u * 4294967296 + d) / y ≤ u / y1 := by
  have h2 : (u * 4294967296 + d) / y ≤ (u * 4294967296 + d) / (y1 * 4294967296) := Nat.div_le_div_left (by omega) (by omega)
  refine Nat.le_trans h2 ?_
  rw [Nat.mul_comm y1, ← Nat.div_div_eq_div_mul, show (u * 4294967296 + d) / 4294967296 = u by omega]
  exact Nat.le_refl _
/-- the first guess is at most 2^32 + 1 -/
theorem digit_guess {u y y1 y0 : Nat} (hy : y = y1 * 4294967296 + y0) (h1 : 2147483648 ≤ y1) (h0 : y0 < 4294967296) (hu : u < y) : u / y1 ≤ 4294967297 := by
  have h2 : u < 4294967298 * y1 := by omega
  have h3 := (Nat.div_lt_iff_lt_mul (show 0 < y1 by omega)).2 h2
  omega
/-- where the rest has outgrown 2^32 the test holds -/
theorem digit_break {q r d y0 : Nat} (hq : q ≤ 4294967296) (h0 : y0 < 4294967296) (hr : 4294967296 ≤ r) : q * y0 ≤ 4294967296 * r + d := by
  have h1 : q * y0 ≤ 4294967296 * y0 := Nat.mul_le_mul_right _ hq
  omega
end Go.Proofs.Ytiljlopgjlgfoaa
