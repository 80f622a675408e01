/- A long division by two digits behind a shift: the plain law. No step of the program here. -/
import Derived.Test.YtiljlopgjlgfoaaDivA
import Derived.Lib.BitFns
namespace Go.Proofs.Ytiljlopgjlgfoaa

theorem bitLen_range : ∀ (f x : Nat), x ≠ 0 → x < 2 ^ f → f ≤ 64 → 1 ≤ Lib.bitLen x ∧ Lib.bitLen x ≤ f ∧ 2 ^ (Lib.bitLen x - 1) ≤ x ∧ x < 2 ^ Lib.bitLen x
  | 0, x, h0, h, _ => by simp at h; omega
  | f + 1, x, h0, h, hf => by
    have hx64 : x < 2 ^ 64 := Nat.lt_of_lt_of_le h (Nat.pow_le_pow_right (by omega) hf)
    by_cases h1 : x = 1
    · subst h1
      have e : Lib.bitLen 1 = 1 := by decide
      rw [e]
      refine ⟨by omega, by omega, by decide, by decide⟩
    · obtain ⟨a, b, c, d⟩ := bitLen_range f (x / 2) (by omega) (by rw [Nat.pow_succ] at h; omega) (by omega)
      rw [Lib.bitLen_half x h0 hx64]
      obtain ⟨n, hn⟩ : ∃ n, Lib.bitLen (x / 2) = n + 1 := ⟨Lib.bitLen (x / 2) - 1, by omega⟩
      rw [hn] at c d b ⊢
      rw [show 1 + (n + 1) - 1 = n + 1 by omega, show 1 + (n + 1) = n + 1 + 1 by omega]
      rw [show n + 1 - 1 = n by omega] at c
      rw [Nat.pow_succ] at d ⊢
      have e2 : 2 ^ (n + 1 + 1) = 2 ^ (n + 1) * 2 := Nat.pow_succ 2 (n + 1)
      have e3 : 2 ^ (n + 1) = 2 ^ n * 2 := Nat.pow_succ 2 n
      refine ⟨by omega, by omega, by omega, by omega⟩
theorem norm_shift (y : Nat) (h0 : y ≠ 0) (hy : y < 18446744073709551616) : Lib.bitLen y ≤ 64 ∧ 9223372036854775808 ≤ y * 2 ^ (64 - Lib.bitLen y) ∧ y * 2 ^ (64 - Lib.bitLen y) < 18446744073709551616 := by
  obtain ⟨a, b, c, d⟩ := bitLen_range 64 y h0 hy (by omega)
  refine ⟨b, ?_, ?_⟩
  · have h1 : 2 ^ (Lib.bitLen y - 1) * 2 ^ (64 - Lib.bitLen y) ≤ y * 2 ^ (64 - Lib.bitLen y) := Nat.mul_le_mul_right _ c
    rw [← Nat.pow_add, show Lib.bitLen y - 1 + (64 - Lib.bitLen y) = 63 by omega] at h1
    exact h1
  · have h1 : y * 2 ^ (64 - Lib.bitLen y) < 2 ^ Lib.bitLen y * 2 ^ (64 - Lib.bitLen y) := Nat.mul_lt_mul_of_pos_right d (Nat.two_pow_pos _)
    rw [← Nat.pow_add, show Lib.bitLen y + (64 - Lib.bitLen y) = 64 by omega] at h1
    exact h1
/-- two digits, one behind the other -/
theorem two_digits (U Y D1 D0 : Nat) (hY : 0 < Y) :
    (U * 18446744073709551616 + (D1 * 4294967296 + D0)) / Y = (U * 4294967296 + D1) / Y * 4294967296 + ((U * 4294967296 + D1) % Y * 4294967296 + D0) / Y ∧
    (U * 18446744073709551616 + (D1 * 4294967296 + D0)) % Y = ((U * 4294967296 + D1) % Y * 4294967296 + D0) % Y := by
  have hd := Nat.div_add_mod (U * 4294967296 + D1) Y
  obtain ⟨q, hq⟩ : ∃ q, (U * 4294967296 + D1) / Y = q := ⟨_, rfl⟩
  obtain ⟨r, hr⟩ : ∃ r, (U * 4294967296 + D1) % Y = r := ⟨_, rfl⟩
  rw [hq, hr] at hd ⊢
  have e : U * 18446744073709551616 + (D1 * 4294967296 + D0) = Y * (q * 4294967296) + (r * 4294967296 + D0) := by
    rw [← Nat.mul_assoc, show U * 18446744073709551616 + (D1 * 4294967296 + D0) = (U * 4294967296 + D1) * 4294967296 + D0 by omega, ← hd, Nat.add_mul, Nat.add_assoc]
  rw [e]
  exact ⟨Nat.mul_add_div hY _ _, Nat.mul_add_mod _ _ _⟩
theorem shift_div (N y K : Nat) (hK : 0 < K) : N * K / (y * K) = N / y ∧ N * K % (y * K) / K = N % y := by
  refine ⟨Nat.mul_div_mul_right N y hK, ?_⟩
  rw [Nat.mul_mod_mul_right, Nat.mul_div_cancel _ hK]
end Go.Proofs.Ytiljlopgjlgfoaa
