/- Plain laws of the group's numbers: inverses, powers, members. No step of the program here. -/
import Derived.Test.YtiljlopgjlgfoaaGrpE
import Derived.Test.YtiljlopgjlgfoaaNum
namespace Go.Proofs.Ytiljlopgjlgfoaa
open Go.RowKit

theorem cong_wit {x r m : Int} (h : x % m = r % m) : ∃ u, x = r + m * u := by
  refine ⟨x / m - r / m, ?_⟩
  have h1 := Int.mul_ediv_add_emod x m
  have h2 := Int.mul_ediv_add_emod r m
  rw [Int.mul_sub]
  omega
theorem cong_of {x r m : Int} (u : Int) (h : x = r + m * u) : x % m = r % m := by rw [h, Int.add_mul_emod_self_left]
theorem emod_wit (x m : Int) : ∃ u, x % m = x + m * u := cong_wit (Int.emod_emod_of_dvd _ (Int.dvd_refl m))
theorem gcd_mod (m a : Int) : Int.gcd m (a % m) = Int.gcd m a := by
  obtain ⟨u, hu⟩ := emod_wit a m
  rw [hu, Int.gcd_add_mul_left_right]
theorem invL_law {a m : Int} (hm : 0 < m) : ∀ (n : Nat) (r s x y : Int), s.toNat ≤ n → 0 ≤ r → 0 ≤ s → (a * x) % m = r % m → (a * y) % m = s % m →
    (a * (invL m r s x y).2) % m = (invL m r s x y).1 % m ∧ (invL m r s x y).1 = (Int.gcd r s : Int)
  | 0, r, s, x, y, hn, hr, hs, h1, h2 => by
    have hs0 : s = 0 := by omega
    rw [invL_end (by omega), hs0]
    refine ⟨h1, ?_⟩
    rw [Int.gcd_zero_right]
    omega
  | n + 1, r, s, x, y, hn, hr, hs, h1, h2 => by
    by_cases hp : 0 < s
    · rw [invL_pos hp]
      have hm0 := Int.emod_nonneg r (show s ≠ 0 by omega)
      have hm1 := Int.emod_lt_of_pos r hp
      have h3 : (a * subS x (mulS (r / s) y m) m) % m = (r % s) % m := by
        rw [mulS_pos (by omega)]
        unfold subS
        rw [if_neg (by omega)]
        obtain ⟨u, hu⟩ := cong_wit h1
        obtain ⟨v, hv⟩ := cong_wit h2
        obtain ⟨t, ht⟩ := emod_wit (r / s * y) m
        obtain ⟨t2, ht2⟩ := emod_wit (x - r / s * y % m) m
        have hd := Int.mul_ediv_add_emod r s
        generalize r / s = q at *
        generalize r % s = R at *
        rw [ht2, ht]
        refine cong_of (u - q * v + a * t2 - a * t) ?_
        rw [ht] at ht2
        clear ht2 ht h1 h2
        grind
      obtain ⟨e1, e2⟩ := invL_law hm n s (r % s) y (subS x (mulS (r / s) y m) m) (by omega) hs hm0 h2 h3
      refine ⟨e1, ?_⟩
      rw [e2, Int.gcd_comm r s, gcd_mod]
    · have hs0 : s = 0 := by omega
      rw [invL_end hp, hs0]
      refine ⟨h1, ?_⟩
      rw [Int.gcd_zero_right]
      omega
theorem invL_start {a m : Int} (hm : 2 ≤ m) : (a * (invL m m (a % m) 0 1).2) % m = (invL m m (a % m) 0 1).1 % m ∧ (invL m m (a % m) 0 1).1 = (Int.gcd m a : Int) := by
  obtain ⟨h1, h2⟩ := emod_range (a := a) (m := m) (by omega)
  have h := invL_law (a := a) (m := m) (by omega) (a % m).toNat m (a % m) 0 1 (Nat.le_refl _) (by omega) h1 (by simp) (by simp)
  rw [gcd_mod] at h
  exact h
theorem invL_range {m : Int} (hm : 0 < m) : ∀ (n : Nat) (r s x y : Int), s.toNat ≤ n → 0 ≤ x → x < m → 0 ≤ y → y < m → 0 ≤ (invL m r s x y).2 ∧ (invL m r s x y).2 < m
  | 0, r, s, x, y, hn, x0, x1, _, _ => by rw [invL_end (by omega)]; exact ⟨x0, x1⟩
  | n + 1, r, s, x, y, hn, x0, x1, y0, y1 => by
    by_cases hp : 0 < s
    · rw [invL_pos hp]
      have hm1 := Int.emod_lt_of_pos r hp
      obtain ⟨h5, h6⟩ := subS_range (a := x) (b := mulS (r / s) y m) (m := m) hm
      exact invL_range hm n s (r % s) y _ (by omega) y0 y1 h5 h6
    · rw [invL_end hp]; exact ⟨x0, x1⟩
theorem invB_iff {a m : Int} : invB a m = true ↔ 2 ≤ m ∧ Int.gcd m a = 1 := by
  unfold invB
  by_cases h : m < 2
  · rw [if_pos h]; simp; omega
  · rw [if_neg h, (invL_start (a := a) (by omega)).2]
    simp; omega
/-- the inverse times the number is 1 -/
theorem inv_law {a m : Int} (h : invB a m = true) : a * invV a m % m = 1 ∧ 1 ≤ invV a m ∧ invV a m < m := by
  obtain ⟨h2, hg⟩ := invB_iff.1 h
  obtain ⟨e1, e2⟩ := invL_start (a := a) h2
  rw [hg] at e2
  obtain ⟨r0, r1⟩ := invL_range (m := m) (by omega) (a % m).toNat m (a % m) 0 1 (Nat.le_refl _) (by omega) (by omega) (by omega) (by omega)
  have hv : invV a m = (invL m m (a % m) 0 1).2 := by
    unfold invV
    rw [if_neg (by omega), if_pos (by rw [e2]; rfl)]
  rw [hv]
  have h1 : a * (invL m m (a % m) 0 1).2 % m = 1 := by
    rw [e1, e2]
    exact Int.emod_eq_of_lt (by omega) (by omega)
  refine ⟨h1, ?_, r1⟩
  by_cases hz : (invL m m (a % m) 0 1).2 = 0
  · rw [hz, Int.mul_zero, Int.zero_emod] at h1
    omega
  · omega
theorem inv_zero {a m : Int} (h : invB a m = false) : invV a m = 0 := by
  unfold invB at h
  unfold invV
  split
  · rfl
  · rename_i hm
    rw [if_neg hm] at h
    rw [if_neg (by simpa using h)]
theorem inv_unique {a m x : Int} (h : invB a m = true) (h0 : 0 ≤ x) (h1 : x < m) (hx : a * x % m = 1) : invV a m = x := by
  obtain ⟨e, v0, v1⟩ := inv_law h
  obtain ⟨h2, _⟩ := invB_iff.1 h
  have e1 : (a * x) % m = 1 % m := by rw [hx]; exact (Int.emod_eq_of_lt (by omega) (by omega)).symm
  have e2 : (a * invV a m) % m = 1 % m := by rw [e]; exact (Int.emod_eq_of_lt (by omega) (by omega)).symm
  obtain ⟨u, hu⟩ := cong_wit e1
  obtain ⟨v, hv⟩ := cong_wit e2
  -- x = x (a V) = V (a x) = V
  have e3 : invV a m % m = x % m := by
    refine cong_of (x * v - invV a m * u) ?_
    clear e1 e2 e hx
    generalize invV a m = V at *
    grind
  rw [Int.emod_eq_of_lt (by omega) v1, Int.emod_eq_of_lt h0 h1] at e3
  exact e3
theorem gcd_prime {p : Nat} (hp : Num.Pr p) {a : Int} : Int.gcd (p : Int) a = 1 ↔ a % (p : Int) ≠ 0 := by
  have h2 := hp.1
  constructor
  · intro h hz
    rw [← gcd_mod, hz, Int.gcd_zero_right] at h
    simp at h
    omega
  · intro h
    rcases hp.2 (Int.gcd (p : Int) a) (by have := Int.gcd_dvd_left (p : Int) a; exact_mod_cast this) with e | e
    · exact e
    · exfalso
      have h3 := Int.gcd_dvd_right (p : Int) a
      rw [e] at h3
      exact h (Int.emod_eq_zero_of_dvd h3)
theorem invB_P {a : Int} : invB a Pv = true ↔ a % Pv ≠ 0 := by
  rw [invB_iff]
  have := gcd_prime Num.prime_P (a := a)
  constructor
  · rintro ⟨_, h⟩; exact this.1 h
  · intro h; exact ⟨by decide, this.2 h⟩
theorem invB_Q {a : Int} : invB a Qv = true ↔ a % Qv ≠ 0 := by
  rw [invB_iff]
  have := gcd_prime Num.prime_Q (a := a)
  constructor
  · rintro ⟨_, h⟩; exact this.1 h
  · intro h; exact ⟨by decide, this.2 h⟩
theorem powS_nat {a n m : Nat} (hm : 1 ≤ m) : powS (a : Int) (n : Int) (m : Int) = ((a ^ n % m : Nat) : Int) := by
  unfold powS
  rw [if_neg (by omega), Int.toNat_natCast]
  push_cast
  rfl
theorem powS_const {a n m r : Nat} (hm : 1 ≤ m) (hn : n < 2 ^ 64) (h : Num.qpow a m 64 n (1 % m) = r) : powS (a : Int) (n : Int) (m : Int) = (r : Int) := by
  rw [powS_nat hm, Num.pow_of 64 hn h]
theorem pow_4_QP : powS 4 Qv Pv = 1 := powS_const (a := 4) (n := 1152921504606845789) (m := 2305843009213691579) (r := 1) (by decide) (by decide) (by decide +kernel)
theorem pow_1_QP : powS 1 Qv Pv = 1 := powS_const (a := 1) (n := 1152921504606845789) (m := 2305843009213691579) (r := 1) (by decide) (by decide) (by decide +kernel)
theorem pow_2_QP : powS 2 Qv Pv = 2305843009213691578 := powS_const (a := 2) (n := 1152921504606845789) (m := 2305843009213691579) (r := 2305843009213691578) (by decide) (by decide) (by decide +kernel)
theorem mem_1 : memB 1 = true := by unfold memB; rw [pow_1_QP]; decide
theorem mem_4 : memB 4 = true := by unfold memB; rw [pow_4_QP]; decide
theorem mem_2 : memB 2 = false := by unfold memB; rw [pow_2_QP]; decide
theorem mem_0 : memB 0 = false := by unfold memB; rw [show decide ((1 : Int) ≤ 0) = false from rfl]; rfl
theorem inv_3_7 : invV 3 7 = 5 ∧ invB 3 7 = true := by
  have h : invB 3 7 = true := invB_iff.2 ⟨by decide, by decide⟩
  exact ⟨inv_unique h (by decide) (by decide) (by decide), h⟩
theorem inv_2_4 : invB 2 4 = false := by
  cases h : invB 2 4
  · rfl
  · exact absurd (invB_iff.1 h).2 (by decide)
theorem inv_0_7 : invB 0 7 = false := by
  cases h : invB 0 7
  · rfl
  · exact absurd (invB_iff.1 h).2 (by decide)
theorem neg_pow_odd (a : Int) (k : Nat) : (-a) ^ (2 * k + 1) = -(a ^ (2 * k + 1)) := by
  rw [Int.pow_succ, Int.pow_succ, pow_dbl, pow_dbl, Int.neg_mul_neg, Int.mul_neg]
theorem powS_QP (a : Int) : powS a Qv Pv = a ^ Qv.toNat % Pv := by unfold powS; rw [if_neg (by decide)]
/-- a number's power to Q is 1 or -1 -/
theorem euler_P {a : Int} (ha : a % Pv ≠ 0) : powS a Qv Pv = 1 ∨ powS a Qv Pv = Pv - 1 := by
  rw [powS_QP]
  obtain ⟨X, hX⟩ : ∃ X : Nat, a % Pv = (X : Int) := ⟨(a % Pv).toNat, by have := Int.emod_nonneg a (show Pv ≠ 0 by decide); omega⟩
  rw [← pow_emod, hX]
  obtain ⟨e, he⟩ : ∃ e, Qv.toNat = e := ⟨_, rfl⟩
  have he2 : 2305843009213691579 - 1 = 2 * e := by rw [← he]; rfl
  rw [he]
  have hX0 : X % 2305843009213691579 ≠ 0 := by
    have h1 := Int.emod_lt_of_pos a (show (0 : Int) < Pv by decide)
    rw [hX] at h1 ha
    unfold Pv at h1
    omega
  have hf := Num.fermat_P X (2 * e) he2 hX0
  have hlt := Nat.mod_lt (X ^ e) (show 2305843009213691579 > 0 by decide)
  obtain ⟨y, hy⟩ : ∃ y, X ^ e % 2305843009213691579 = y := ⟨_, rfl⟩
  have hyy : y * y % 2305843009213691579 = 1 := by rw [← hy, ← Nat.mul_mod, ← Nat.pow_add, ← Nat.two_mul]; exact hf
  have hcast : (X : Int) ^ e % Pv = (y : Int) := by rw [← hy, Int.natCast_emod, Int.natCast_pow]; rfl
  rw [hcast]
  rw [hy] at hlt
  have hy0 : y ≠ 0 := by rintro rfl; rw [Nat.zero_mul, Nat.zero_mod] at hyy; omega
  have hdvd : 2305843009213691579 ∣ (y - 1) * (y + 1) := by
    have e1 : (y - 1) * (y + 1) = y * y - 1 := by
      obtain ⟨z, rfl⟩ : ∃ z, y = z + 1 := ⟨y - 1, by omega⟩
      rw [Nat.add_sub_cancel, Nat.mul_add, Nat.mul_one, Nat.add_mul, Nat.mul_add]
      omega
    rw [e1]
    have := Nat.div_add_mod (y * y) 2305843009213691579
    rw [hyy] at this
    exact ⟨y * y / 2305843009213691579, by omega⟩
  rcases Num.prime_P.2 (Nat.gcd 2305843009213691579 (y - 1)) (Nat.gcd_dvd_left _ _) with h | h
  · right
    have h2 : 2305843009213691579 ∣ y + 1 := Nat.Coprime.dvd_of_dvd_mul_left h hdvd
    have := Nat.le_of_dvd (by omega) h2
    unfold Pv
    omega
  · left
    have h2 : 2305843009213691579 ∣ y - 1 := by rw [← h]; exact Nat.gcd_dvd_right _ _
    by_cases hz : y - 1 = 0
    · omega
    · have := Nat.le_of_dvd (by omega) h2
      omega
theorem mem_neg {a : Int} (h1 : 1 ≤ a) (h2 : a < Pv) : memB a ≠ memB (Pv - a) := by
  have h0 : a % Pv ≠ 0 := by rw [Int.emod_eq_of_lt (by omega) h2]; omega
  have hn : powS (Pv - a) Qv Pv = (-(powS a Qv Pv)) % Pv := by
    rw [powS_QP, powS_QP]
    obtain ⟨k, hk⟩ : ∃ k, Qv.toNat = 2 * k + 1 := ⟨576460752303422894, by decide⟩
    rw [hk, ← pow_emod, show Pv - a = -a + Pv * 1 by omega, Int.add_mul_emod_self_left, pow_emod, neg_pow_odd]
    obtain ⟨u, hu⟩ := emod_wit (a ^ (2 * k + 1)) Pv
    rw [hu]
    refine cong_of u ?_
    omega
  unfold memB
  rw [hn, decide_eq_true h1, decide_eq_true h2, decide_eq_true (show 1 ≤ Pv - a by omega), decide_eq_true (show Pv - a < Pv by omega)]
  rcases euler_P h0 with h | h <;> rw [h] <;> decide
end Go.Proofs.Ytiljlopgjlgfoaa
