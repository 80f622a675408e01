/- Powers of the reference, inverses and members: both implementations. -/
import Derived.Test.YtiljlopgjlgfoaaGrpC
namespace Go.Proofs.Ytiljlopgjlgfoaa
open Go.RowKit

theorem emod_emod' (x m : Int) : x % m % m = x % m := Int.emod_emod_of_dvd _ (Int.dvd_refl m)
theorem pow_emod (x m : Int) : ∀ n : Nat, (x % m) ^ n % m = x ^ n % m
  | 0 => by rw [Int.pow_zero, Int.pow_zero]
  | n + 1 => by rw [Int.pow_succ, Int.mul_emod, pow_emod x m n, emod_emod', ← Int.mul_emod, ← Int.pow_succ]
theorem pow_dbl (x : Int) (n : Nat) : x ^ (2 * n) = (x * x) ^ n := by rw [Int.pow_mul]; congr 1; rw [Int.pow_succ, Int.pow_succ, Int.pow_zero, Int.one_mul]
theorem pow_odd {O X m T : Int} {N N2 : Nat} (hN : N = 2 * N2 + 1) (h : (O * X ^ N) % m = T) : (O * X % m * (X * X % m) ^ N2) % m = T := by
  rw [← h, hN, Int.mul_emod, pow_emod, emod_emod', ← Int.mul_emod, Int.pow_succ, pow_dbl]
  congr 1
  rw [Int.mul_assoc, Int.mul_comm X]
theorem pow_even {O X m T : Int} {N N2 : Nat} (hN : N = 2 * N2) (h : (O * X ^ N) % m = T) : (O * (X * X % m) ^ N2) % m = T := by
  rw [← h, hN, Int.mul_emod, pow_emod, ← Int.mul_emod, pow_dbl]
theorem mulS_pos {a b m : Int} (hm : ¬ m < 1) : mulS a b m = a * b % m := by unfold mulS; rw [if_neg hm]
set_option maxHeartbeats 1000000 in
theorem refpow_any {a n m : Int} {w : World} (hn2 : n ≤ 9223372036854775807) (hm2 : m ≤ 9223372036854775807) :
    Calls Try.prog 21 #[.int .i64 a, .int .i64 n, .int .i64 m] w fun e w' => e = .returned (.int .i64 (powS a n m)) ∧ w' = w := by
  by_cases hm : m < 1 ∨ n < 0
  · rw [show powS a n m = 0 by unfold powS; rw [if_pos hm]]
    go_enter Try.func21, Try.ntmps21
    by_cases h1 : m < 1
    · go_wp2
      go_ret
      exact ⟨rfl, rfl⟩
    · have h2 : n < 0 := by omega
      have h1' : decide (m < 1) = false := decide_eq_false h1
      clear hm h1
      go_wp2
      go_ret
      exact ⟨rfl, rfl⟩
  · have h1 : ¬ m < 1 := by omega
    have h2 : ¬ n < 0 := by omega
    obtain ⟨T, hT⟩ : ∃ T, powS a n m = T := ⟨_, rfl⟩
    rw [hT]
    have hinit : Hid (((1 % m) * (a % m) ^ n.toNat) % m = T) := by
      show _ = _
      rw [← hT]
      unfold powS
      rw [if_neg hm, Int.mul_emod, Int.emod_emod_of_dvd _ (Int.dvd_refl m), pow_emod, ← Int.mul_emod, Int.one_mul]
    have h1' : decide (m < 1) = false := decide_eq_false h1
    have h2' : decide (n < 0) = false := decide_eq_false h2
    have hm1 : 0 < m := by omega
    have H1 := Lib.hid h1
    have H2 := Lib.hid h2
    clear hm h1 h2 hT
    go_enter Try.func21, Try.ntmps21
    go_wp2_with fail
    refine (refresidue_any (by omega) hm2).mono ?_
    rintro e w1 ⟨rfl, rfl⟩
    go_wp2_with fail
    refine (refresidue_any (by omega) hm2).mono ?_
    rintro e w2 ⟨rfl, rfl⟩
    go_wp2_with fail
    go_loop [1, 7, 8] (fun n o x => ∃ N O X : Int, n = .int .i64 N ∧ o = .int .i64 O ∧ x = .int .i64 X ∧ 0 ≤ N ∧ N ≤ 9223372036854775807 ∧ Hid (O % m = O ∧ (O * X ^ N.toNat) % m = T)) (fun n _ _ => (intOf n).toNat)
    case atStart => exact ⟨n, 1 % m, a % m, rfl, rfl, rfl, by have := H2.out; omega, hn2, ⟨Int.emod_emod_of_dvd _ (Int.dvd_refl m), hinit.out⟩⟩
    case round =>
      obtain ⟨N, O, X, rfl, rfl, rfl, n0, n1, hrel⟩ := hrel
      by_cases hpos : 0 < N
      · obtain ⟨N2, hN2⟩ : ∃ N2, N / 2 = N2 := ⟨_, rfl⟩
        have t2 : wrap64 (N / 2) = N2 := by unfold wrap64; omega
        have HN2 := Lib.hid hN2
        by_cases hodd : N % 2 = 1
        · have he : Hid (mulS O X m % m = mulS O X m ∧ (mulS O X m * mulS X X m ^ N2.toNat) % m = T) := by
            rw [mulS_pos (by have := H1.out; omega), mulS_pos (by have := H1.out; omega)]
            exact ⟨Int.emod_emod_of_dvd _ (Int.dvd_refl m), pow_odd (by omega) hrel.out.2⟩
          clear hN2
          go_wp2_with fail
          refine (refmul_any hm2).mono ?_
          rintro e w3 ⟨rfl, rfl⟩
          go_wp2_with fail
          refine (refmul_any hm2).mono ?_
          rintro e w4 ⟨rfl, rfl⟩
          go_wp2_with fail
          go_round
          case rel =>
            have h1 := HN2.out
            exact ⟨N2, _, _, congrArg (Value.int .i64) h1, rfl, rfl, by omega, by omega, he⟩
          case measure => have h1 := HN2.out; simp [intOf]; omega
        · have he : Hid (O % m = O ∧ (O * mulS X X m ^ N2.toNat) % m = T) := by
            rw [mulS_pos (by have := H1.out; omega)]
            exact ⟨hrel.out.1, pow_even (by omega) hrel.out.2⟩
          have hodd' : (N % 2 == 1) = false := by simpa using hodd
          clear hN2
          go_wp2_with fail
          refine (refmul_any hm2).mono ?_
          rintro e w4 ⟨rfl, rfl⟩
          go_wp2_with fail
          go_round
          case rel =>
            have h1 := HN2.out
            exact ⟨N2, _, _, congrArg (Value.int .i64) h1, rfl, rfl, by omega, by omega, he⟩
          case measure => have h1 := HN2.out; simp [intOf]; omega
      · have hO : O = T := by
          obtain ⟨h, h2⟩ := hrel.out
          rw [show N.toNat = 0 by omega, Int.pow_zero, Int.mul_one, h] at h2
          exact h2
        have HO := Lib.hid hO
        clear hO
        go_wp2
        rw [HO.out]
        go_ret
        exact ⟨rfl, rfl⟩

/-- the rounds of Euclid -/
def invL (m r s x y : Int) : Int × Int := if _h : 0 < s then invL m s (r % s) y (subS x (mulS (r / s) y m) m) else (r, x)
termination_by s.toNat
decreasing_by
  have := Int.emod_lt_of_pos r _h
  omega
theorem invL_pos {m r s x y : Int} (h : 0 < s) : invL m r s x y = invL m s (r % s) y (subS x (mulS (r / s) y m) m) := by rw [invL, dif_pos h]
theorem invL_end {m r s x y : Int} (h : ¬ 0 < s) : invL m r s x y = (r, x) := by rw [invL, dif_neg h]
theorem subS_range {a b m : Int} (hm : 0 < m) : 0 ≤ subS a b m ∧ subS a b m < m := by
  unfold subS; rw [if_neg (by omega)]; exact emod_range hm
def invB (a m : Int) : Bool := if m < 2 then false else (invL m m (a % m) 0 1).1 == 1
def invV (a m : Int) : Int := if m < 2 then 0 else if (invL m m (a % m) 0 1).1 = 1 then (invL m m (a % m) 0 1).2 else 0
theorem inv_lo {a m : Int} (h : m < 2) : invV a m = 0 ∧ invB a m = false := by
  unfold invV invB; rw [if_pos h, if_pos h]; exact ⟨rfl, rfl⟩
theorem inv_no {a m r x : Int} (h : ¬ m < 2) (h2 : invL m m (a % m) 0 1 = (r, x)) (hr : r ≠ 1) : invV a m = 0 ∧ invB a m = false := by
  unfold invV invB; rw [if_neg h, if_neg h, h2]; simp [hr]
theorem inv_yes {a m r x : Int} (h : ¬ m < 2) (h2 : invL m m (a % m) 0 1 = (r, x)) (hr : r = 1) : invV a m = x ∧ invB a m = true := by
  unfold invV invB; rw [if_neg h, if_neg h, h2]; simp [hr]
set_option maxHeartbeats 1000000 in
theorem refinv_any {a m : Int} {w : World} (hm2 : m ≤ 9223372036854775807) :
    Calls Try.prog 19 #[.int .i64 a, .int .i64 m] w fun e w' => e = .returned (.tuple #[.int .i64 (invV a m), .bool (invB a m)]) ∧ w' = w := by
  by_cases hm : m < 2
  · rw [(inv_lo hm).1, (inv_lo hm).2]
    go_enter Try.func19, Try.ntmps19
    go_wp2
    go_ret2
    exact ⟨rfl, rfl⟩
  · obtain ⟨a0, a1⟩ := emod_range (a := a) (m := m) (by omega)
    obtain ⟨V, hV⟩ : ∃ V, invV a m = V := ⟨_, rfl⟩
    obtain ⟨B, hB⟩ : ∃ B, invB a m = B := ⟨_, rfl⟩
    rw [hV, hB]
    have HV := Lib.hid hV
    have HB := Lib.hid hB
    clear hV hB
    go_enter Try.func19, Try.ntmps19
    go_wp2_with fail
    refine (refresidue_any (by omega) hm2).mono ?_
    rintro e w1 ⟨rfl, rfl⟩
    go_wp2_with fail
    go_loop [6, 7, 8, 9] (fun r s x y => ∃ R S X Y : Int, r = .int .i64 R ∧ s = .int .i64 S ∧ x = .int .i64 X ∧ y = .int .i64 Y ∧ 0 ≤ R ∧ R ≤ m ∧ 0 ≤ S ∧ S < m ∧ Hid (invL m m (a % m) 0 1 = invL m R S X Y)) (fun _ s _ _ => (intOf s).toNat)
    case atStart => exact ⟨m, a % m, 0, 1, rfl, rfl, rfl, rfl, by omega, by omega, a0, a1, rfl⟩
    case round =>
      obtain ⟨R, S, X, Y, rfl, rfl, rfl, rfl, r0, r1, s0, s1, hrel⟩ := hrel
      by_cases hpos : 0 < S
      · obtain ⟨Q, hQ⟩ : ∃ Q, R / S = Q := ⟨_, rfl⟩
        have hne : S ≠ 0 := by omega
        have hq0 : 0 ≤ Q := by rw [← hQ]; exact Int.ediv_nonneg r0 s0
        have hdm := Int.mul_ediv_add_emod R S
        have hm0 := Int.emod_nonneg R hne
        have hm1 := Int.emod_lt_of_pos R hpos
        rw [hQ, Int.mul_comm] at hdm
        have hqle : Q ≤ R := by rw [← hQ]; exact Int.ediv_le_self _ r0
        obtain ⟨QS, hQS⟩ : ∃ QS, Q * S = QS := ⟨_, rfl⟩
        rw [hQS] at hdm
        have hQS0 : 0 ≤ QS := by rw [← hQS]; exact Int.mul_nonneg hq0 s0
        obtain ⟨M, hM⟩ : ∃ M, R % S = M := ⟨_, rfl⟩
        rw [hM] at hdm hm0 hm1
        have e1 : wrap64 QS = QS := by unfold wrap64; omega
        have e2 : wrap64 (R - QS) = M := by unfold wrap64; omega
        have e3 : R.tdiv S = Q := by rw [Int.tdiv_eq_ediv_of_nonneg r0]; exact hQ
        have e4 : wrap64 Q = Q := by unfold wrap64; omega
        have he : Hid (invL m m (a % m) 0 1 = invL m S M Y (subS X (mulS Q Y m) m)) := by
          have h := hrel.out
          rw [invL_pos hpos, hM, hQ] at h
          exact h
        have HDM := Lib.hid hdm
        have HM := Lib.hid hM
        clear hdm hM
        clear hQ hne
        go_wp2_with fail
        refine (refmul_any hm2).mono ?_
        rintro e w2 ⟨rfl, rfl⟩
        go_wp2_with fail
        refine (refsub_any hm2).mono ?_
        rintro e w3 ⟨rfl, rfl⟩
        go_wp2_with fail
        go_round
        case rel => exact ⟨S, M, Y, subS X (mulS Q Y m) m, rfl, rfl, rfl, rfl, s0, by omega, hm0, by omega, he⟩
        case measure => simp [intOf]; omega
      · have hE := hrel.out
        rw [invL_end hpos] at hE
        by_cases hR : R = 1
        · have HY := Lib.hid (inv_yes (by omega) hE hR)
          clear hE
          go_wp2
          rw [← HV.out, ← HB.out, HY.out.1, HY.out.2]
          go_ret2
          exact ⟨rfl, rfl⟩
        · have HY := Lib.hid (inv_no (by omega) hE hR)
          have hR' : (R != 1) = true := by simpa using hR
          clear hE
          go_wp2
          rw [← HV.out, ← HB.out, HY.out.1, HY.out.2]
          go_ret2
          exact ⟨rfl, rfl⟩
end Go.Proofs.Ytiljlopgjlgfoaa
