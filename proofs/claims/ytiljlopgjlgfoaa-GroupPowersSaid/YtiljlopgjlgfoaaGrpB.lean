/- Products of the group: both implementations. -/
import Derived.Test.YtiljlopgjlgfoaaDivB
namespace Go.Proofs.Ytiljlopgjlgfoaa
open Go.RowKit

def mulS (a b m : Int) : Int := if m < 1 then 0 else (a * b) % m

theorem mul_lt_of_lt {a b m : Nat} (ha : a < m) (hb : b < m) (hm : m < 18446744073709551616) : a * b / 18446744073709551616 < m := by
  rw [Nat.div_lt_iff_lt_mul (by omega)]
  have h1 : a * b ≤ a * m := Nat.mul_le_mul_left a (by omega)
  have h2 : a * m < m * m := Nat.mul_lt_mul_of_pos_right ha (by omega)
  have h3 : m * m ≤ m * 18446744073709551616 := Nat.mul_le_mul_left m (by omega)
  omega
set_option maxHeartbeats 1000000 in
theorem mul_any {a b m : Int} {w : World} (hm2 : m ≤ 9223372036854775807) :
    Calls Try.prog 16 #[.int .i64 a, .int .i64 b, .int .i64 m] w fun e w' => e = .returned (.int .i64 (mulS a b m)) ∧ ∃ n, w' = w.drewN n := by
  unfold mulS
  go_enter Try.func16, Try.ntmps16
  by_cases hm : m < 1
  · rw [if_pos hm]
    go_wp2
    go_ret
    exact ⟨rfl, 0, rfl⟩
  · rw [if_neg hm]
    obtain ⟨a0, a1⟩ := emod_range (a := a) (m := m) (by omega)
    obtain ⟨b0, b1⟩ := emod_range (a := b) (m := m) (by omega)
    obtain ⟨r0, r1⟩ := emod_range (a := a * b) (m := m) (by omega)
    have hp : (a * b) % m = (a % m * (b % m)) % m := Int.mul_emod a b m
    obtain ⟨A, hA⟩ : ∃ A : Nat, a % m = (A : Int) := ⟨(a % m).toNat, by omega⟩
    obtain ⟨B, hB⟩ : ∃ B : Nat, b % m = (B : Int) := ⟨(b % m).toNat, by omega⟩
    obtain ⟨M, rfl⟩ : ∃ M : Nat, m = (M : Int) := ⟨m.toNat, by omega⟩
    have hAM : A < M := by omega
    have hBM : B < M := by omega
    have hM : M < 18446744073709551616 := by omega
    have hlt := mul_lt_of_lt hAM hBM hM
    have eA : IntKind.u64.wrap (A : Int) = (A : Int) := u64_nat _ (by omega)
    have eB : IntKind.u64.wrap (B : Int) = (B : Int) := u64_nat _ (by omega)
    have eM : IntKind.u64.wrap (M : Int) = (M : Int) := u64_nat _ (by omega)
    have hsum : A * B / 18446744073709551616 * 18446744073709551616 + A * B % 18446744073709551616 = A * B := by omega
    have hlow : A * B % 18446744073709551616 < 18446744073709551616 := by omega
    have hR : (a * b) % (M : Int) = ((A * B % M : Nat) : Int) := by rw [hp, hA, hB]; push_cast; rfl
    rw [hR]
    have HS := Lib.hid hsum
    clear hp hsum hR r0 r1 a1 b1 a0 b0
    go_wp2_with fail
    refine (residue_any (by omega) hm2).mono ?_
    rintro e w1 ⟨rfl, rfl⟩
    rw [hA]
    go_wp2_with fail
    refine (residue_any (by omega) hm2).mono ?_
    rintro e w2 ⟨rfl, rfl⟩
    rw [hB]
    clear hA hB
    go_wp2_with fail
    refine (Try.bits_Mul64 A B (by omega) (by omega) _).mono ?_
    rintro e w3 ⟨rfl, rfl⟩
    obtain ⟨H, hH⟩ : ∃ H, A * B / 18446744073709551616 = H := ⟨_, rfl⟩
    obtain ⟨L, hL⟩ : ∃ L, A * B % 18446744073709551616 = L := ⟨_, rfl⟩
    rw [hH] at hlt ⊢
    rw [hL] at hlow ⊢
    have HH := Lib.hid hH
    have HL := Lib.hid hL
    clear hH hL
    go_wp2_with fail
    refine (div64_any (hi := H) (lo := L) (y := M) hlt hM hlow).mono ?_
    rintro e w4 ⟨rfl, n, rfl⟩
    rw [show H * 18446744073709551616 + L = A * B by rw [← HH.out, ← HL.out]; exact HS.out]
    have hRM := Nat.mod_lt (A * B) (show M > 0 by omega)
    obtain ⟨R, hR⟩ : ∃ R, A * B % M = R := ⟨_, rfl⟩
    obtain ⟨Q, hQ⟩ : ∃ Q, A * B / M = Q := ⟨_, rfl⟩
    rw [hR] at hRM
    rw [hR, hQ]
    have hw : wrap64 (R : Int) = (R : Int) := by unfold wrap64; omega
    have HR := Lib.hid hR
    clear hR hQ
    go_wp2
    go_ret
    rw [HR.out]
    exact ⟨rfl, n, rfl⟩

/-- doubling: what is still to be added -/
theorem double_odd {out x y y2 m a : Int} (hy : y = 2 * y2 + 1) (h : (out + x * y) % m = a) : ((out + x) % m + (x + x) % m * y2) % m = a := by
  rw [← h, Int.add_emod, Int.emod_emod_of_dvd _ (Int.dvd_refl m), Int.mul_emod, Int.emod_emod_of_dvd _ (Int.dvd_refl m), ← Int.mul_emod, ← Int.add_emod, hy]
  congr 1
  rw [Int.add_mul, Int.mul_add, Int.mul_one, ← Int.mul_assoc, Int.mul_comm x 2, Int.two_mul, Int.add_mul]
  omega
theorem double_even {out x y y2 m a : Int} (hy : y = 2 * y2) (h : (out + x * y) % m = a) : (out + (x + x) % m * y2) % m = a := by
  rw [← h, Int.add_emod, Int.mul_emod, Int.emod_emod_of_dvd _ (Int.dvd_refl m), ← Int.mul_emod, ← Int.add_emod, hy]
  congr 1
  rw [Int.add_mul, ← Int.mul_assoc, Int.mul_comm x 2, Int.two_mul, Int.add_mul]
set_option maxHeartbeats 1000000 in
theorem refmul_any {a b m : Int} {w : World} (hm2 : m ≤ 9223372036854775807) :
    Calls Try.prog 17 #[.int .i64 a, .int .i64 b, .int .i64 m] w fun e w' => e = .returned (.int .i64 (mulS a b m)) ∧ w' = w := by
  unfold mulS
  go_enter Try.func17, Try.ntmps17
  by_cases hm : m < 1
  · rw [if_pos hm]
    go_wp2
    go_ret
    exact ⟨rfl, rfl⟩
  · rw [if_neg hm]
    obtain ⟨a0, a1⟩ := emod_range (a := a) (m := m) (by omega)
    obtain ⟨b0, b1⟩ := emod_range (a := b) (m := m) (by omega)
    have hp : (a * b) % m = (a % m * (b % m)) % m := Int.mul_emod a b m
    obtain ⟨T, hT⟩ : ∃ T, (a * b) % m = T := ⟨_, rfl⟩
    rw [hT] at hp ⊢
    obtain ⟨A, hA⟩ : ∃ A, a % m = A := ⟨_, rfl⟩
    obtain ⟨B, hB⟩ : ∃ B, b % m = B := ⟨_, rfl⟩
    have HA := Lib.hid hA
    have HB := Lib.hid hB
    rw [hA] at a0 a1 hp
    rw [hB] at b0 b1 hp
    have HP := Lib.hid hp
    clear hp hT hA hB
    go_wp2_with fail
    refine (refresidue_any (by omega) hm2).mono ?_
    rintro e w1 ⟨rfl, rfl⟩
    rw [HA.out]
    go_wp2_with fail
    refine (refresidue_any (by omega) hm2).mono ?_
    rintro e w2 ⟨rfl, rfl⟩
    rw [HB.out]
    clear HA HB
    have hne : m ≠ 0 := by omega
    by_cases hs : A < 2147483648 ∧ B < 2147483648
    · obtain ⟨s1, s2⟩ := hs
      have hb1 : A * B ≤ 2147483647 * B := Int.mul_le_mul_of_nonneg_right (by omega) b0
      have hb0 : 0 ≤ A * B := Int.mul_nonneg a0 b0
      have e1 : wrap64 (A * B) = A * B := by unfold wrap64; omega
      have e2 : (A * B).tmod m = T := by rw [Int.tmod_eq_emod_of_nonneg hb0]; exact HP.out.symm
      clear hb1
      go_wp2
      first
      | go_ret
        exact ⟨rfl, rfl⟩
      | (rw [e2]
         go_ret
         exact ⟨rfl, rfl⟩)
      | (rw [← HP.out]
         go_ret
         exact ⟨rfl, rfl⟩)
    · have hloop : decide (A < 2147483648) = false ∨ (A < 2147483648 ∧ decide (B < 2147483648) = false) := by
        by_cases h : A < 2147483648
        · right; exact ⟨h, decide_eq_false (fun h2 => hs ⟨h, h2⟩)⟩
        · left; exact decide_eq_false h
      clear hs
      have hinit : Hid ((0 + A * B) % m = T) := by rw [Int.zero_add]; exact HP.out.symm
      rcases hloop with hd | ⟨hd1, hd⟩
      all_goals
        go_wp2_with fail
        go_loop [7, 8, 9] (fun x y o => ∃ X Y O : Int, x = .int .i64 X ∧ y = .int .i64 Y ∧ o = .int .i64 O ∧ 0 ≤ X ∧ X < m ∧ 0 ≤ Y ∧ Y ≤ 9223372036854775807 ∧ 0 ≤ O ∧ O < m ∧ Hid ((O + X * Y) % m = T)) (fun _ y _ => (intOf y).toNat)
        case atStart => exact ⟨A, B, 0, rfl, rfl, rfl, a0, a1, b0, by omega, by omega, by omega, hinit⟩
        case round =>
          obtain ⟨X, Y, O, rfl, rfl, rfl, x0, x1, y0, y1, o0, o1, hrel⟩ := hrel
          by_cases hpos : 0 < Y
          · obtain ⟨Y2, hY2⟩ : ∃ Y2, Y / 2 = Y2 := ⟨_, rfl⟩
            have t2 : wrap64 (Y / 2) = Y2 := by unfold wrap64; omega
            have n0 := (emod_range (a := O + X) (m := m) (by omega)).1
            have n1 := (emod_range (a := O + X) (m := m) (by omega)).2
            have n2 := (emod_range (a := X + X) (m := m) (by omega)).1
            have n3 := (emod_range (a := X + X) (m := m) (by omega)).2
            have HY2 := Lib.hid hY2
            have N0 := Lib.hid n0
            have N1 := Lib.hid n1
            have N2 := Lib.hid n2
            have N3 := Lib.hid n3
            by_cases hodd : Y % 2 = 1
            · have he : Hid (((O + X) % m + (X + X) % m * Y2) % m = T) := double_odd (by omega) hrel.out
              clear hY2 n0 n1 n2 n3
              go_wp2_with fail
              refine (plus_any o0 o1 x0 x1 hm2).mono ?_
              rintro e w3 ⟨rfl, rfl⟩
              go_wp2_with fail
              refine (plus_any x0 x1 x0 x1 hm2).mono ?_
              rintro e w4 ⟨rfl, rfl⟩
              go_wp2_with fail
              go_round
              case rel =>
                have h1 := HY2.out
                exact ⟨(X + X) % m, Y2, (O + X) % m, rfl, congrArg (Value.int .i64) h1, rfl, N2.out, N3.out, by omega, by omega, N0.out, N1.out, he⟩
              case measure => have h1 := HY2.out; simp [intOf]; omega
            · have he : Hid ((O + (X + X) % m * Y2) % m = T) := double_even (by omega) hrel.out
              have hodd' : (Y % 2 == 1) = false := by simpa using hodd
              clear hY2 n0 n1 n2 n3
              go_wp2_with fail
              refine (plus_any x0 x1 x0 x1 hm2).mono ?_
              rintro e w4 ⟨rfl, rfl⟩
              go_wp2_with fail
              go_round
              case rel =>
                have h1 := HY2.out
                exact ⟨(X + X) % m, Y2, O, rfl, congrArg (Value.int .i64) h1, rfl, N2.out, N3.out, by omega, by omega, o0, o1, he⟩
              case measure => have h1 := HY2.out; simp [intOf]; omega
          · have hY0 : Y = 0 := by omega
            have hO : O = T := by
              have h := hrel.out
              rw [hY0, Int.mul_zero, Int.add_zero, Int.emod_eq_of_lt o0 o1] at h
              exact h
            have HO := Lib.hid hO
            clear hO hY0
            go_wp2
            rw [HO.out]
            go_ret
            exact ⟨rfl, rfl⟩
end Go.Proofs.Ytiljlopgjlgfoaa
