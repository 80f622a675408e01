/- math/bits.Div64 (under way). -/
import Derived.Test.YtiljlopgjlgfoaaDivN
import Derived.Test.YtiljlopgjlgfoaaShelf
import Derived.Laws.Bits64b
import Derived.Deep.CutBlock
import Derived.Deep.DeepCutAuto
namespace Go.Proofs.Ytiljlopgjlgfoaa
open Go.RowKit

theorem u64_nat (n : Nat) (h : n < 18446744073709551616) : IntKind.u64.wrap (n : Int) = (n : Int) := by rw [IntKind.wrap_u64]; omega
theorem u64_mod (n : Nat) : IntKind.u64.wrap (n : Int) = ((n % 18446744073709551616 : Nat) : Int) := by rw [IntKind.wrap_u64]; omega
theorem shl_nat (n S : Nat) : (n : Int) * 2 ^ S = ((n * 2 ^ S : Nat) : Int) := by push_cast; rfl
theorem low32 (a : Nat) (ha : a < 18446744073709551616) : bits .and .u64 (a : Int) 4294967295 = ((a % 4294967296 : Nat) : Int) := by
  have h := bits_and_u64_nat a 4294967295 ha (by omega)
  have e : a &&& 4294967295 = a % 4294967296 := Nat.and_two_pow_sub_one_eq_mod a 32
  rw [e] at h
  exact h
theorem shift_or (hi lo S : Nat) (hS : S ≤ 64) (h1 : hi * 2 ^ S < 18446744073709551616) (hl : lo < 18446744073709551616) :
    bits .or .u64 (IntKind.u64.wrap ((hi : Int) * 2 ^ S)) ((lo : Int) / 2 ^ (64 - S)) = ((hi * 2 ^ S + lo * 2 ^ S / 18446744073709551616 : Nat) : Int) := by
  have e1 : (lo : Int) / 2 ^ (64 - S) = ((lo / 2 ^ (64 - S) : Nat) : Int) := by push_cast; rfl
  have e2 : lo * 2 ^ S / 18446744073709551616 = lo / 2 ^ (64 - S) := by
    have e3 : 18446744073709551616 = 2 ^ (64 - S) * 2 ^ S := by rw [← Nat.pow_add, show 64 - S + S = 64 by omega]
    rw [e3, Nat.mul_div_mul_right _ _ (Nat.two_pow_pos _)]
  have hlt : lo / 2 ^ (64 - S) < 2 ^ S := by
    rw [Nat.div_lt_iff_lt_mul (Nat.two_pow_pos _), ← Nat.pow_add, show S + (64 - S) = 64 by omega]
    exact hl
  have hlt2 : lo / 2 ^ (64 - S) < 18446744073709551616 := Nat.lt_of_le_of_lt (Nat.div_le_self _ _) hl
  rw [shl_nat, u64_nat _ h1, e1, bits_or_u64_nat _ _ h1 hlt2, e2, Nat.mul_comm hi, Nat.two_pow_add_eq_or_of_lt hlt]

theorem div_end {hi lo y S Y U L D1 D0 T V T0 : Nat} (hy : 0 < y) (hY : y * 2 ^ S = Y) (hU : hi * 2 ^ S + lo * 2 ^ S / 18446744073709551616 = U) (hL : lo * 2 ^ S % 18446744073709551616 = L)
    (hD1 : L / 4294967296 = D1) (hD0 : L % 4294967296 = D0) (hT : (U * 4294967296 + D1) / Y = T) (hV : (U * 4294967296 + D1) % Y = V) (hT0 : (V * 4294967296 + D0) / Y = T0) (hY64 : Y < 18446744073709551616) (hUY : U < Y) :
    IntKind.u64.wrap (IntKind.u64.wrap ((T : Int) * 4294967296) + (T0 : Int)) = (((hi * 18446744073709551616 + lo) / y : Nat) : Int) ∧
    IntKind.u64.wrap (IntKind.u64.wrap (IntKind.u64.wrap ((V : Int) * 4294967296) + (D0 : Int)) - IntKind.u64.wrap ((T0 : Int) * (Y : Int))) / 2 ^ S = (((hi * 18446744073709551616 + lo) % y : Nat) : Int) := by
  have hK : 0 < 2 ^ S := Nat.two_pow_pos S
  have hY0 : 0 < Y := by rw [← hY]; exact Nat.mul_pos hy hK
  have hD1b : D1 < 4294967296 := by omega
  have hD0b : D0 < 4294967296 := by omega
  obtain ⟨q1, r1⟩ := two_digits U Y D1 D0 hY0
  obtain ⟨q2, r2⟩ := shift_div (hi * 18446744073709551616 + lo) y (2 ^ S) hK
  have hN : (hi * 18446744073709551616 + lo) * 2 ^ S = U * 18446744073709551616 + (D1 * 4294967296 + D0) := by
    rw [Nat.add_mul, Nat.mul_right_comm]
    omega
  rw [hN, hY] at q2 r2
  have hVY : V < Y := by rw [← hV]; exact Nat.mod_lt _ hY0
  have hs1 := digit_small hUY hD1b
  have hs0 := digit_small hVY hD0b
  rw [hT] at hs1
  rw [hT0] at hs0
  rw [hT, hV, hT0] at q1
  rw [hV] at r1
  rw [← q2, ← r2, q1, r1]
  have hdm := Nat.div_add_mod (V * 4294967296 + D0) Y
  have hlt := Nat.mod_lt (V * 4294967296 + D0) hY0
  rw [hT0] at hdm
  obtain ⟨M, hM⟩ : ∃ M, (V * 4294967296 + D0) % Y = M := ⟨_, rfl⟩
  rw [hM] at hdm hlt ⊢
  have e : IntKind.u64.wrap (IntKind.u64.wrap (IntKind.u64.wrap ((V : Int) * 4294967296) + (D0 : Int)) - IntKind.u64.wrap ((T0 : Int) * (Y : Int))) = (M : Int) := by
    rw [show (T0 : Int) * (Y : Int) = ((Y * T0 : Nat) : Int) by rw [Nat.mul_comm]; push_cast; rfl]
    generalize Y * T0 = YT at *
    simp only [IntKind.wrap_u64]
    omega
  rw [e]
  refine ⟨?_, ?_⟩
  · simp only [IntKind.wrap_u64]
    omega
  · push_cast; rfl

set_option maxHeartbeats 2000000 in
set_option maxRecDepth 100000 in
theorem div64_any {hi lo y : Nat} {w : World} (hh : hi < y) (hy : y < 18446744073709551616) (hl : lo < 18446744073709551616) :
    Calls Try.prog 37 #[.int .u64 (hi : Int), .int .u64 (lo : Int), .int .u64 (y : Int)] w fun e w' => e = .returned (.tuple #[.int .u64 (((hi * 18446744073709551616 + lo) / y : Nat) : Int), .int .u64 (((hi * 18446744073709551616 + lo) % y : Nat) : Int)]) ∧ ∃ n, w' = w.drewN n := by
  have hne : (y : Int) ≠ 0 := by omega
  have hle : (hi : Int) < (y : Int) := by omega
  have hne2 : ((y : Int) == 0) = false := by simpa using hne
  go_enter Try.func37, Try.ntmps37
  by_cases h0 : hi = 0
  · subst h0
    have e1 : IntKind.u64.wrap ((lo : Int) / (y : Int)) = ((lo / y : Nat) : Int) := by
      have h2 : (lo : Int) / (y : Int) = ((lo / y : Nat) : Int) := (Int.natCast_ediv lo y).symm
      have h3 : lo / y ≤ lo := Nat.div_le_self _ _
      rw [h2, IntKind.wrap_u64]
      generalize lo / y = q at *
      omega
    have e3 : 0 * 18446744073709551616 + lo = lo := by omega
    go_wp2_with fail
    go_quiet (fail)
    go_wp2
    rw [e3]
    go_ret2
    exact ⟨rfl, _, rfl⟩
  · have h0' : ((hi : Int) == 0) = false := by simp; omega
    obtain ⟨n1, n2, n3⟩ := norm_shift y (by omega) hy
    obtain ⟨S, hS⟩ : ∃ S, 64 - Lib.bitLen y = S := ⟨_, rfl⟩
    have hSi : (64 : Int) - (Lib.bitLen y : Int) = (S : Int) := by omega
    have hS64 : S ≤ 64 := by omega
    rw [hS] at n2 n3
    have hhK : hi * 2 ^ S < 18446744073709551616 := Nat.lt_of_lt_of_le (Nat.mul_lt_mul_of_pos_right hh (Nat.two_pow_pos _)) (by omega)
    obtain ⟨Y, hY⟩ : ∃ Y, y * 2 ^ S = Y := ⟨_, rfl⟩
    obtain ⟨U, hU⟩ : ∃ U, hi * 2 ^ S + lo * 2 ^ S / 18446744073709551616 = U := ⟨_, rfl⟩
    obtain ⟨L, hL⟩ : ∃ L, lo * 2 ^ S % 18446744073709551616 = L := ⟨_, rfl⟩
    have hUY : U < Y := by
      have h1 : (hi * 18446744073709551616 + lo) * 2 ^ S < y * 18446744073709551616 * 2 ^ S := Nat.mul_lt_mul_of_pos_right (by omega) (Nat.two_pow_pos _)
      rw [Nat.add_mul, Nat.mul_right_comm hi, Nat.mul_right_comm y, hY] at h1
      omega
    have fy : IntKind.u64.wrap ((y : Int) * 2 ^ S) = (Y : Int) := by rw [shl_nat, hY]; exact u64_nat _ (by omega)
    have fl : IntKind.u64.wrap ((lo : Int) * 2 ^ S) = (L : Int) := by rw [shl_nat, u64_mod, hL]
    have fu : bits .or .u64 (IntKind.u64.wrap ((hi : Int) * 2 ^ S)) ((lo : Int) / 2 ^ (64 - S)) = (U : Int) := by rw [shift_or hi lo S hS64 hhK hl, hU]
    rw [hY] at n2 n3
    have hL2 : L < 18446744073709551616 := by omega
    have f0 := low32 Y n3
    have f1 := low32 L hL2
    have g1 : (Y : Int) / 4294967296 ≠ 0 := by omega
    have g2 : ¬ (Y : Int) / 4294967296 = 0 := g1
    have es : IntKind.u64.wrap (S : Int) = (S : Int) := by rw [IntKind.wrap_u64]; omega
    go_wp2_with fail
    refine (Try.bits_LeadingZeros64 (y : Int) _ (by omega) (by omega)).mono ?_
    rintro e w1 ⟨rfl, rfl⟩
    rw [Int.toNat_natCast, hSi]
    clear hSi n1
    go_upto_block 0 with fail
    obtain ⟨y1, hy1⟩ : ∃ y1, Y / 4294967296 = y1 := ⟨_, rfl⟩
    obtain ⟨y0, hy0⟩ : ∃ y0, Y % 4294967296 = y0 := ⟨_, rfl⟩
    obtain ⟨D1, hD1⟩ : ∃ D1, L / 4294967296 = D1 := ⟨_, rfl⟩
    obtain ⟨D0, hD0⟩ : ∃ D0, L % 4294967296 = D0 := ⟨_, rfl⟩
    have hYe : Y = y1 * 4294967296 + y0 := by omega
    have hy1b : 2147483648 ≤ y1 ∧ y1 < 4294967296 := by omega
    have hy0b : y0 < 4294967296 := by omega
    have hD1b : D1 < 4294967296 := by omega
    have hD0b : D0 < 4294967296 := by omega
    have i1 : (Y : Int) / 4294967296 = (y1 : Int) := by omega
    have i0 : (Y : Int) % 4294967296 = (y0 : Int) := by omega
    have j1 : (L : Int) / 4294967296 = (D1 : Int) := by omega
    have j0 : (L : Int) % 4294967296 = (D0 : Int) := by omega
    rw [i1, i0, j1, j0]
    have k1 : IntKind.u64.wrap ((U : Int) / (y1 : Int)) = ((U / y1 : Nat) : Int) := by
      have h2 : (U : Int) / (y1 : Int) = ((U / y1 : Nat) : Int) := (Int.natCast_ediv U y1).symm
      rw [h2]
      exact u64_nat _ (Nat.lt_of_le_of_lt (Nat.div_le_self _ _) (by omega))
    have hdm := Nat.div_add_mod U y1
    have hml := Nat.mod_lt U (show y1 > 0 by omega)
    have k2 : IntKind.u64.wrap (((U / y1 : Nat) : Int) * (y1 : Int)) = ((U / y1 * y1 : Nat) : Int) := by
      rw [← Int.natCast_mul]
      exact u64_nat _ (by rw [Nat.mul_comm]; omega)
    have k3 : IntKind.u64.wrap ((U : Int) - ((U / y1 * y1 : Nat) : Int)) = ((U % y1 : Nat) : Int) := by
      rw [show (U : Int) - ((U / y1 * y1 : Nat) : Int) = ((U % y1 : Nat) : Int) by rw [Nat.mul_comm]; omega]
      exact u64_nat _ (by omega)
    rw [k1, k2, k3]
    obtain ⟨T, hT⟩ : ∃ T, (U * 4294967296 + D1) / Y = T := ⟨_, rfl⟩
    go_cut [15, 16] (fun q _ wx => q = .int .u64 (T : Int) ∧ wx = w1)
    case rest =>
      obtain ⟨rfl, rfl⟩ := hcut
      have HYE := Lib.hid hYe
      clear hYe k1 k2 k3
      have hdmV := Nat.div_add_mod (U * 4294967296 + D1) Y
      have hVY := Nat.mod_lt (U * 4294967296 + D1) (show Y > 0 by omega)
      rw [hT] at hdmV
      obtain ⟨V, hV⟩ : ∃ V, (U * 4294967296 + D1) % Y = V := ⟨_, rfl⟩
      rw [hV] at hdmV hVY
      have hV21 : IntKind.u64.wrap (IntKind.u64.wrap (IntKind.u64.wrap ((U : Int) * 4294967296) + (D1 : Int)) - IntKind.u64.wrap ((T : Int) * (Y : Int))) = (V : Int) := by
        rw [show (T : Int) * (Y : Int) = ((Y * T : Nat) : Int) by rw [Nat.mul_comm]; push_cast; rfl]
        generalize Y * T = YT at *
        simp only [IntKind.wrap_u64]
        omega
      have p1 : (V : Int) / (y1 : Int) = ((V / y1 : Nat) : Int) := (Int.natCast_ediv V y1).symm
      have hdm2 := Nat.div_add_mod V y1
      have hml2 := Nat.mod_lt V (show y1 > 0 by omega)
      have l2 : IntKind.u64.wrap (((V / y1 : Nat) : Int) * (y1 : Int)) = ((V / y1 * y1 : Nat) : Int) := by
        rw [← Int.natCast_mul]
        exact u64_nat _ (by rw [Nat.mul_comm]; omega)
      have l3 : IntKind.u64.wrap ((V : Int) - ((V / y1 * y1 : Nat) : Int)) = ((V % y1 : Nat) : Int) := by
        rw [show (V : Int) - ((V / y1 * y1 : Nat) : Int) = ((V % y1 : Nat) : Int) by rw [Nat.mul_comm]; omega]
        exact u64_nat _ (by omega)
      obtain ⟨T0, hT0⟩ : ∃ T0, (V * 4294967296 + D0) / Y = T0 := ⟨_, rfl⟩
      have HDV := Lib.hid hdmV
      have HV21 := Lib.hid hV21
      have HT := Lib.hid hT
      have HV := Lib.hid hV
      have l1 : IntKind.u64.wrap ((V / y1 : Nat) : Int) = ((V / y1 : Nat) : Int) := u64_nat _ (Nat.lt_of_le_of_lt (Nat.div_le_self _ _) (by omega))
      have P1 := Lib.hid p1
      have L1 := Lib.hid l1
      have L2 := Lib.hid l2
      have L3 := Lib.hid l3
      clear hdmV hT hV hV21 hml hdm p1 l1 l2 l3
      go_upto_region 22 with fail
      rw [HV21.out]
      go_upto_block 2 with fail
      rw [P1.out, L1.out, L2.out, L3.out]
      go_cut [18, 16] (fun q _ wx => q = .int .u64 (T0 : Int) ∧ wx = wc)
      case rest =>
        obtain ⟨rfl, rfl⟩ := hcut
        have HT0 := Lib.hid hT0
        have HYY := Lib.hid hY
        have HUU := Lib.hid hU
        have HLL := Lib.hid hL
        have HT1 := Lib.hid hVY
        have H1 := Lib.hid hy1
        have H2 := Lib.hid hD1
        have H3 := Lib.hid hD0
        clear hT0 hY hU hL hVY hdm2 hml2 hy1 hD1 hD0 hy1b hy0b hD1b hD0b hy0
        have HED := Lib.hid (div_end (by omega) HYY.out HUU.out HLL.out H2.out H3.out HT.out HV.out HT0.out n3 hUY)
        go_wp2
        rw [HED.out.1, HED.out.2]
        go_ret2
        exact ⟨rfl, 0, rfl⟩
      have hp0 := digit_first (u := V) HYE.out (by omega) hD0b
      have hps := digit_small hVY hD0b
      have hVe : V = V / y1 * y1 + V % y1 := by rw [Nat.mul_comm]; exact hdm2.symm
      clear hdm2
      rw [hT0] at hp0 hps
      have HVE := Lib.hid hVe
      clear hVe
      go_wp2_with fail
      go_loopw [18, 16] (fun q r wx => ∃ Q R : Nat, q = .int .u64 Q ∧ r = .int .u64 R ∧ Hid (V = Q * y1 + R) ∧ R < 4294967296 ∧ T0 ≤ Q ∧ Q ≤ V / y1 ∧ wx = wc) (fun q _ _ => (intOf q).toNat)
      case atStart => exact ⟨_, _, rfl, rfl, HVE, by omega, hp0, Nat.le_refl _, rfl⟩
      case round =>
        obtain ⟨Q, R, rfl, rfl, hQR, hR, hTQ, hQU, rfl⟩ := hrel
        by_cases hbig : 4294967296 ≤ Q
        · have hbig' : (4294967296 : Int) ≤ (Q : Int) := by omega
          obtain ⟨Q2, hQ2⟩ : ∃ Q2, Q = Q2 + 1 := ⟨Q - 1, by omega⟩
          obtain ⟨R2, hR2⟩ : ∃ R2, R + y1 = R2 := ⟨_, rfl⟩
          have m1 : IntKind.u64.wrap ((Q : Int) - 1) = (Q2 : Int) := by
            rw [show (Q : Int) - 1 = (Q2 : Int) by omega]
            exact u64_nat _ (by have := Nat.div_le_self V y1; omega)
          have m2 : IntKind.u64.wrap ((R : Int) + (y1 : Int)) = (R2 : Int) := by
            rw [← Int.natCast_add, hR2]
            exact u64_nat _ (by omega)
          have HQ2 := Lib.hid hQ2
          have HR2 := Lib.hid hR2
          clear hQ2 hR2
          by_cases hex : 4294967296 ≤ R2
          · have hex' : (4294967296 : Int) ≤ (R2 : Int) := by omega
            have HB := Lib.hid hbig
            have HE := Lib.hid hex
            have HR := Lib.hid hR
            clear hbig hex hR
            go_wp2_with fail
            go_meet
            have hg := digit_guess HYE.out hy1b.1 hy0b hVY
            have e1 : V = Q2 * y1 + R2 := by have h := hQR.out; rw [HQ2.out, Nat.add_mul, Nat.one_mul] at h; have h2 := HR2.out; omega
            have e2 : Q2 = T0 := by
              rw [← hT0]
              refine digit_eq HYE.out e1 ?_ (by omega) (digit_break (by have h := HQ2.out; omega) hy0b HE.out)
              rw [hT0]
              have h := HQ2.out; have h3 := HB.out; omega
            rw [e2]
            exact ⟨rfl, rfl⟩
          · have hex' : decide ((4294967296 : Int) ≤ (R2 : Int)) = false := decide_eq_false (by omega)
            have HB := Lib.hid hbig
            have HE := Lib.hid hex
            have HR := Lib.hid hR
            clear hbig hex hR
            go_wp2_with fail
            go_roundw
            case rel =>
              have e1 : V = Q2 * y1 + R2 := by have h := hQR.out; rw [HQ2.out, Nat.add_mul, Nat.one_mul] at h; have h2 := HR2.out; omega
              have h4 := HQ2.out
              have h5 := HB.out
              have h6 := HE.out
              exact ⟨Q2, R2, rfl, rfl, e1, by omega, by omega, by omega, trivial⟩
            case measure =>
              have h4 := HQ2.out
              simp [intOf]; omega
        · have hsm : decide ((4294967296 : Int) ≤ (Q : Int)) = false := decide_eq_false (by omega)
          obtain ⟨A, hA⟩ : ∃ A, Q * y0 = A := ⟨_, rfl⟩
          obtain ⟨B, hB⟩ : ∃ B, 4294967296 * R = B := ⟨_, rfl⟩
          obtain ⟨C, hC⟩ : ∃ C, B + D0 = C := ⟨_, rfl⟩
          have hAb : A < 18446744073709551616 := by
            have h1 : Q * y0 ≤ 4294967296 * y0 := Nat.mul_le_mul_right _ (by omega)
            omega
          have m3 : IntKind.u64.wrap ((Q : Int) * (y0 : Int)) = (A : Int) := by rw [← Int.natCast_mul, hA]; exact u64_nat _ hAb
          have m4 : IntKind.u64.wrap (4294967296 * (R : Int)) = (B : Int) := by
            rw [show (4294967296 : Int) * (R : Int) = (B : Int) by omega]
            exact u64_nat _ (by omega)
          have m5 : IntKind.u64.wrap ((B : Int) + (D0 : Int)) = (C : Int) := by
            rw [show (B : Int) + (D0 : Int) = (C : Int) by omega]
            exact u64_nat _ (by omega)
          by_cases htest : C < A
          · have hgt : T0 < Q := by
              rw [← hT0]
              exact digit_gt HYE.out hQR.out (by omega) (by omega)
            obtain ⟨Q2, hQ2⟩ : ∃ Q2, Q = Q2 + 1 := ⟨Q - 1, by omega⟩
            obtain ⟨R2, hR2⟩ : ∃ R2, R + y1 = R2 := ⟨_, rfl⟩
            have m1 : IntKind.u64.wrap ((Q : Int) - 1) = (Q2 : Int) := by
              rw [show (Q : Int) - 1 = (Q2 : Int) by omega]
              exact u64_nat _ (by omega)
            have m2 : IntKind.u64.wrap ((R : Int) + (y1 : Int)) = (R2 : Int) := by
              rw [← Int.natCast_add, hR2]
              exact u64_nat _ (by omega)
            have HT2 := Lib.hid hgt
            have HQ2 := Lib.hid hQ2
            have HR2 := Lib.hid hR2
            have HA := Lib.hid hA
            have HB := Lib.hid hB
            have HC := Lib.hid hC
            have HG := Lib.hid hbig
            have HR := Lib.hid hR
            by_cases hex : 4294967296 ≤ R2
            · have hex' : (4294967296 : Int) ≤ (R2 : Int) := by omega
              have HE := Lib.hid hex
              clear hA hB hC hbig hR hAb hQ2 hR2 hgt hex
              go_wp2_with fail
              go_meet
              have e1 : V = Q2 * y1 + R2 := by have h := hQR.out; rw [HQ2.out, Nat.add_mul, Nat.one_mul] at h; have h2 := HR2.out; omega
              have e2 : Q2 = T0 := by
                rw [← hT0]
                refine digit_eq HYE.out e1 ?_ (by omega) (digit_break (by have h := HQ2.out; have := HG.out; omega) hy0b HE.out)
                rw [hT0]
                have h := HQ2.out; have h3 := HT2.out; omega
              rw [e2]
              exact ⟨rfl, rfl⟩
            · have hex' : decide ((4294967296 : Int) ≤ (R2 : Int)) = false := decide_eq_false (by omega)
              have HE := Lib.hid hex
              clear hA hB hC hbig hR hAb hQ2 hR2 hgt hex
              go_wp2_with fail
              go_roundw
              case rel =>
                have e1 : V = Q2 * y1 + R2 := by have h := hQR.out; rw [HQ2.out, Nat.add_mul, Nat.one_mul] at h; have h2 := HR2.out; omega
                have h4 := HQ2.out
                have h5 := HT2.out
                have h6 := HE.out
                exact ⟨Q2, R2, rfl, rfl, e1, by omega, by omega, by omega, trivial⟩
              case measure =>
                have h4 := HQ2.out
                simp [intOf]; omega
          · have ht : decide (C < A) = false := decide_eq_false htest
            have e2 : Q = T0 := by
              rw [← hT0]
              exact digit_eq HYE.out hQR.out (by rw [hT0]; exact hTQ) (by omega) (by omega)
            have HA := Lib.hid hA
            have HB := Lib.hid hB
            have HC := Lib.hid hC
            have HG := Lib.hid hbig
            have HR := Lib.hid hR
            have HE := Lib.hid e2
            have HTQ := Lib.hid hTQ
            have HQU := Lib.hid hQU
            have Hqs := Lib.hid hps
            have HUY := Lib.hid hVY
            have Hn2 := Lib.hid n2
            have Hn3 := Lib.hid n3
            have Hhh := Lib.hid hh
            have Hhy := Lib.hid hy
            have Hhl := Lib.hid hl
            clear hA hB hC hbig hR hAb htest e2 hTQ hQU hps hVY n2 n3 hh hy hl
            go_wp2_with fail
            go_meet
            rw [HE.out]
            exact ⟨rfl, rfl⟩
    have hq0 := digit_first (u := U) hYe (by omega) hD1b
    have hqs := digit_small hUY hD1b
    have hUe : U = U / y1 * y1 + U % y1 := by rw [Nat.mul_comm]; exact hdm.symm
    clear hdm k1 k2 k3
    rw [hT] at hq0 hqs
    have HUE := Lib.hid hUe
    have HYE := Lib.hid hYe
    clear hUe hYe
    go_wp2_with fail
    go_loopw [15, 16] (fun q r wx => ∃ Q R : Nat, q = .int .u64 Q ∧ r = .int .u64 R ∧ Hid (U = Q * y1 + R) ∧ R < 4294967296 ∧ T ≤ Q ∧ Q ≤ U / y1 ∧ wx = w1) (fun q _ _ => (intOf q).toNat)
    case atStart => exact ⟨_, _, rfl, rfl, HUE, by omega, hq0, Nat.le_refl _, rfl⟩
    case round =>
      obtain ⟨Q, R, rfl, rfl, hQR, hR, hTQ, hQU, rfl⟩ := hrel
      by_cases hbig : 4294967296 ≤ Q
      · have hbig' : (4294967296 : Int) ≤ (Q : Int) := by omega
        obtain ⟨Q2, hQ2⟩ : ∃ Q2, Q = Q2 + 1 := ⟨Q - 1, by omega⟩
        obtain ⟨R2, hR2⟩ : ∃ R2, R + y1 = R2 := ⟨_, rfl⟩
        have m1 : IntKind.u64.wrap ((Q : Int) - 1) = (Q2 : Int) := by
          rw [show (Q : Int) - 1 = (Q2 : Int) by omega]
          exact u64_nat _ (by have := Nat.div_le_self U y1; omega)
        have m2 : IntKind.u64.wrap ((R : Int) + (y1 : Int)) = (R2 : Int) := by
          rw [← Int.natCast_add, hR2]
          exact u64_nat _ (by omega)
        have HQ2 := Lib.hid hQ2
        have HR2 := Lib.hid hR2
        clear hQ2 hR2
        by_cases hex : 4294967296 ≤ R2
        · have hex' : (4294967296 : Int) ≤ (R2 : Int) := by omega
          have HB := Lib.hid hbig
          have HE := Lib.hid hex
          have HR := Lib.hid hR
          clear hbig hex hR
          go_wp2_with fail
          go_meet
          have hg := digit_guess HYE.out hy1b.1 hy0b hUY
          have e1 : U = Q2 * y1 + R2 := by have h := hQR.out; rw [HQ2.out, Nat.add_mul, Nat.one_mul] at h; have h2 := HR2.out; omega
          have e2 : Q2 = T := by
            rw [← hT]
            refine digit_eq HYE.out e1 ?_ (by omega) (digit_break (by have h := HQ2.out; omega) hy0b HE.out)
            rw [hT]
            have h := HQ2.out; have h3 := HB.out; omega
          rw [e2]
          exact ⟨rfl, rfl⟩
        · have hex' : decide ((4294967296 : Int) ≤ (R2 : Int)) = false := decide_eq_false (by omega)
          have HB := Lib.hid hbig
          have HE := Lib.hid hex
          have HR := Lib.hid hR
          clear hbig hex hR
          go_wp2_with fail
          go_roundw
          case rel =>
            have e1 : U = Q2 * y1 + R2 := by have h := hQR.out; rw [HQ2.out, Nat.add_mul, Nat.one_mul] at h; have h2 := HR2.out; omega
            have h4 := HQ2.out
            have h5 := HB.out
            have h6 := HE.out
            exact ⟨Q2, R2, rfl, rfl, e1, by omega, by omega, by omega, trivial⟩
          case measure =>
            have h4 := HQ2.out
            simp [intOf]; omega
      · have hsm : decide ((4294967296 : Int) ≤ (Q : Int)) = false := decide_eq_false (by omega)
        obtain ⟨A, hA⟩ : ∃ A, Q * y0 = A := ⟨_, rfl⟩
        obtain ⟨B, hB⟩ : ∃ B, 4294967296 * R = B := ⟨_, rfl⟩
        obtain ⟨C, hC⟩ : ∃ C, B + D1 = C := ⟨_, rfl⟩
        have hAb : A < 18446744073709551616 := by
          have h1 : Q * y0 ≤ 4294967296 * y0 := Nat.mul_le_mul_right _ (by omega)
          omega
        have m3 : IntKind.u64.wrap ((Q : Int) * (y0 : Int)) = (A : Int) := by rw [← Int.natCast_mul, hA]; exact u64_nat _ hAb
        have m4 : IntKind.u64.wrap (4294967296 * (R : Int)) = (B : Int) := by
          rw [show (4294967296 : Int) * (R : Int) = (B : Int) by omega]
          exact u64_nat _ (by omega)
        have m5 : IntKind.u64.wrap ((B : Int) + (D1 : Int)) = (C : Int) := by
          rw [show (B : Int) + (D1 : Int) = (C : Int) by omega]
          exact u64_nat _ (by omega)
        by_cases htest : C < A
        · have hgt : T < Q := by
            rw [← hT]
            exact digit_gt HYE.out hQR.out (by omega) (by omega)
          obtain ⟨Q2, hQ2⟩ : ∃ Q2, Q = Q2 + 1 := ⟨Q - 1, by omega⟩
          obtain ⟨R2, hR2⟩ : ∃ R2, R + y1 = R2 := ⟨_, rfl⟩
          have m1 : IntKind.u64.wrap ((Q : Int) - 1) = (Q2 : Int) := by
            rw [show (Q : Int) - 1 = (Q2 : Int) by omega]
            exact u64_nat _ (by omega)
          have m2 : IntKind.u64.wrap ((R : Int) + (y1 : Int)) = (R2 : Int) := by
            rw [← Int.natCast_add, hR2]
            exact u64_nat _ (by omega)
          have HT2 := Lib.hid hgt
          have HQ2 := Lib.hid hQ2
          have HR2 := Lib.hid hR2
          have HA := Lib.hid hA
          have HB := Lib.hid hB
          have HC := Lib.hid hC
          have HG := Lib.hid hbig
          have HR := Lib.hid hR
          by_cases hex : 4294967296 ≤ R2
          · have hex' : (4294967296 : Int) ≤ (R2 : Int) := by omega
            have HE := Lib.hid hex
            clear hA hB hC hbig hR hAb hQ2 hR2 hgt hex
            go_wp2_with fail
            go_meet
            have e1 : U = Q2 * y1 + R2 := by have h := hQR.out; rw [HQ2.out, Nat.add_mul, Nat.one_mul] at h; have h2 := HR2.out; omega
            have e2 : Q2 = T := by
              rw [← hT]
              refine digit_eq HYE.out e1 ?_ (by omega) (digit_break (by have h := HQ2.out; have := HG.out; omega) hy0b HE.out)
              rw [hT]
              have h := HQ2.out; have h3 := HT2.out; omega
            rw [e2]
            exact ⟨rfl, rfl⟩
          · have hex' : decide ((4294967296 : Int) ≤ (R2 : Int)) = false := decide_eq_false (by omega)
            have HE := Lib.hid hex
            clear hA hB hC hbig hR hAb hQ2 hR2 hgt hex
            go_wp2_with fail
            go_roundw
            case rel =>
              have e1 : U = Q2 * y1 + R2 := by have h := hQR.out; rw [HQ2.out, Nat.add_mul, Nat.one_mul] at h; have h2 := HR2.out; omega
              have h4 := HQ2.out
              have h5 := HT2.out
              have h6 := HE.out
              exact ⟨Q2, R2, rfl, rfl, e1, by omega, by omega, by omega, trivial⟩
            case measure =>
              have h4 := HQ2.out
              simp [intOf]; omega
        · have ht : decide (C < A) = false := decide_eq_false htest
          have e2 : Q = T := by
            rw [← hT]
            exact digit_eq HYE.out hQR.out (by rw [hT]; exact hTQ) (by omega) (by omega)
          have HA := Lib.hid hA
          have HB := Lib.hid hB
          have HC := Lib.hid hC
          have HG := Lib.hid hbig
          have HR := Lib.hid hR
          have HE := Lib.hid e2
          have HTQ := Lib.hid hTQ
          have HQU := Lib.hid hQU
          have Hqs := Lib.hid hqs
          have HUY := Lib.hid hUY
          have Hn2 := Lib.hid n2
          have Hn3 := Lib.hid n3
          have Hhh := Lib.hid hh
          have Hhy := Lib.hid hy
          have Hhl := Lib.hid hl
          clear hA hB hC hbig hR hAb htest e2 hTQ hQU hqs hUY n2 n3 hh hy hl
          go_wp2_with fail
          go_meet
          rw [HE.out]
          exact ⟨rfl, rfl⟩
end Go.Proofs.Ytiljlopgjlgfoaa
