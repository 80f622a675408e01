/- Inverses and members of the program's group. -/
import Derived.Test.YtiljlopgjlgfoaaGrpD
namespace Go.Proofs.Ytiljlopgjlgfoaa
open Go.RowKit

set_option maxHeartbeats 1000000 in
theorem inv_any {a m : Int} {w : World} (hm2 : m ≤ 9223372036854775807) :
    Calls Try.prog 18 #[.int .i64 a, .int .i64 m] w fun e w' => e = .returned (.tuple #[.int .i64 (invV a m), .bool (invB a m)]) ∧ ∃ n, w' = w.drewN n := by
  by_cases hm : m < 2
  · rw [(inv_lo hm).1, (inv_lo hm).2]
    go_enter Try.func18, Try.ntmps18
    go_wp2
    go_ret2
    exact ⟨rfl, 0, rfl⟩
  · obtain ⟨a0, a1⟩ := emod_range (a := a) (m := m) (by omega)
    obtain ⟨V, hV⟩ : ∃ V, invV a m = V := ⟨_, rfl⟩
    obtain ⟨B, hB⟩ : ∃ B, invB a m = B := ⟨_, rfl⟩
    rw [hV, hB]
    have HV := Lib.hid hV
    have HB := Lib.hid hB
    clear hV hB
    go_enter Try.func18, Try.ntmps18
    go_wp2_with fail
    refine (residue_any (by omega) hm2).mono ?_
    rintro e w1 ⟨rfl, rfl⟩
    go_wp2_with fail
    go_loopw [6, 7, 8, 9] (fun r s x y wr => ∃ R S X Y : Int, r = .int .i64 R ∧ s = .int .i64 S ∧ x = .int .i64 X ∧ y = .int .i64 Y ∧ 0 ≤ R ∧ R ≤ m ∧ 0 ≤ S ∧ S < m ∧ Hid (0 ≤ X ∧ X < m ∧ 0 ≤ Y ∧ Y < m ∧ invL m m (a % m) 0 1 = invL m R S X Y) ∧ ∃ n, wr = w1.drewN n) (fun _ s _ _ _ => (intOf s).toNat)
    case atStart => exact ⟨m, a % m, 0, 1, rfl, rfl, rfl, rfl, by omega, by omega, a0, a1, ⟨by omega, by omega, by omega, by omega, rfl⟩, 0, rfl⟩
    case round =>
      obtain ⟨R, S, X, Y, rfl, rfl, rfl, rfl, r0, r1, s0, s1, hrel, n1, rfl⟩ := hrel
      by_cases hpos : 0 < S
      · obtain ⟨Q, hQ⟩ : ∃ Q, R / S = Q := ⟨_, rfl⟩
        have hne : S ≠ 0 := by omega
        have hne2 : (S == 0) = false := by simpa using hne
        have hq0 : 0 ≤ Q := by rw [← hQ]; exact Int.ediv_nonneg r0 s0
        have hdm := Int.mul_ediv_add_emod R S
        have hm0 := Int.emod_nonneg R hne
        have hm1 := Int.emod_lt_of_pos R hpos
        rw [hQ, Int.mul_comm] at hdm
        have hqle : Q ≤ R := by rw [← hQ]; exact Int.ediv_le_self _ r0
        obtain ⟨QS, hQS⟩ : ∃ QS, Q * S = QS := ⟨_, rfl⟩
        rw [hQS] at hdm
        have hQS0 : 0 ≤ QS := by rw [← hQS]; exact Int.mul_nonneg hq0 s0
        obtain ⟨M, hM⟩ : ∃ M, R % S = M := ⟨_, rfl⟩
        rw [hM] at hdm hm0 hm1
        have e1 : wrap64 QS = QS := by unfold wrap64; omega
        have e2 : wrap64 (R - QS) = M := by unfold wrap64; omega
        have e3 : R.tdiv S = Q := by rw [Int.tdiv_eq_ediv_of_nonneg r0]; exact hQ
        have e4 : wrap64 Q = Q := by unfold wrap64; omega
        have he : Hid (0 ≤ Y ∧ Y < m ∧ 0 ≤ subS X (mulS Q Y m) m ∧ subS X (mulS Q Y m) m < m ∧ invL m m (a % m) 0 1 = invL m S M Y (subS X (mulS Q Y m) m)) := by
          obtain ⟨_, _, h3, h4, h⟩ := hrel.out
          rw [invL_pos hpos, hM, hQ] at h
          obtain ⟨h5, h6⟩ := subS_range (a := X) (b := mulS Q Y m) (m := m) (by omega)
          exact ⟨h3, h4, h5, h6, h⟩
        have HDM := Lib.hid hdm
        have HM := Lib.hid hM
        clear hdm hM
        clear hQ
        go_wp2_with fail
        refine (mul_any hm2).mono ?_
        rintro e w2 ⟨rfl, n2, rfl⟩
        go_wp2_with fail
        refine (sub_any hm2).mono ?_
        rintro e w3 ⟨rfl, rfl⟩
        go_wp2_with fail
        go_roundw
        case rel => exact ⟨S, M, Y, subS X (mulS Q Y m) m, rfl, rfl, rfl, rfl, s0, by omega, hm0, by omega, he, _, rfl⟩
        case measure => simp [intOf]; omega
      · obtain ⟨x0, x1, _, _, hE⟩ := hrel.out
        obtain rfl : S = 0 := by omega
        rw [invL_end hpos] at hE
        by_cases hR : R = 1
        · have HY := Lib.hid (inv_yes (by omega) hE hR)
          have hx : Hid (X % m = X) := Int.emod_eq_of_lt x0 x1
          clear hE
          go_wp2_with fail
          refine (residue_any (by omega) hm2).mono ?_
          rintro e w3 ⟨rfl, rfl⟩
          go_wp2
          rw [← HV.out, ← HB.out, HY.out.1, HY.out.2, hx.out]
          go_ret2
          exact ⟨rfl, _, rfl⟩
        · have HY := Lib.hid (inv_no (by omega) hE hR)
          have hR' : (R != 1) = true := by simpa using hR
          clear hE
          go_wp2
          rw [← HV.out, ← HB.out, HY.out.1, HY.out.2]
          go_ret2
          exact ⟨rfl, _, rfl⟩

def Pv : Int := 2305843009213691579
def Qv : Int := 1152921504606845789
def memB (a : Int) : Bool := decide (1 ≤ a) && decide (a < Pv) && (powS a Qv Pv == 1)
theorem pow_PQ {a : Int} {w : World} : Calls Try.prog 20 #[.int .i64 a, .int .i64 1152921504606845789, .int .i64 2305843009213691579] w fun e w' => e = .returned (.int .i64 (powS a Qv Pv)) ∧ Below w.heap.size w w' :=
  pow_any (n := 1152921504606845789) (m := 2305843009213691579) (by decide) (by decide)
theorem refpow_PQ {a : Int} {w : World} : Calls Try.prog 21 #[.int .i64 a, .int .i64 1152921504606845789, .int .i64 2305843009213691579] w fun e w' => e = .returned (.int .i64 (powS a Qv Pv)) ∧ w' = w :=
  refpow_any (n := 1152921504606845789) (m := 2305843009213691579) (by decide) (by decide)
theorem member_any {a : Int} {w : World} :
    Calls Try.prog 27 #[.int .i64 a] w fun e w' => e = .returned (.bool (memB a)) ∧ Below w.heap.size w w' := by
  by_cases h1 : 1 ≤ a
  · by_cases h2 : a < 2305843009213691579
    · obtain ⟨x, hx⟩ : ∃ x, powS a Qv Pv = x := ⟨_, rfl⟩
      rw [show memB a = (x == 1) by unfold memB; rw [decide_eq_true h1, hx]; rw [show decide (a < Pv) = true from decide_eq_true h2]; simp]
      have HX := Lib.hid hx
      clear hx
      go_enter Try.func27, Try.ntmps27
      go_wp2_with fail
      refine pow_PQ.mono ?_
      rintro e w1 ⟨rfl, hb⟩
      rw [HX.out]
      go_wp2
      go_ret
      exact ⟨rfl, hb⟩
    · rw [show memB a = false by unfold memB; rw [show decide (a < Pv) = false from decide_eq_false h2]; simp]
      have h2' : decide (a < 2305843009213691579) = false := decide_eq_false h2
      clear h2
      go_enter Try.func27, Try.ntmps27
      go_wp2
      go_ret
      exact ⟨rfl, Below.refl _ _⟩
  · rw [show memB a = false by unfold memB; rw [decide_eq_false h1]; simp]
    have h1' : decide (1 ≤ a) = false := decide_eq_false h1
    clear h1
    go_enter Try.func27, Try.ntmps27
    go_wp2
    go_ret
    exact ⟨rfl, Below.refl _ _⟩
theorem refmember_any {a : Int} {w : World} :
    Calls Try.prog 28 #[.int .i64 a] w fun e w' => e = .returned (.bool (memB a)) ∧ w' = w := by
  by_cases h1 : 1 ≤ a
  · by_cases h2 : a < 2305843009213691579
    · obtain ⟨x, hx⟩ : ∃ x, powS a Qv Pv = x := ⟨_, rfl⟩
      rw [show memB a = (x == 1) by unfold memB; rw [decide_eq_true h1, hx]; rw [show decide (a < Pv) = true from decide_eq_true h2]; simp]
      have HX := Lib.hid hx
      clear hx
      go_enter Try.func28, Try.ntmps28
      go_wp2_with fail
      refine refpow_PQ.mono ?_
      rintro e w1 ⟨rfl, rfl⟩
      rw [HX.out]
      go_wp2
      go_ret
      exact ⟨rfl, rfl⟩
    · rw [show memB a = false by unfold memB; rw [show decide (a < Pv) = false from decide_eq_false h2]; simp]
      have h2' : decide (a < 2305843009213691579) = false := decide_eq_false h2
      clear h2
      go_enter Try.func28, Try.ntmps28
      go_wp2
      go_ret
      exact ⟨rfl, rfl⟩
  · rw [show memB a = false by unfold memB; rw [decide_eq_false h1]; simp]
    have h1' : decide (1 ≤ a) = false := decide_eq_false h1
    clear h1
    go_enter Try.func28, Try.ntmps28
    go_wp2
    go_ret
    exact ⟨rfl, rfl⟩
end Go.Proofs.Ytiljlopgjlgfoaa
