/- Residues, sums and differences of the group: both implementations. -/
import Derived.Test.YtiljlopgjlgfoaaMem2
import Derived.Test.YtiljlopgjlgfoaaProg
namespace Go.Proofs.Ytiljlopgjlgfoaa
open Go.RowKit

def addS (a b m : Int) : Int := if m < 1 then 0 else (a + b) % m
def subS (a b m : Int) : Int := if m < 1 then 0 else (a - b) % m
def I64 (a : Int) : Prop := -9223372036854775808 ≤ a ∧ a ≤ 9223372036854775807

theorem tmod_fix (a m : Int) (hm : 0 < m) : (if a.tmod m < 0 then a.tmod m + m else a.tmod m) = a % m := by
  have h0 := Int.emod_nonneg a (show m ≠ 0 by omega)
  have h1 := Int.emod_lt_of_pos a hm
  rw [Int.tmod_eq_emod]
  split
  · rename_i h
    rw [if_neg (by omega)]
    omega
  · rw [show ((m.natAbs : Nat) : Int) = m by omega]
    split <;> rename_i hlt
    · omega
    · rename_i hx
      exfalso
      rcases Int.lt_or_eq_of_le (show (a % m) - m ≤ 0 by omega) with h | h
      · omega
      · omega
theorem mod_wrap {a b m : Int} (ha : 0 ≤ a) (ha2 : a < m) (hb : 0 ≤ b) (hb2 : b < m) : (a + b) % m = if m - b ≤ a then a - (m - b) else a + b := by
  split
  · rw [show a + b = (a - (m - b)) + m by omega, Int.add_emod_right]
    exact Int.emod_eq_of_lt (by omega) (by omega)
  · exact Int.emod_eq_of_lt (by omega) (by omega)
theorem residue_any {a m : Int} {w : World} (hm : 0 < m) (hm2 : m ≤ 9223372036854775807) :
    Calls Try.prog 33 #[.int .i64 a, .int .i64 m] w fun e w' => e = .returned (.int .i64 (a % m)) ∧ w' = w := by
  have hne : m ≠ 0 := by omega
  have hfix := tmod_fix a m hm
  go_enter Try.func33, Try.ntmps33
  go_wp2
  · rename_i h
    rw [if_pos h] at hfix
    rw [show wrap64 (a.tmod m + m) = a % m by
      have h1 := Int.lt_tmod_of_pos a hm
      unfold wrap64; omega]
    go_ret
    exact ⟨rfl, rfl⟩
  · rename_i h
    rw [if_neg (by omega)] at hfix
    rw [hfix]
    go_ret
    exact ⟨rfl, rfl⟩
theorem refresidue_any {a m : Int} {w : World} (hm : 0 < m) (hm2 : m ≤ 9223372036854775807) :
    Calls Try.prog 35 #[.int .i64 a, .int .i64 m] w fun e w' => e = .returned (.int .i64 (a % m)) ∧ w' = w := by
  have hne : m ≠ 0 := by omega
  have hfix := tmod_fix a m hm
  go_enter Try.func35, Try.ntmps35
  go_wp2
  · rename_i h
    rw [if_pos h] at hfix
    rw [show wrap64 (a.tmod m + m) = a % m by
      have h1 := Int.lt_tmod_of_pos a hm
      unfold wrap64; omega]
    go_ret
    exact ⟨rfl, rfl⟩
  · rename_i h
    rw [if_neg (by omega)] at hfix
    rw [hfix]
    go_ret
    exact ⟨rfl, rfl⟩
/-- two residues added -/
theorem plus_any {a b m : Int} {w : World} (ha : 0 ≤ a) (ha2 : a < m) (hb : 0 ≤ b) (hb2 : b < m) (hm2 : m ≤ 9223372036854775807) :
    Calls Try.prog 34 #[.int .i64 a, .int .i64 b, .int .i64 m] w fun e w' => e = .returned (.int .i64 ((a + b) % m)) ∧ w' = w := by
  have e0 : wrap64 (m - b) = m - b := by unfold wrap64; omega
  have e1 : wrap64 (a - (m - b)) = a - (m - b) := by unfold wrap64; omega
  go_enter Try.func34, Try.ntmps34
  go_wp2
  · rename_i h
    go_ret
    rw [mod_wrap ha ha2 hb hb2, if_pos h]
    exact ⟨rfl, rfl⟩
  · rename_i h
    go_ret
    rw [mod_wrap ha ha2 hb hb2, if_neg (by omega)]
    exact ⟨rfl, rfl⟩
theorem emod_range {a m : Int} (hm : 0 < m) : 0 ≤ a % m ∧ a % m < m := ⟨Int.emod_nonneg a (by omega), Int.emod_lt_of_pos a hm⟩
theorem refadd_any {a b m : Int} {w : World} (hm2 : m ≤ 9223372036854775807) :
    Calls Try.prog 13 #[.int .i64 a, .int .i64 b, .int .i64 m] w fun e w' => e = .returned (.int .i64 (addS a b m)) ∧ w' = w := by
  unfold addS
  go_enter Try.func13, Try.ntmps13
  by_cases hm : m < 1
  · rw [if_pos hm]
    go_wp2
    go_ret
    exact ⟨rfl, rfl⟩
  · rw [if_neg hm]
    obtain ⟨a0, a1⟩ := emod_range (a := a) (m := m) (by omega)
    obtain ⟨b0, b1⟩ := emod_range (a := b) (m := m) (by omega)
    go_wp2_with fail
    refine (refresidue_any (by omega) hm2).mono ?_
    rintro e w1 ⟨rfl, rfl⟩
    go_wp2_with fail
    refine (refresidue_any (by omega) hm2).mono ?_
    rintro e w2 ⟨rfl, rfl⟩
    go_wp2_with fail
    refine (plus_any a0 a1 b0 b1 hm2).mono ?_
    rintro e w3 ⟨rfl, rfl⟩
    go_wp2
    go_ret
    exact ⟨rfl, rfl⟩
theorem gadd_any {a b m : Int} {w : World} (hm2 : m ≤ 9223372036854775807) :
    Calls Try.prog 12 #[.int .i64 a, .int .i64 b, .int .i64 m] w fun e w' => e = .returned (.int .i64 (addS a b m)) ∧ w' = w := by
  unfold addS
  go_enter Try.func12, Try.ntmps12
  by_cases hm : m < 1
  · rw [if_pos hm]
    go_wp2
    go_ret
    exact ⟨rfl, rfl⟩
  · rw [if_neg hm]
    obtain ⟨a0, a1⟩ := emod_range (a := a) (m := m) (by omega)
    obtain ⟨b0, b1⟩ := emod_range (a := b) (m := m) (by omega)
    have hne : m ≠ 0 := by omega
    have r0 := (emod_range (a := a % m + b % m) (m := m) (by omega)).1
    have r1 := (emod_range (a := a % m + b % m) (m := m) (by omega)).2
    have e0 : IntKind.u64.wrap (a % m) = a % m := by rw [IntKind.wrap_u64]; omega
    have e1 : IntKind.u64.wrap (b % m) = b % m := by rw [IntKind.wrap_u64]; omega
    have e2 : IntKind.u64.wrap m = m := by rw [IntKind.wrap_u64]; omega
    have e3 : IntKind.u64.wrap (a % m + b % m) = a % m + b % m := by rw [IntKind.wrap_u64]; omega
    have e4 : (a % m + b % m).tmod m = (a % m + b % m) % m := Int.tmod_eq_emod_of_nonneg (by omega)
    have e6 : (a % m + b % m) % m = (a + b) % m := (Int.add_emod a b m).symm
    have e5 : wrap64 ((a + b) % m) = (a + b) % m := by unfold wrap64; omega
    clear e6
    go_wp2_with fail
    refine (residue_any (by omega) hm2).mono ?_
    rintro e w1 ⟨rfl, rfl⟩
    go_wp2_with fail
    refine (residue_any (by omega) hm2).mono ?_
    rintro e w2 ⟨rfl, rfl⟩
    go_wp2
    rw [e5]
    go_ret
    exact ⟨rfl, rfl⟩
theorem refsub_any {a b m : Int} {w : World} (hm2 : m ≤ 9223372036854775807) :
    Calls Try.prog 15 #[.int .i64 a, .int .i64 b, .int .i64 m] w fun e w' => e = .returned (.int .i64 (subS a b m)) ∧ w' = w := by
  unfold subS
  go_enter Try.func15, Try.ntmps15
  by_cases hm : m < 1
  · rw [if_pos hm]
    go_wp2
    go_ret
    exact ⟨rfl, rfl⟩
  · rw [if_neg hm]
    obtain ⟨a0, a1⟩ := emod_range (a := a) (m := m) (by omega)
    obtain ⟨b0, b1⟩ := emod_range (a := b) (m := m) (by omega)
    have e0 : wrap64 (m - b % m) = m - b % m := by unfold wrap64; omega
    have es : (a - b) % m = (a % m - b % m) % m := Int.sub_emod a b m
    by_cases hlt : a % m < b % m
    · have e1 : wrap64 (a % m + (m - b % m)) = a % m + (m - b % m) := by unfold wrap64; omega
      have e2 : (a - b) % m = a % m + (m - b % m) := by
        rw [es, show a % m - b % m = (a % m + (m - b % m)) - m by omega, Int.sub_emod_right]
        exact Int.emod_eq_of_lt (by omega) (by omega)
      rw [e2]
      clear es e2
      go_wp2_with fail
      refine (refresidue_any (by omega) hm2).mono ?_
      rintro e w1 ⟨rfl, rfl⟩
      go_wp2_with fail
      refine (refresidue_any (by omega) hm2).mono ?_
      rintro e w2 ⟨rfl, rfl⟩
      go_wp2
      go_ret
      exact ⟨rfl, rfl⟩
    · have e2 : (a - b) % m = a % m - b % m := by
        rw [es]
        exact Int.emod_eq_of_lt (by omega) (by omega)
      have e1 : wrap64 (a % m - b % m) = a % m - b % m := by unfold wrap64; omega
      rw [e2]
      clear es e2
      go_wp2_with fail
      refine (refresidue_any (by omega) hm2).mono ?_
      rintro e w1 ⟨rfl, rfl⟩
      go_wp2_with fail
      refine (refresidue_any (by omega) hm2).mono ?_
      rintro e w2 ⟨rfl, rfl⟩
      go_wp2
      go_ret
      exact ⟨rfl, rfl⟩
theorem sub_any {a b m : Int} {w : World} (hm2 : m ≤ 9223372036854775807) :
    Calls Try.prog 14 #[.int .i64 a, .int .i64 b, .int .i64 m] w fun e w' => e = .returned (.int .i64 (subS a b m)) ∧ w' = w := by
  go_enter Try.func14, Try.ntmps14
  by_cases hm : m < 1
  · unfold subS
    rw [if_pos hm]
    go_wp2
    go_ret
    exact ⟨rfl, rfl⟩
  · obtain ⟨b0, b1⟩ := emod_range (a := b) (m := m) (by omega)
    have e0 : wrap64 (m - b % m) = m - b % m := by unfold wrap64; omega
    have e1 : addS a (m - b % m) m = subS a b m := by
      unfold addS subS
      rw [if_neg hm, if_neg hm, show a + (m - b % m) = (a - b % m) + m by omega, Int.add_emod_right, Int.sub_emod, Int.emod_emod_of_dvd b (Int.dvd_refl m), ← Int.sub_emod]
    go_wp2_with fail
    refine (residue_any (by omega) hm2).mono ?_
    rintro e w1 ⟨rfl, rfl⟩
    go_wp2_with fail
    refine (gadd_any hm2).mono ?_
    rintro e w2 ⟨rfl, rfl⟩
    go_wp2
    go_ret
    exact ⟨rfl, rfl⟩
end Go.Proofs.Ytiljlopgjlgfoaa
