/- Powers of the group: both implementations. -/
import Derived.Test.YtiljlopgjlgfoaaGrpB
import Derived.Test.YtiljlopgjlgfoaaMask
namespace Go.Proofs.Ytiljlopgjlgfoaa
open Go.RowKit

theorem setCell_twice (w : World) (p : Addr) (x y : Value) : (w.setCell p x).setCell p y = w.setCell p y := by
  unfold World.setCell
  congr 1
  apply Array.ext
  · simp
  · intro i h1 h2
    simp only [Array.getElem_modify]
    split
    · cases w.heap[i]'(by simpa using h2) <;> simp only []
      split <;> simp [Array.setIfInBounds_setIfInBounds]
    · rfl
theorem setCell_drewN (w : World) (p : Addr) (x : Value) (n : Nat) : (w.drewN n).setCell p x = (w.setCell p x).drewN n := rfl
theorem bdrewN {B : Nat} {a w : World} (h : Below B a w) (n : Nat) : Below B a (w.drewN n) := h.trans ⟨rfl, rfl, rfl, Nat.le_refl _, fun _ _ => rfl⟩
def stepS (x a m bit : Int) : Int := if bit = 1 then mulS (mulS x x m) a m else mulS x x m
set_option maxHeartbeats 1000000 in
theorem pstep_any {x bit a m : Int} {w : World} {px pm pa : Addr} (hm2 : m ≤ 9223372036854775807) (hx : w.cell? px = some (.int .i64 x)) (hm : w.cell? pm = some (.int .i64 m)) (ha : w.cell? pa = some (.int .i64 a))
    (fx : w.frozen? px = false) (n1 : px ≠ pm) (n2 : px ≠ pa) :
    Calls Try.prog 38 #[.int .i64 bit, .pointer (some px), .pointer (some pm), .pointer (some pa)] w fun e w' => e = .returned (.tuple #[]) ∧ ∃ n, w' = (w.setCell px (.int .i64 (stepS x a m bit))).drewN n := by
  by_cases hb : bit = 1
  · rw [show stepS x a m bit = mulS (mulS x x m) a m by unfold stepS; rw [if_pos hb]]
    go_enter Try.func38, Try.ntmps38
    go_wp2_with fail
    refine (mul_any hm2).mono ?_
    rintro e w1 ⟨rfl, k1, rfl⟩
    go_wp2_with fail
    refine (mul_any hm2).mono ?_
    rintro e w1 ⟨rfl, k2, rfl⟩
    go_wp2
    go_end0
    exact ⟨rfl, k1 + k2, by rw [setCell_drewN, setCell_drewN, setCell_drewN, setCell_twice, World.drewN_drewN]⟩
  · rw [show stepS x a m bit = mulS x x m by unfold stepS; rw [if_neg hb]]
    have hb' : (bit == 1) = false := by simpa using hb
    go_enter Try.func38, Try.ntmps38
    go_wp2_with fail
    refine (mul_any hm2).mono ?_
    rintro e w1 ⟨rfl, k1, rfl⟩
    go_wp2
    go_end0
    exact ⟨rfl, k1, rfl⟩

def powS (a n m : Int) : Int := if m < 1 ∨ n < 0 then 0 else a ^ n.toNat % m
theorem mulS_mod {a b m x y : Int} (hm : ¬ m < 1) (ha : a = x % m) (hb : b % m = y % m) : mulS a b m = (x * y) % m := by
  unfold mulS
  rw [if_neg hm, ha, Int.mul_emod, Int.emod_emod_of_dvd _ (Int.dvd_refl m), hb, ← Int.mul_emod]
theorem stepS_mod {a m x bit : Int} {N : Nat} (hm : ¬ m < 1) (hx : x = a ^ N % m) (hb : bit = 0 ∨ bit = 1) : stepS x a m bit = a ^ (2 * N + bit.toNat) % m := by
  have h1 : mulS x x m = a ^ (2 * N) % m := by
    rw [mulS_mod (x := a ^ N) (y := a ^ N) hm hx (by rw [hx, Int.emod_emod_of_dvd _ (Int.dvd_refl m)]), ← Int.pow_add, Nat.two_mul]
  unfold stepS
  rcases hb with rfl | rfl
  · rw [if_neg (by decide), h1]; rfl
  · rw [if_pos rfl, mulS_mod (x := a ^ (2 * N)) (y := a) hm h1 rfl]; exact congrArg (· % m) (Int.pow_succ a (2 * N)).symm

theorem pow_next {a n m : Int} {k : Nat} (hm : ¬ m < 1) (hn : ¬ n < 0) (hk : k < 63) :
    stepS (a ^ (n / 2 ^ (63 - k)).toNat % m) a m (bits .and .i64 (n / 2 ^ (62 - k)) 1) = a ^ (n / 2 ^ (63 - (k + 1))).toNat % m := by
  rw [and_1, show 63 - k = (62 - k) + 1 by omega, show 63 - (k + 1) = 62 - k by omega]
  have e : n / 2 ^ (62 - k + 1) = n / 2 ^ (62 - k) / 2 := by
    rw [Int.pow_succ, Int.ediv_ediv_of_nonneg (Int.pow_nonneg (by omega))]
  rw [e]
  have h0 : 0 ≤ n / 2 ^ (62 - k) := Int.ediv_nonneg (by omega) (Int.pow_nonneg (by omega))
  generalize n / 2 ^ (62 - k) = q at *
  rw [stepS_mod hm rfl (by omega)]
  congr 2
  omega
set_option maxHeartbeats 1000000 in
theorem pow_any {a n m : Int} {w : World} (hn2 : n ≤ 9223372036854775807) (hm2 : m ≤ 9223372036854775807) :
    Calls Try.prog 20 #[.int .i64 a, .int .i64 n, .int .i64 m] w fun e w' => e = .returned (.int .i64 (powS a n m)) ∧ Below w.heap.size w w' := by
  by_cases hm : m < 1 ∨ n < 0
  · rw [show powS a n m = 0 by unfold powS; rw [if_pos hm]]
    go_enter Try.func20, Try.ntmps20
    by_cases h1 : m < 1
    · go_wp2
      go_ret
      exact ⟨rfl, ((Below.refl _ _).alloc (Nat.le_refl _) _).alloc (by simp) _⟩
    · have h2 : n < 0 := by omega
      have h1' : decide (m < 1) = false := decide_eq_false h1
      clear hm h1
      go_wp2
      go_ret
      exact ⟨rfl, ((Below.refl _ _).alloc (Nat.le_refl _) _).alloc (by simp) _⟩
  · have h1 : ¬ m < 1 := by omega
    have h2 : ¬ n < 0 := by omega
    rw [show powS a n m = a ^ n.toNat % m by unfold powS; rw [if_neg hm]]
    have h1' : decide (m < 1) = false := decide_eq_false h1
    have h2' : decide (n < 0) = false := decide_eq_false h2
    have hm1 : 0 < m := by omega
    have H1 := Lib.hid h1
    have H2 := Lib.hid h2
    clear hm h1 h2
    go_enter Try.func20, Try.ntmps20
    go_wp2_with fail
    refine (residue_any (by omega) hm2).mono ?_
    rintro e w1 ⟨rfl, rfl⟩
    go_wp2_with fail
    go_loopw [19] (fun i wr => ∃ k : Nat, k ≤ 63 ∧ i = .int .i64 k ∧ Below w.heap.size w wr ∧ wr.cell? ⟨w.heap.size, 0, none⟩ = some (.int .i64 a) ∧ wr.cell? ⟨w.heap.size + 1, 0, none⟩ = some (.int .i64 m) ∧
        wr.cell? ⟨w.heap.size + 1 + 1, 0, none⟩ = some (.int .i64 (a ^ (n / 2 ^ (63 - k)).toNat % m)) ∧ wr.frozen? ⟨w.heap.size + 1 + 1, 0, none⟩ = false) (fun i _ => 63 - (intOf i).toNat)
    case atStart =>
      refine ⟨0, by omega, rfl, (((Below.refl _ _).alloc (Nat.le_refl _) _).alloc (by simp) _).alloc (by simp; omega) _, by go_simp, by go_simp, ?_, by go_simp⟩
      have hz : n / 2 ^ (63 - 0) = 0 := Int.ediv_eq_zero_of_lt (by have := H2.out; omega) (by omega)
      rw [hz]
      go_simp
    case round =>
      obtain ⟨k, hk, rfl, hb, ca, cm, cx, fx⟩ := hrel
      by_cases hlt : k < 63
      · go_wp2_with fail
        refine (pstep_any (bit := _) hm2 cx cm ca fx (by simp) (by simp)).mono ?_
        rintro e w1 ⟨rfl, k1, rfl⟩
        rw [pow_next (by have := H1.out; omega) (by have := H2.out; omega) hlt]
        go_wp2_with fail
        go_roundw
        case rel =>
          exact ⟨k + 1, by omega, by go_num, bdrewN (hb.setCell (by simp; omega) _) _, by go_simp, by go_simp, by go_simp, by go_simp⟩
        case measure => simp [intOf]; omega
      · obtain rfl : k = 63 := by omega
        have cx' : wr.cell? ⟨w.heap.size + 1 + 1, 0, none⟩ = some (.int .i64 (a ^ n.toNat % m)) := by
          rw [cx]
          simp
        clear cx
        go_wp2
        go_ret
        exact ⟨rfl, hb⟩
end Go.Proofs.Ytiljlopgjlgfoaa
