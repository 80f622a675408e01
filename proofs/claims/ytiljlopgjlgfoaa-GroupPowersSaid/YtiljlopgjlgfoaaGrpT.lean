/- Numbers of texts: scalars and members, both implementations. -/
import Derived.Test.YtiljlopgjlgfoaaSum
import Derived.Test.YtiljlopgjlgfoaaGrpN
namespace Go.Proofs.Ytiljlopgjlgfoaa
open Go.RowKit

/-- the number of the first bytes -/
def nb (f : Nat → UInt8) : Nat → Nat
  | 0 => 0
  | k + 1 => nb f k * 256 + (f k).toNat
theorem nb_lt (f : Nat → UInt8) : ∀ k, nb f k < 256 ^ k
  | 0 => by rw [nb]; decide
  | k + 1 => by
    have h := nb_lt f k
    have h2 := (f k).toNat_lt
    rw [nb, Nat.pow_succ]
    omega
theorem nb_lt8 (f : Nat → UInt8) (k : Nat) (hk : k ≤ 8) : nb f k < 18446744073709551616 :=
  Nat.lt_of_lt_of_le (nb_lt f k) (by have := Nat.pow_le_pow_right (show 256 > 0 by decide) hk; exact this)
theorem nb_lt7 (f : Nat → UInt8) (k : Nat) (hk : k ≤ 7) : nb f k < 72057594037927936 :=
  Nat.lt_of_lt_of_le (nb_lt f k) (by have := Nat.pow_le_pow_right (show 256 > 0 by decide) hk; exact this)
theorem shl_or (n x : Nat) (hn : n < 72057594037927936) (hx : x < 256) : bits .or .u64 (IntKind.u64.wrap ((n : Int) * 256)) (x : Int) = ((n * 256 + x : Nat) : Int) := by
  have e1 : (n : Int) * 256 = ((n * 256 : Nat) : Int) := by omega
  rw [e1, u64_nat _ (by omega), bits_or_u64_nat _ _ (by omega) (by omega)]
  congr 1
  rw [Nat.mul_comm, show (256 : Nat) = 2 ^ 8 from rfl]
  exact (Nat.two_pow_add_eq_or_of_lt (show x < 2 ^ 8 from hx) n).symm
/-- the number of a hash -/
def numS (f : Nat → UInt8) : Int := ((nb f 8 % 9223372036854775808 : Nat) : Int)
theorem numS_range (f : Nat → UInt8) : 0 ≤ numS f ∧ numS f ≤ 9223372036854775807 := by
  unfold numS
  have := Nat.mod_lt (nb f 8) (show 9223372036854775808 > 0 by decide)
  omega
set_option maxHeartbeats 1000000 in
theorem number_any {f : Nat → UInt8} {w : World} :
    Calls Try.prog 48 #[.agg (arr 32 (U8 f))] w fun e w' => e = .returned (.int .i64 (numS f)) ∧ Below w.heap.size w w' := by
  go_enter Try.func48, Try.ntmps48
  go_wp2_with fail
  have hcell : Hid (∀ k, k < 32 → (w.alloc (.cells (arr 32 (U8 f)) 63)).cell? ⟨w.heap.size, k, none⟩ = some (.int .u8 (ub (f k)))) := fun k hk => by
    rw [World.cell?_alloc_at _ _ _ _ rfl, arr_get _ _ _ hk]
    rfl
  go_loop [3, 5] (fun n i => ∃ k : Nat, k ≤ 8 ∧ i = .int .i64 k ∧ n = .int .u64 (nb f k)) (fun _ i => 8 - (intOf i).toNat)
  case atStart => exact ⟨0, by omega, rfl, rfl⟩
  case round =>
    obtain ⟨k, hk, rfl, rfl⟩ := hrel
    by_cases hlt : k < 8
    · have g := hcell.out k (by omega)
      obtain ⟨X, hX⟩ : ∃ X, (f k).toNat = X := ⟨_, rfl⟩
      have hXu : ub (f k) = (X : Int) := by rw [← hX]; rfl
      rw [hXu] at g
      have hX2 : X < 256 := by rw [← hX]; exact (f k).toNat_lt
      have hN := nb_lt7 f k (by omega)
      have hs := shl_or (nb f k) X hN hX2
      have hnx : nb f (k + 1) = nb f k * 256 + X := by rw [← hX]; rfl
      rw [← hnx] at hs
      obtain ⟨N, hNe⟩ : ∃ N, nb f k = N := ⟨_, rfl⟩
      obtain ⟨N', hNe'⟩ : ∃ N', nb f (k + 1) = N' := ⟨_, rfl⟩
      rw [hNe] at hs hN ⊢
      rw [hNe'] at hs
      have HN := Lib.hid hNe'
      clear hnx hXu hX hNe hNe' hN
      have hk8 : IntKind.u64.wrap (X : Int) = (X : Int) := u64_nat _ (by omega)
      go_wp2_with fail
      go_round
      case rel => exact ⟨k + 1, by omega, by go_num, by rw [HN.out]⟩
      case measure => simp [intOf]; omega
    · obtain rfl : k = 8 := by omega
      have hmask : bits .and .u64 ((nb f 8 : Nat) : Int) 9223372036854775807 = numS f := by
        have h := bits_and_u64_nat (nb f 8) 9223372036854775807 (nb_lt8 f 8 (by omega)) (by omega)
        have e : nb f 8 &&& 9223372036854775807 = nb f 8 % 9223372036854775808 := Nat.and_two_pow_sub_one_eq_mod _ 63
        rw [e] at h
        exact h
      obtain ⟨v0, v1⟩ := numS_range f
      obtain ⟨V, hV⟩ : ∃ V, numS f = V := ⟨_, rfl⟩
      rw [hV] at hmask v0 v1
      have HV := Lib.hid hV
      have hw : wrap64 V = V := by unfold wrap64; omega
      clear hV
      go_wp2
      rw [← HV.out]
      go_ret
      exact ⟨rfl, (Below.refl _ _).alloc (Nat.le_refl _) _⟩
theorem nb_half (f : Nat → UInt8) : ∀ k, nb f (k + 1) % (128 * 256 ^ k) * 256 + (f (k + 1)).toNat = nb f (k + 1 + 1) % (128 * 256 ^ (k + 1)) := fun k => by
  have h2 := (f (k + 1)).toNat_lt
  show _ = (nb f (k + 1) * 256 + (f (k + 1)).toNat) % _
  obtain ⟨N, hN⟩ : ∃ N, nb f (k + 1) = N := ⟨_, rfl⟩
  obtain ⟨M, hM⟩ : ∃ M, 128 * 256 ^ k = M := ⟨_, rfl⟩
  rw [hN, Nat.pow_succ, ← Nat.mul_assoc, hM]
  have hM0 : 0 < M := by rw [← hM]; exact Nat.mul_pos (by decide) (Nat.pow_pos (by decide))
  have hlt := Nat.mod_lt N hM0
  have hdm := Nat.div_add_mod N M
  rw [show N * 256 + (f (k + 1)).toNat = (M * 256) * (N / M) + (N % M * 256 + (f (k + 1)).toNat) by
    rw [Nat.mul_right_comm]; omega]
  rw [Nat.mul_add_mod]
  exact (Nat.mod_eq_of_lt (by omega)).symm
theorem nb_half_lt (f : Nat → UInt8) (k : Nat) (hk : k ≤ 6) : nb f (k + 1) % (128 * 256 ^ k) < 36028797018963968 :=
  Nat.lt_of_lt_of_le (Nat.mod_lt _ (Nat.mul_pos (by decide) (Nat.pow_pos (by decide)))) (by have := Nat.pow_le_pow_right (show 256 > 0 by decide) hk; omega)
set_option maxHeartbeats 1000000 in
theorem refnumber_any {f : Nat → UInt8} {w : World} :
    Calls Try.prog 50 #[.agg (arr 32 (U8 f))] w fun e w' => e = .returned (.int .i64 (numS f)) ∧ Below w.heap.size w w' := by
  have hcell : Hid (∀ k, k < 32 → (w.alloc (.cells (arr 32 (U8 f)) 63)).cell? ⟨w.heap.size, k, none⟩ = some (.int .u8 (ub (f k)))) := fun k hk => by
    rw [World.cell?_alloc_at _ _ _ _ rfl, arr_get _ _ _ hk]
    rfl
  have g0 := hcell.out 0 (by omega)
  have hr : IntKind.u8.wrap ((ub (f 0)).tmod 128) = ((nb f 1 % 128 : Nat) : Int) := by
    have h : ∀ n : Fin 256, IntKind.u8.wrap (((n.val : Nat) : Int).tmod 128) = ((n.val % 128 : Nat) : Int) := by decide +kernel
    have h2 := h ⟨(f 0).toNat, (f 0).toNat_lt⟩
    have h3 : nb f 1 = (f 0).toNat := by rw [nb, nb]; omega
    rw [h3]
    exact h2
  have hr2 : (ub (f 0)).tmod 128 = ((nb f 1 % 128 : Nat) : Int) := by
    have h : ∀ n : Fin 256, ((n.val : Nat) : Int).tmod 128 = ((n.val % 128 : Nat) : Int) := by decide +kernel
    have h2 := h ⟨(f 0).toNat, (f 0).toNat_lt⟩
    have h3 : nb f 1 = (f 0).toNat := by rw [nb, nb]; omega
    rw [h3]
    exact h2
  go_enter Try.func50, Try.ntmps50
  go_wp2_with fail
  clear hr hr2 g0
  go_loop [3, 4] (fun n i => ∃ j : Nat, j ≤ 7 ∧ i = .int .i64 ((j + 1 : Nat) : Int) ∧ n = .int .i64 ((nb f (j + 1) % (128 * 256 ^ j) : Nat) : Int)) (fun _ i => 8 - (intOf i).toNat)
  case atStart => exact ⟨0, by omega, rfl, rfl⟩
  case round =>
    obtain ⟨j, hj, rfl, rfl⟩ := hrel
    by_cases hlt : j < 7
    · have g := hcell.out (j + 1) (by omega)
      have hN := nb_half_lt f j (by omega)
      have hnx := nb_half f j
      obtain ⟨X, hX⟩ : ∃ X, (f (j + 1)).toNat = X := ⟨_, rfl⟩
      have hXu : ub (f (j + 1)) = (X : Int) := by rw [← hX]; rfl
      rw [hXu] at g
      have hX2 : X < 256 := by rw [← hX]; exact (f (j + 1)).toNat_lt
      rw [hX] at hnx
      obtain ⟨N, hNe⟩ : ∃ N, nb f (j + 1) % (128 * 256 ^ j) = N := ⟨_, rfl⟩
      rw [hNe] at hN hnx ⊢
      have HN := Lib.hid hnx
      have hlt2 : ((j + 1 : Nat) : Int) < 8 := by omega
      obtain ⟨i, hi⟩ : ∃ i, j + 1 = i := ⟨_, rfl⟩
      rw [hi] at g hlt2 ⊢
      have HI := Lib.hid hi
      clear hNe hXu hX hi hnx
      go_wp2_with fail
      go_round
      case rel =>
        have h1 := HI.out
        refine ⟨j + 1, by omega, ?_, ?_⟩
        · rw [← h1]; go_num
        · rw [← HN.out]; go_num
      case measure => simp [intOf]; omega
    · obtain rfl : j = 7 := by omega
      have e : nb f (7 + 1) % (128 * 256 ^ 7) = nb f 8 % 9223372036854775808 := rfl
      rw [e]
      obtain ⟨V, hV⟩ : ∃ V, nb f 8 % 9223372036854775808 = V := ⟨_, rfl⟩
      rw [hV]
      have HV := Lib.hid hV
      clear hV e
      go_wp2
      go_ret
      refine ⟨?_, (Below.refl _ _).alloc (Nat.le_refl _) _⟩
      unfold numS
      rw [HV.out]
      rfl
def scalS (l : List UInt8) : Int := numS (sb (115 :: 47 :: l)) % 1152921504606845789
def eleX (l : List UInt8) : Int := 1 + numS (sb (101 :: 47 :: l)) % 2305843009213691578
def eleS (l : List UInt8) : Int := mulS (eleX l) (eleX l) 2305843009213691579
set_option maxHeartbeats 1000000 in
theorem scalar_any {l : List UInt8} {w : World} (hs : l.length ≤ 140737488355000) :
    Calls Try.prog 30 #[.string (bs l)] w fun e w' => e = .returned (.int .i64 (scalS l)) ∧ Below w.heap.size w w' := by
  go_enter Try.func30, Try.ntmps30
  go_wp2_with fail
  refine (sumL (l := 115 :: 47 :: l) (by simp; omega)).mono ?_
  rintro e w1 ⟨rfl, hb1⟩
  go_wp2_with fail
  refine number_any.mono ?_
  rintro e w2 ⟨rfl, hb2⟩
  go_wp2_with fail
  refine (residue_any (by decide) (by decide)).mono ?_
  rintro e w3 ⟨rfl, rfl⟩
  go_wp2
  go_ret
  have z1 := hb1.size
  exact ⟨rfl, hb1.trans (hb2.mono (by omega))⟩
theorem eleX_range (l : List UInt8) : 1 ≤ eleX l ∧ eleX l < 2305843009213691579 := by
  unfold eleX
  have h0 := Int.emod_nonneg (numS (sb (101 :: 47 :: l))) (show (2305843009213691578 : Int) ≠ 0 by decide)
  have h1 := Int.emod_lt_of_pos (numS (sb (101 :: 47 :: l))) (show (0 : Int) < 2305843009213691578 by decide)
  omega
set_option maxHeartbeats 1000000 in
theorem refscalar_any {l : List UInt8} {w : World} (hs : l.length ≤ 140737488355000) :
    Calls Try.prog 31 #[.string (bs l)] w fun e w' => e = .returned (.int .i64 (scalS l)) ∧ Below w.heap.size w w' := by
  go_enter Try.func31, Try.ntmps31
  go_wp2_with fail
  refine (refsumL (l := 115 :: 47 :: l) (by simp; omega)).mono ?_
  rintro e w1 ⟨rfl, hb1⟩
  go_wp2_with fail
  refine refnumber_any.mono ?_
  rintro e w2 ⟨rfl, hb2⟩
  obtain ⟨v0, v1⟩ := numS_range (sb (115 :: 47 :: l))
  have hS : numS (sb (115 :: 47 :: l)) % 1152921504606845789 = scalS l := rfl
  obtain ⟨V, hV⟩ : ∃ V, numS (sb (115 :: 47 :: l)) = V := ⟨_, rfl⟩
  rw [hV] at v0 v1 hS ⊢
  have HS := Lib.hid hS
  clear hS hV
  go_wp2
  rw [← HS.out]
  go_ret
  have z1 := hb1.size
  exact ⟨rfl, hb1.trans (hb2.mono (by omega))⟩
set_option maxHeartbeats 1000000 in
theorem element_any {l : List UInt8} {w : World} (hs : l.length ≤ 140737488355000) :
    Calls Try.prog 29 #[.string (bs l)] w fun e w' => e = .returned (.int .i64 (eleS l)) ∧ Below w.heap.size w w' := by
  go_enter Try.func29, Try.ntmps29
  go_wp2_with fail
  refine (sumL (l := 101 :: 47 :: l) (by simp; omega)).mono ?_
  rintro e w1 ⟨rfl, hb1⟩
  go_wp2_with fail
  refine number_any.mono ?_
  rintro e w2 ⟨rfl, hb2⟩
  go_wp2_with fail
  refine (residue_any (by decide) (by decide)).mono ?_
  rintro e w3 ⟨rfl, rfl⟩
  obtain ⟨x0, x1⟩ := eleX_range l
  have hS : 1 + numS (sb (101 :: 47 :: l)) % 2305843009213691578 = eleX l := rfl
  have hE : mulS (eleX l) (eleX l) 2305843009213691579 = eleS l := rfl
  obtain ⟨X, hX⟩ : ∃ X, eleX l = X := ⟨_, rfl⟩
  obtain ⟨Y, hY⟩ : ∃ Y, numS (sb (101 :: 47 :: l)) % 2305843009213691578 = Y := ⟨_, rfl⟩
  rw [hX] at x0 x1 hS hE
  rw [hY] at hS ⊢
  have HE := Lib.hid hE
  clear hE hX hY
  have hw : wrap64 X = X := by unfold wrap64; omega
  go_wp2_with fail
  refine (mul_any (by decide)).mono ?_
  rintro e w4 ⟨rfl, d1, rfl⟩
  rw [HE.out]
  go_wp2
  go_ret
  have z1 := hb1.size
  exact ⟨rfl, bdrewN (hb1.trans (hb2.mono (by omega))) _⟩
set_option maxHeartbeats 1000000 in
theorem refelement_any {l : List UInt8} {w : World} (hs : l.length ≤ 140737488355000) :
    Calls Try.prog 32 #[.string (bs l)] w fun e w' => e = .returned (.int .i64 (eleS l)) ∧ Below w.heap.size w w' := by
  go_enter Try.func32, Try.ntmps32
  go_wp2_with fail
  refine (refsumL (l := 101 :: 47 :: l) (by simp; omega)).mono ?_
  rintro e w1 ⟨rfl, hb1⟩
  go_wp2_with fail
  refine refnumber_any.mono ?_
  rintro e w2 ⟨rfl, hb2⟩
  obtain ⟨v0, v1⟩ := numS_range (sb (101 :: 47 :: l))
  obtain ⟨x0, x1⟩ := eleX_range l
  have hS : 1 + numS (sb (101 :: 47 :: l)) % 2305843009213691578 = eleX l := rfl
  have hE : mulS (eleX l) (eleX l) 2305843009213691579 = eleS l := rfl
  obtain ⟨X, hX⟩ : ∃ X, eleX l = X := ⟨_, rfl⟩
  obtain ⟨N, hN⟩ : ∃ N, numS (sb (101 :: 47 :: l)) = N := ⟨_, rfl⟩
  rw [hX] at x0 x1 hS hE
  rw [hN] at hS v0 v1 ⊢
  obtain ⟨Y, hY⟩ : ∃ Y, N % 2305843009213691578 = Y := ⟨_, rfl⟩
  rw [hY] at hS
  have HE := Lib.hid hE
  clear hE hX hN
  have hw : wrap64 X = X := by unfold wrap64; omega
  go_wp2_with fail
  refine (refmul_any (by decide)).mono ?_
  rintro e w4 ⟨rfl, rfl⟩
  rw [HE.out]
  go_wp2
  go_ret
  have z1 := hb1.size
  exact ⟨rfl, hb1.trans (hb2.mono (by omega))⟩
/-- a square is a member -/
theorem square_mem {x : Int} (h1 : 1 ≤ x) (h2 : x < Pv) : memB (mulS x x Pv) = true := by
  have h0 : x % Pv ≠ 0 := by rw [Int.emod_eq_of_lt (by omega) h2]; omega
  have hm : mulS x x Pv = x * x % Pv := mulS_pos (by decide)
  have hr := emod_range (a := x * x) (m := Pv) (by decide)
  have hq : powS (mulS x x Pv) Qv Pv = 1 := by
    have e := euler_P h0
    rw [powS_QP] at e
    rw [powS_QP, hm, pow_emod, ← pow_dbl, Nat.mul_comm, Int.pow_mul, ← pow_emod, show (2 : Nat) = 1 + 1 from rfl, Int.pow_succ, Int.pow_succ, Int.pow_zero, Int.one_mul]
    rcases e with e | e <;> rw [e] <;> decide +kernel
  have hne : mulS x x Pv ≠ 0 := by
    intro hz
    rw [hz, powS_QP] at hq
    obtain ⟨k, hk⟩ : ∃ k, Qv.toNat = k + 1 := ⟨1152921504606845788, by decide⟩
    rw [hk, Int.pow_succ, Int.mul_zero] at hq
    exact absurd hq (by decide)
  rw [hm] at hne
  unfold memB
  rw [hq, hm, decide_eq_true (show 1 ≤ x * x % Pv by omega), decide_eq_true hr.2]
  rfl
theorem eleS_mem (l : List UInt8) : memB (eleS l) = true := square_mem (eleX_range l).1 (eleX_range l).2
theorem scalS_range (l : List UInt8) : 0 ≤ scalS l ∧ scalS l < 1152921504606845789 :=
  ⟨Int.emod_nonneg _ (by decide), Int.emod_lt_of_pos _ (by decide)⟩
end Go.Proofs.Ytiljlopgjlgfoaa
