/- What every statement of the chapter calls: sanity, mod; the sum on lists of bytes. -/
import Derived.Test.YtaphhcalpgibaaaEq
import Derived.Test.YtaphhcalpgibaaaDigE
namespace Go.Proofs.Ytaphhcalpgibaaa
open Go.RowKit

/-- the hash's bytes -/
@[irreducible] def sb (l : List UInt8) (i : Nat) : UInt8 := outByte (shaSt l) i
@[irreducible] def hx (f : Nat → UInt8) : List UInt8 := hexText (hl f 32)
theorem hx_length (f : Nat → UInt8) : (hx f).length = 64 := by unfold hx; rw [hexText_length, hl_length]
theorem sumL {l : List UInt8} {w : World} (hs : l.length ≤ 140737488355128) :
    Calls Try.prog 12 #[.string (bs l)] w fun e w' => e = .returned (.agg (arr 32 (U8 (sb l)))) ∧ Below w.heap.size w w' := by
  have h := sum_any (bs l) w (by rw [bs_size]; exact hs)
  rw [bs_data] at h
  unfold U8 sb
  exact h
theorem refsumL {l : List UInt8} {w : World} (hs : l.length ≤ 140737488355128) :
    Calls Try.prog 13 #[.string (bs l)] w fun e w' => e = .returned (.agg (arr 32 (U8 (sb l)))) ∧ Below w.heap.size w w' := by
  unfold U8 sb
  exact refsum_any l w hs
theorem textL {f : Nat → UInt8} {w : World} :
    Calls Try.prog 16 #[.agg (arr 32 (U8 f))] w fun e w' => e = .returned (.string (bs (hx f))) ∧ Below w.heap.size w w' := by
  unfold hx
  exact text_any f w
theorem reftextL {f : Nat → UInt8} {w : World} :
    Calls Try.prog 17 #[.agg (arr 32 (U8 f))] w fun e w' => e = .returned (.string (bs (hx f))) ∧ Below w.heap.size w w' := by
  unfold hx
  exact reftext_any f w

theorem hx_empty : (hx (sb []) == [101, 51, 98, 48, 99, 52, 52, 50, 57, 56, 102, 99, 49, 99, 49, 52, 57, 97, 102, 98, 102, 52, 99, 56, 57, 57, 54, 102, 98, 57, 50, 52, 50, 55, 97, 101, 52, 49, 101, 52, 54, 52, 57, 98, 57, 51, 52, 99, 97, 52, 57, 53, 57, 57, 49, 98, 55, 56, 53, 50, 98, 56, 53, 53]) = true := by decide +kernel
theorem hx_abc : (hx (sb [97, 98, 99]) == [98, 97, 55, 56, 49, 54, 98, 102, 56, 102, 48, 49, 99, 102, 101, 97, 52, 49, 52, 49, 52, 48, 100, 101, 53, 100, 97, 101, 50, 50, 50, 51, 98, 48, 48, 51, 54, 49, 97, 51, 57, 54, 49, 55, 55, 97, 57, 99, 98, 52, 49, 48, 102, 102, 54, 49, 102, 50, 48, 48, 49, 53, 97, 100]) = true := by decide +kernel

set_option maxHeartbeats 1000000 in
set_option maxRecDepth 100000 in
theorem sanity_any {w : World} : Calls Try.prog 11 #[] w fun e w' => e = .returned (.bool true) ∧ Below w.heap.size w w' := by
  have h0 := hx_empty
  have h1 := hx_abc
  go_enter Try.func11, Try.ntmps11
  go_wp2_with fail
  refine (sumL (l := []) (by decide)).mono ?_
  rintro e w1 ⟨rfl, hb1⟩
  go_wp2_with (go_at_call 16; refine textL.mono ?_; rintro e w2 ⟨rfl, hb2⟩)
  refine (sumL (l := [97, 98, 99]) (by decide)).mono ?_
  rintro e w3 ⟨rfl, hb3⟩
  go_wp2_with (go_at_call 16; refine textL.mono ?_; rintro e w4 ⟨rfl, hb4⟩)
  go_ret
  have z1 := hb1.size; have z2 := hb2.size; have z3 := hb3.size
  exact ⟨rfl, ((hb1.trans (hb2.mono (by omega))).trans (hb3.mono (by omega))).trans (hb4.mono (by omega))⟩
theorem mod_any {n m : Int} {w : World} (hm : 0 < m) (hm2 : m ≤ 4611686018427387904) :
    Calls Try.prog 15 #[.int .i64 n, .int .i64 m] w fun e w' => e = .returned (.int .i64 (n % m)) ∧ w' = w := by
  have hne : m ≠ 0 := by omega
  go_enter Try.func15, Try.ntmps15
  go_wp2
  have e0 : wrap64 (n.tmod m + m) = n.tmod m + m := by
    have a1 := Int.tmod_lt_of_pos n hm
    have a2 := Int.lt_tmod_of_pos n hm
    unfold wrap64; omega
  have e1 : (n.tmod m + m).tmod m = n % m := by
    have a2 := Int.lt_tmod_of_pos n hm
    rw [Int.tmod_eq_emod_of_nonneg (by omega), Int.add_emod_right]
    rcases Int.emod_emod_of_dvd n (Int.dvd_refl m) with h
    rw [Int.tmod_eq_emod]
    split
    · simp
    · rw [show ((m.natAbs : Nat) : Int) = m by omega, Int.sub_emod_right, h]
  rw [e0, e1]
  go_ret
  exact ⟨rfl, rfl⟩
end Go.Proofs.Ytaphhcalpgibaaa
