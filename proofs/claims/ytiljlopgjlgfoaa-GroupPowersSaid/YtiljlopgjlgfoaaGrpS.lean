/- The examples that every law of the group includes. -/
import Derived.Test.YtiljlopgjlgfoaaGrpN
import Derived.Test.YtiljlopgjlgfoaaRowG
namespace Go.Proofs.Ytiljlopgjlgfoaa
open Go.RowKit

theorem bdrew {B : Nat} {a w : World} (h : Below B a w) (n : Nat) : Below B a (w.drewN n) := bdrewN h n
set_option maxHeartbeats 1000000 in
set_option maxRecDepth 100000 in
theorem sanity_any {w : World} :
    Calls Try.prog 11 #[] w fun e w' => e = .returned (.bool true) ∧ Below w.heap.size w w' := by
  go_enter Try.func11, Try.ntmps11
  go_wp2_with fail
  refine (inv_any (by decide)).mono ?_
  rintro e w1 ⟨rfl, n1, rfl⟩
  rw [inv_3_7.1, inv_3_7.2]
  go_wp2_with fail
  refine (inv_any (by decide)).mono ?_
  rintro e w1 ⟨rfl, n2, rfl⟩
  rw [inv_2_4]
  go_wp2_with fail
  refine (inv_any (by decide)).mono ?_
  rintro e w1 ⟨rfl, n3, rfl⟩
  rw [inv_0_7]
  go_wp2_with fail
  refine (mul_any (by decide)).mono ?_
  rintro e w1 ⟨rfl, n4, rfl⟩
  rw [show mulS 2305843009213691578 2305843009213691578 2305843009213691579 = 1 by decide +kernel]
  go_wp2_with fail
  refine (gadd_any (by decide)).mono ?_
  rintro e w1 ⟨rfl, rfl⟩
  rw [show addS 1152921504606845788 5 1152921504606845789 = 4 by decide +kernel]
  go_wp2_with fail
  refine (sub_any (by decide)).mono ?_
  rintro e w1 ⟨rfl, rfl⟩
  rw [show subS 2 5 7 = 4 by decide +kernel]
  go_wp2_with fail
  refine (mul_any (by decide)).mono ?_
  rintro e w1 ⟨rfl, n5, rfl⟩
  rw [show mulS (-1) 3 7 = 4 by decide +kernel]
  go_wp2_with fail
  refine (mul_any (by decide)).mono ?_
  rintro e w1 ⟨rfl, n6, rfl⟩
  rw [show mulS 3 4 0 = 0 by decide +kernel]
  go_wp2_with fail
  refine (pow_any (by decide) (by decide)).mono ?_
  rintro e w1 ⟨rfl, hb1⟩
  rw [show powS 4 1152921504606845789 2305843009213691579 = 1 from pow_4_QP]
  go_wp2_with fail
  refine (pow_any (by decide) (by decide)).mono ?_
  rintro e w2 ⟨rfl, hb2⟩
  rw [show powS 2 (-1) 7 = 0 by unfold powS; rw [if_pos (by decide)]]
  go_wp2_with fail
  refine member_any.mono ?_
  rintro e w3 ⟨rfl, hb3⟩
  rw [mem_1]
  go_wp2_with fail
  refine member_any.mono ?_
  rintro e w4 ⟨rfl, hb4⟩
  rw [mem_4]
  go_wp2_with fail
  refine member_any.mono ?_
  rintro e w5 ⟨rfl, hb5⟩
  rw [mem_2]
  go_wp2_with fail
  refine member_any.mono ?_
  rintro e w6 ⟨rfl, hb6⟩
  rw [mem_0]
  go_wp2_with fail
  go_ret
  have z1 := hb1.size; have z2 := hb2.size; have z3 := hb3.size; have z4 := hb4.size; have z5 := hb5.size; have z6 := hb6.size
  simp only [World.heap_drewN] at z1 hb1
  refine ⟨rfl, ?_⟩
  exact ((((((bdrew (Below.refl _ _) _).trans hb1).trans (hb2.mono (by omega))).trans (hb3.mono (by omega))).trans (hb4.mono (by omega))).trans (hb5.mono (by omega))).trans (hb6.mono (by omega))
/-- the moduli of a list that a law goes through -/
def elt (m c : Int) (j : Nat) : Int := if j = 0 then m else if j = 1 then 2305843009213691579 else if j = 2 then 1152921504606845789 else if j = 3 then c else if j = 4 then 9223372036854775807 else 1
theorem elt_le {m c : Int} {j : Nat} (hm : m ≤ 9223372036854775807) (hc : c ≤ 9223372036854775807) : elt m c j ≤ 9223372036854775807 := by
  unfold elt
  repeat' split
  all_goals omega
/-- a row of ints -/
def Arr (w : World) (b n : Nat) (f : Nat → Int) : Prop := ∀ j, j < n → w.cell? ⟨b, j, none⟩ = some (.int .i64 (f j))
theorem Arr.below {w w' : World} {b n B : Nat} {f : Nat → Int} (h : Arr w b n f) (hb : Below B w w') (hB : b < B) : Arr w' b n f := fun j hj => by
  rw [hb.cell (p := ⟨b, j, none⟩) hB]; exact h j hj
theorem Arr.drewN {w : World} {b n : Nat} {f : Nat → Int} (h : Arr w b n f) (k : Nat) : Arr (w.drewN k) b n f := h
end Go.Proofs.Ytiljlopgjlgfoaa
