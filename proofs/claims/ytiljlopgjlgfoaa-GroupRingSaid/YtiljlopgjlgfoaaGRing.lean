/- GroupRing returns true for all numbers and moduli, and its arguments read behind the call as before. No condition. -/
import Derived.Test.YtiljlopgjlgfoaaGrpS
import Derived.Test.YtiljlopgjlgfoaaOpen
import Derived.Deep.QuietTactic
import Derived.BigQuiet
namespace Go.Proofs.Ytiljlopgjlgfoaa
open Go.ChangeShapes Go.WideShapes Go.ChangeAt Go.RowKit

def eltR (m c : Int) (j : Nat) : Int := if j = 0 then m else if j = 1 then 2305843009213691579 else if j = 2 then 1152921504606845789 else c
theorem eltR_le {m c : Int} {j : Nat} (hm : m ≤ 9223372036854775807) (hc : c ≤ 9223372036854775807) : eltR m c j ≤ 9223372036854775807 := by
  unfold eltR
  repeat' split
  all_goals omega
theorem addS_comm (a b n : Int) : addS b a n = addS a b n := by unfold addS; rw [Int.add_comm]
theorem mulS_comm (a b n : Int) : mulS b a n = mulS a b n := by unfold mulS; rw [Int.mul_comm]
theorem mulS_assoc (a b c n : Int) : mulS a (mulS b c n) n = mulS (mulS a b n) c n := by
  unfold mulS
  split
  · rfl
  · rw [Int.mul_emod, emod_emod', ← Int.mul_emod, Int.mul_emod (a * b % n), emod_emod', ← Int.mul_emod, Int.mul_assoc]
theorem ring_dist (a b c n : Int) : addS (mulS a b n) (mulS a c n) n = mulS a (addS b c n) n := by
  unfold mulS addS
  split
  · rfl
  · rw [Int.mul_emod a ((b + c) % n), emod_emod', ← Int.mul_emod, Int.mul_add]
    exact (Int.add_emod _ _ _).symm
theorem ring_back (a b n : Int) : subS (addS a b n) b n = addS a 0 n := by
  unfold subS addS
  split
  · rfl
  · rw [Int.add_zero, Int.sub_emod, emod_emod', ← Int.sub_emod, Int.add_sub_cancel]
theorem inv_field {a n : Int} (h : n = 2305843009213691579 ∨ n = 1152921504606845789) : invB a n = (addS a 0 n != 0) := by
  have e : addS a 0 n = a % n := by unfold addS; rw [if_neg (by omega), Int.add_zero]
  rw [e, Bool.eq_iff_iff]
  rcases h with rfl | rfl
  · rw [show invB a 2305843009213691579 = invB a Pv from rfl, invB_P]; simp [Pv]
  · rw [show invB a 1152921504606845789 = invB a Qv from rfl, invB_Q]; simp [Qv]
set_option maxHeartbeats 4000000 in
set_option maxRecDepth 100000 in
theorem gring_walk (a b c : Int) (_ : In64 a) (_ : In64 b) (_ : In64 c) (m : Int) (_ : -9223372036854775808 ≤ m) (hm2 : m ≤ 9223372036854775807) (w : World) :
    Calls Try.prog 6 #[.agg #[.int .i64 a, .int .i64 b, .int .i64 c], .int .i64 m] w fun e w' => e = .returned (.bool true) ∧ Below w.heap.size w w' := by
  have e1 := and_63 m
  obtain ⟨m6, hm6⟩ : ∃ m6, m % 64 = m6 := ⟨_, rfl⟩
  have hm61 : m6 ≤ 9223372036854775807 := by omega
  rw [hm6] at e1
  clear hm6
  go_enter Try.func6, Try.ntmps6
  go_wp2_with fail
  refine sanity_any.mono ?_
  rintro e w1 ⟨rfl, hb1⟩
  have c0 : w1.cell? ⟨w.heap.size, 0, none⟩ = some (.int .i64 a) := by
    rw [hb1.cell (p := ⟨w.heap.size, 0, none⟩) (by simp)]; go_simp
  have c1 : w1.cell? ⟨w.heap.size, 1, none⟩ = some (.int .i64 b) := by
    rw [hb1.cell (p := ⟨w.heap.size, 1, none⟩) (by simp)]; go_simp
  have c2 : w1.cell? ⟨w.heap.size, 2, none⟩ = some (.int .i64 c) := by
    rw [hb1.cell (p := ⟨w.heap.size, 2, none⟩) (by simp)]; go_simp
  have z1 : w.heap.size + 1 ≤ w1.heap.size := by have := hb1.size; simpa using this
  have hb1' : Below w.heap.size w w1 := ((Below.refl _ _).alloc (Nat.le_refl _) _).trans (hb1.mono (by simp))
  go_wp2_with fail
  go_quiet (fail)
  go_wp2_with fail
  clear c0 c1 c2 e1
  go_loopw [25] (fun i wr => ∃ k : Nat, k ≤ 4 ∧ i = .int .i64 k ∧ Below w.heap.size w wr ∧ Hid (Arr wr w1.heap.size 4 (eltR m m6))) (fun i _ => 4 - (intOf i).toNat)
  case atStart =>
    refine ⟨0, by omega, rfl, (bdrewN hb1' _).alloc (by simp; omega) _, ?_⟩
    intro j hj
    match j, hj with
    | 0, _ => exact (World.cell?_alloc_at (w := w1.drewN _) _ _ w1.heap.size 0 rfl).trans rfl
    | 1, _ => exact (World.cell?_alloc_at (w := w1.drewN _) _ _ w1.heap.size 1 rfl).trans rfl
    | 2, _ => exact (World.cell?_alloc_at (w := w1.drewN _) _ _ w1.heap.size 2 rfl).trans rfl
    | 3, _ => exact (World.cell?_alloc_at (w := w1.drewN _) _ _ w1.heap.size 3 rfl).trans rfl
  case round =>
    obtain ⟨k, hk, rfl, hb, hc⟩ := hrel
    by_cases hlt : k < 4
    · have g := hc.out k hlt
      have hn := eltR_le (m := m) (c := m6) (j := k) hm2 hm61
      obtain ⟨n, hne⟩ : ∃ n, eltR m m6 k = n := ⟨_, rfl⟩
      rw [hne] at g hn
      clear hne
      go_wp2_with fail
      refine (add_any hn).mono ?_
      rintro e w2 ⟨rfl, rfl⟩
      go_wp2_with fail
      refine (add_any hn).mono ?_
      rintro e w3 ⟨rfl, rfl⟩
      rw [addS_comm a b]
      go_wp2_with fail
      refine (mul_any hn).mono ?_
      rintro e w2 ⟨rfl, d1, rfl⟩
      go_wp2_with fail
      refine (mul_any hn).mono ?_
      rintro e w2 ⟨rfl, d2, rfl⟩
      rw [mulS_comm a b]
      go_wp2_with fail
      refine (mul_any hn).mono ?_
      rintro e w2 ⟨rfl, d3, rfl⟩
      go_wp2_with fail
      refine (mul_any hn).mono ?_
      rintro e w2 ⟨rfl, d4, rfl⟩
      go_wp2_with fail
      refine (mul_any hn).mono ?_
      rintro e w2 ⟨rfl, d5, rfl⟩
      go_wp2_with fail
      refine (mul_any hn).mono ?_
      rintro e w2 ⟨rfl, d6, rfl⟩
      rw [mulS_assoc]
      go_wp2_with fail
      refine (add_any hn).mono ?_
      rintro e w3 ⟨rfl, rfl⟩
      go_wp2_with fail
      refine (mul_any hn).mono ?_
      rintro e w2 ⟨rfl, d7, rfl⟩
      go_wp2_with fail
      refine (mul_any hn).mono ?_
      rintro e w2 ⟨rfl, d8, rfl⟩
      go_wp2_with fail
      refine (mul_any hn).mono ?_
      rintro e w2 ⟨rfl, d9, rfl⟩
      go_wp2_with fail
      refine (add_any hn).mono ?_
      rintro e w3 ⟨rfl, rfl⟩
      rw [ring_dist]
      go_wp2_with fail
      refine (add_any hn).mono ?_
      rintro e w3 ⟨rfl, rfl⟩
      go_wp2_with fail
      refine (sub_any hn).mono ?_
      rintro e w3 ⟨rfl, rfl⟩
      rw [ring_back]
      go_wp2_with fail
      refine (add_any hn).mono ?_
      rintro e w3 ⟨rfl, rfl⟩
      go_wp2_with fail
      refine (inv_any hn).mono ?_
      rintro e w2 ⟨rfl, d10, rfl⟩
      have hF := inv_field (a := a) (n := n)
      have hL := inv_law (a := a) (m := n)
      have hZ := inv_zero (a := a) (m := n)
      obtain ⟨V, hV⟩ : ∃ V, invV a n = V := ⟨_, rfl⟩
      obtain ⟨B, hB⟩ : ∃ B, invB a n = B := ⟨_, rfl⟩
      rw [hB] at hF hL hZ
      rw [hV] at hL hZ
      rw [hV, hB]
      clear hV hB
      cases B
      · obtain rfl := hZ rfl
        clear hL hZ
        by_cases hP : n = 2305843009213691579 ∨ n = 1152921504606845789
        · have hadd := hF hP
          obtain ⟨u, hu⟩ : ∃ u, addS a 0 n = u := ⟨_, rfl⟩
          rw [hu] at hadd
          have HU := Lib.hid hu
          have hu2 : (u == 0) = true := by cases h : (u == 0) <;> simp_all
          clear hF hu hadd
          have hPQ : (n == 2305843009213691579) = true ∨ ((n == 2305843009213691579) = false ∧ (n == 1152921504606845789) = true) := by
            rcases hP with rfl | rfl
            · left; decide
            · right; decide
          clear hP
          rcases hPQ with hP | ⟨hP, hQ⟩
          all_goals
            go_wp2_with fail
            refine (add_any hn).mono ?_
            rintro e w3 ⟨rfl, rfl⟩
            rw [HU.out]
            go_wp2_with fail
            go_roundw
            case rel => exact ⟨k + 1, by omega, by go_num, bdrewN hb _, hc⟩
            case measure => simp [intOf]; omega
        · have hP1 : (n == 2305843009213691579) = false := by simp; omega
          have hP2 : (n == 1152921504606845789) = false := by simp; omega
          clear hF hP
          go_wp2_with fail
          go_roundw
          case rel => exact ⟨k + 1, by omega, by go_num, bdrewN hb _, hc⟩
          case measure => simp [intOf]; omega
      · obtain ⟨l1, l2, l3⟩ := hL rfl
        clear hL hZ
        have hM : mulS a V n = 1 := by rw [mulS_pos (by omega)]; exact l1
        have HM := Lib.hid hM
        have l2' : decide (V < 1) = false := decide_eq_false (by omega)
        have l3' : decide (n ≤ V) = false := decide_eq_false (by omega)
        clear hM l1 l2 l3
        by_cases hP : n = 2305843009213691579 ∨ n = 1152921504606845789
        · have hadd := hF hP
          obtain ⟨u, hu⟩ : ∃ u, addS a 0 n = u := ⟨_, rfl⟩
          rw [hu] at hadd
          have HU := Lib.hid hu
          have hu2 : (u == 0) = false := by cases h : (u == 0) <;> simp_all
          have hu3 : (u != 0) = true := by simpa using hu2
          have hu4 : (!(u != 0)) = false := by rw [hu3]; rfl
          clear hF hu hadd
          have hPQ : (n == 2305843009213691579) = true ∨ ((n == 2305843009213691579) = false ∧ (n == 1152921504606845789) = true) := by
            rcases hP with rfl | rfl
            · left; decide
            · right; decide
          clear hP
          rcases hPQ with hP | ⟨hP, hQ⟩
          all_goals
            go_wp2_with fail
            refine (mul_any hn).mono ?_
            rintro e w2 ⟨rfl, d11, rfl⟩
            rw [HM.out]
            go_wp2_with fail
            refine (add_any hn).mono ?_
            rintro e w3 ⟨rfl, rfl⟩
            rw [HU.out]
            go_wp2_with fail
            go_roundw
            case rel => exact ⟨k + 1, by omega, by go_num, bdrewN hb _, hc⟩
            case measure => simp [intOf]; omega
        · have hP1 : (n == 2305843009213691579) = false := by simp; omega
          have hP2 : (n == 1152921504606845789) = false := by simp; omega
          clear hF hP
          go_wp2_with fail
          refine (mul_any hn).mono ?_
          rintro e w2 ⟨rfl, d11, rfl⟩
          rw [HM.out]
          go_wp2_with fail
          go_roundw
          case rel => exact ⟨k + 1, by omega, by go_num, bdrewN hb _, hc⟩
          case measure => simp [intOf]; omega
    · obtain rfl : k = 4 := by omega
      go_wp2_with fail
      go_ret
      exact ⟨rfl, hb⟩

set_option maxRecDepth 100000 in
theorem gring_lifted (os : Os) (started : os.Started) (H : Type) (enc : TypeId × Value → H) :
    ReturnsInHanded {} Try.checked os 6 .any (Rows.groupRingSpec.pre6 enc Try.prog Try.f6 Rows.groupRingRow.domain false) (Rows.groupRingSpec.post enc Try.prog Try.f6 false true false false) := by
  refine returnsInHanded_of_change (C := Try.checked) own started (by kernel_rfl) Try.func6
    (ChangeSpec.witness6 (enc := enc) (C := Try.checked) false ⟨#[], #[.agg #[.int .i64 0, .int .i64 0, .int .i64 0], .int .i64 0], []⟩ 8 (by kernel_rfl) (by kernel_rfl) (by kernel_rfl) (by kernel_rfl)) ?_
  intro W base args ds gs before hval0 hW hcnd _
  have hval : ∀ (j : Nat) t v, Try.f6.params[j]? = some t → args[j]? = some v → Value.okWide Try.prog W .any base t v := hval0
  obtain ⟨p, q, hA0, hV, -, -, -⟩ := id hW
  have hA : DataW.TrodAll enc Try.prog W 0 (fun _ => true) true Try.f6.params.toList args.toList ds p := hA0
  rw [Try.params6] at hA hval
  obtain ⟨v0, vs0, d0, ds0, p0, q0, hargs, rfl, rfl, h0, r0⟩ := trodAll_cons hA
  obtain ⟨v1, vs1, d1, ds1, p1, q1, rfl, rfl, rfl, h1, r1⟩ := trodAll_cons r0
  obtain ⟨rfl, rfl, rfl⟩ := trodAll_nil r1
  obtain rfl : args = #[v0, v1] := by cases args; simp_all
  obtain ⟨rfl, -⟩ := trodVars_none hV
  obtain ⟨a0, b0, c0, rfl, wa0, wb0, wc0⟩ := open_three (e := 3) Try.underlying36 Try.underlying3 (by kernel_rfl) (by kernel_rfl) (hval 0 36 v0 rfl rfl)
  obtain ⟨a1, rfl, wl1, wh1⟩ := open_i64 Try.underlying3 (hval 1 3 v1 rfl rfl)
  refine (gring_walk _ _ _ wa0 wb0 wc0 _ wl1 wh1 W).mono fun e W' ⟨he, hg⟩ => ?_
  subst he
  exact ⟨_, rfl, law_post (tb := 4) laidOut (by decide +kernel) rfl Try.underlying4 rfl hW rfl hg⟩

theorem gring_proved : Rows.GroupRingSaid :=
  OpenClaim.holds_of_wide 6 Try.f6 rfl rfl rfl rfl rfl rfl rfl ⟨rfl, rfl, rfl, rfl, rfl⟩ rfl rfl rfl rfl rfl (by kernel_rfl) Try.func6 (by kernel_rfl)
    (of_decide_eq_true (by kernel_rfl)) (by unfold Func.isWrapper; first | (rw [if_pos (by decide +kernel)]; kernel_rfl) | (rw [if_neg (by decide +kernel)]; exact ⟨rfl, rfl⟩))
    (fun os started H enc _ => gring_lifted os started H enc)
#print axioms gring_proved
end Go.Proofs.Ytiljlopgjlgfoaa
