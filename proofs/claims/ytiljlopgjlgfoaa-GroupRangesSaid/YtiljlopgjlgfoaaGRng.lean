/- GroupRanges returns true for all numbers and moduli, and its arguments read behind the call as before. No condition. -/
import Derived.Test.YtiljlopgjlgfoaaGrpS
import Derived.Test.YtiljlopgjlgfoaaOpen
import Derived.Deep.QuietTactic
import Derived.BigQuiet
namespace Go.Proofs.Ytiljlopgjlgfoaa
open Go.ChangeShapes Go.WideShapes Go.ChangeAt Go.RowKit

def Fk (j : Nat) : Nat := if j = 0 then 12 else if j = 1 then 14 else 16
def Sk (j : Nat) (a b m : Int) : Int := if j = 0 then addS a b m else if j = 1 then subS a b m else mulS a b m
theorem fk_any (j : Nat) (a b m : Int) (w : World) (hm2 : m ≤ 9223372036854775807) : Calls Try.prog (Fk j) #[.int .i64 a, .int .i64 b, .int .i64 m] w fun e w' => e = .returned (.int .i64 (Sk j a b m)) ∧ ∃ n, w' = w.drewN n := by
  unfold Fk Sk
  by_cases h0 : j = 0
  · rw [if_pos h0, if_pos h0]
    exact (add_any hm2).mono fun e w' ⟨he, hw⟩ => ⟨he, 0, by rw [hw]; rfl⟩
  · rw [if_neg h0, if_neg h0]
    by_cases h1 : j = 1
    · rw [if_pos h1, if_pos h1]
      exact (sub_any hm2).mono fun e w' ⟨he, hw⟩ => ⟨he, 0, by rw [hw]; rfl⟩
    · rw [if_neg h1, if_neg h1]
      exact mul_any hm2
theorem sk_law (j : Nat) {x y m f mo : Int} (hm : 1 ≤ m) (hmo : m * f = mo) : 0 ≤ Sk j x y m ∧ Sk j x y m < m ∧ Sk j (x + mo) y m = Sk j x y m ∧ Sk j x (y - mo) m = Sk j x y m ∧ Sk j x y (-m) = 0 ∧ Sk j x y 0 = 0 := by
  subst hmo
  unfold Sk
  by_cases h0 : j = 0
  · simp only [if_pos h0]
    unfold addS
    rw [if_neg (show ¬ m < 1 by omega), if_neg (show ¬ m < 1 by omega), if_neg (show ¬ m < 1 by omega), if_pos (show -m < 1 by omega), if_pos (by omega)]
    refine ⟨Int.emod_nonneg _ (by omega), Int.emod_lt_of_pos _ (by omega), cong_of f (by omega), cong_of (-f) (by rw [Int.mul_neg]; omega), rfl, rfl⟩
  · simp only [if_neg h0]
    by_cases h1 : j = 1
    · simp only [if_pos h1]
      unfold subS
      rw [if_neg (show ¬ m < 1 by omega), if_neg (show ¬ m < 1 by omega), if_neg (show ¬ m < 1 by omega), if_pos (show -m < 1 by omega), if_pos (by omega)]
      refine ⟨Int.emod_nonneg _ (by omega), Int.emod_lt_of_pos _ (by omega), cong_of f (by omega), cong_of f (by omega), rfl, rfl⟩
    · simp only [if_neg h1]
      unfold mulS
      rw [if_neg (show ¬ m < 1 by omega), if_neg (show ¬ m < 1 by omega), if_neg (show ¬ m < 1 by omega), if_pos (show -m < 1 by omega), if_pos (by omega)]
      refine ⟨Int.emod_nonneg _ (by omega), Int.emod_lt_of_pos _ (by omega), cong_of (f * y) (by grind), cong_of (-(x * f)) (by grind), rfl, rfl⟩
theorem powS_shift {x m f mo n : Int} (hmo : m * f = mo) : powS (x - mo) n m = powS x n m := by
  subst hmo
  unfold powS
  split
  · rfl
  · rw [← pow_emod, ← pow_emod x]
    congr 2
    exact cong_of (-f) (by rw [Int.mul_neg]; omega)
set_option maxHeartbeats 6000000 in
set_option maxRecDepth 100000 in
theorem grng_walk (x : Int) (x0 : -2147483648 ≤ x) (x1 : x ≤ 2147483647) (y : Int) (y0 : -2147483648 ≤ y) (y1 : y ≤ 2147483647) (q0 q1 : Int) (hq0 : In32 q0) (hq1 : In32 q1) (w : World) :
    Calls Try.prog 8 #[.int .i32 x, .int .i32 y, .agg #[.int .i32 q0, .int .i32 q1]] w fun e w' => e = .returned (.bool true) ∧ Below w.heap.size w w' := by
  have e1 := and_p20 q0
  have e2 := and_1023 q1
  obtain ⟨m1, hm1⟩ : ∃ m1, q0 % 1048576 = m1 := ⟨_, rfl⟩
  obtain ⟨f1, hf1⟩ : ∃ f1, q1 % 1024 = f1 := ⟨_, rfl⟩
  have m10 : 0 ≤ m1 := by omega
  have m11 : m1 < 1048576 := by omega
  have f10 : 0 ≤ f1 := by omega
  have f11 : f1 < 1024 := by omega
  rw [hm1] at e1
  rw [hf1] at e2
  clear hm1 hf1
  obtain ⟨m, hm⟩ : ∃ m, 1 + m1 = m := ⟨_, rfl⟩
  obtain ⟨mo, hmo⟩ : ∃ mo, m * f1 = mo := ⟨_, rfl⟩
  have hm0 : 1 ≤ m := by omega
  have hm2 : m ≤ 1048576 := by omega
  have hmo0 : 0 ≤ mo := by rw [← hmo]; exact Int.mul_nonneg (by omega) f10
  have hmo1 : mo ≤ 1073741824 := by
    rw [← hmo]
    have h1 : m * f1 ≤ 1048576 * f1 := Int.mul_le_mul_of_nonneg_right hm2 f10
    omega
  have hw : wrap64 mo = mo := by unfold wrap64; omega
  have HM := Lib.hid hm
  have HMO := Lib.hid hmo
  obtain ⟨q00, q01⟩ := hq0
  obtain ⟨q10, q11⟩ := hq1
  have ey := and_63 y
  obtain ⟨z, hz⟩ : ∃ z, y % 64 = z := ⟨_, rfl⟩
  have hz0 : 0 ≤ z := by omega
  have hz1 : z < 64 := by omega
  rw [hz] at ey
  clear hz
  obtain ⟨pw, hpw⟩ : ∃ pw, powS x z m = pw := ⟨_, rfl⟩
  have hp0 : 0 ≤ pw := by rw [← hpw]; unfold powS; rw [if_neg (by omega)]; exact Int.emod_nonneg _ (by omega)
  have hp1 : pw < m := by rw [← hpw]; unfold powS; rw [if_neg (by omega)]; exact Int.emod_lt_of_pos _ (by omega)
  have HPW := Lib.hid hpw
  clear hpw
  go_enter Try.func8, Try.ntmps8
  go_wp2_with fail
  refine sanity_any.mono ?_
  rintro e w1 ⟨rfl, hb1⟩
  have c0 : w1.cell? ⟨w.heap.size, 0, none⟩ = some (.int .i32 q0) := by
    rw [hb1.cell (p := ⟨w.heap.size, 0, none⟩) (by simp)]; go_simp
  have c1 : w1.cell? ⟨w.heap.size, 1, none⟩ = some (.int .i32 q1) := by
    rw [hb1.cell (p := ⟨w.heap.size, 1, none⟩) (by simp)]; go_simp
  have z1 : w.heap.size + 1 ≤ w1.heap.size := by have := hb1.size; simpa using this
  have hb1' : Below w.heap.size w w1 := ((Below.refl _ _).alloc (Nat.le_refl _) _).trans (hb1.mono (by simp))
  go_wp2_with fail
  go_quiet (fail)
  go_wp2_with fail
  have hneg : wrap64 (-m) = -m := by unfold wrap64; omega
  have hadd : wrap64 (x + mo) = x + mo := by unfold wrap64; omega
  have hsub : wrap64 (y - mo) = y - mo := by unfold wrap64; omega
  have hsub2 : wrap64 (x - mo) = x - mo := by unfold wrap64; omega
  clear c0 c1 e1 e2 hm hmo hw
  go_loopw [34] (fun i wr => ∃ k : Nat, k ≤ 3 ∧ i = .int .i64 k ∧ w1.heap.size + 1 ≤ wr.heap.size ∧ Below w.heap.size w wr ∧ Hid (∀ j, j < 3 → wr.cell? ⟨w1.heap.size, j, none⟩ = some (.func (.func (Fk j)) #[] #[]))) (fun i _ => 3 - (intOf i).toNat)
  case atStart =>
    refine ⟨0, by omega, rfl, by simp, (bdrewN hb1' _).alloc (by simp; omega) _, ?_⟩
    intro j hj
    match j, hj with
    | 0, _ => exact (World.cell?_alloc_at (w := w1.drewN _) _ _ w1.heap.size 0 rfl).trans rfl
    | 1, _ => exact (World.cell?_alloc_at (w := w1.drewN _) _ _ w1.heap.size 1 rfl).trans rfl
    | 2, _ => exact (World.cell?_alloc_at (w := w1.drewN _) _ _ w1.heap.size 2 rfl).trans rfl
  case round =>
    obtain ⟨k, hk, rfl, hsz, hb, hc⟩ := hrel
    by_cases hlt : k < 3
    · have g := hc.out k hlt
      have hs := sk_law k (x := x) (y := y) (f := f1) (mo := mo) hm0 HMO.out
      have hF := fk_any k
      obtain ⟨S, hSe⟩ : ∃ S, Sk k = S := ⟨_, rfl⟩
      rw [hSe] at hs hF
      clear hSe
      obtain ⟨s0, s1, s2, s3, s4, s5⟩ := hs
      obtain ⟨V, hV⟩ : ∃ V, S x y m = V := ⟨_, rfl⟩
      rw [hV] at s0 s1 s2 s3
      have HV := Lib.hid hV
      have S2 := Lib.hid s2
      have S3 := Lib.hid s3
      have S4 := Lib.hid s4
      have S5 := Lib.hid s5
      clear hV s2 s3 s4 s5
      have hF3 : Fk k = 12 ∨ Fk k = 14 ∨ Fk k = 16 := by
        unfold Fk
        split
        · exact Or.inl rfl
        · split
          · exact Or.inr (Or.inl rfl)
          · exact Or.inr (Or.inr rfl)
      rcases hF3 with hFe | hFe | hFe
      all_goals
        rw [hFe] at g hF
        have HF := Lib.hid hF
        clear hF hFe
        go_wp2_with fail
        refine (HF.out _ _ _ _ (by omega)).mono ?_
        rintro e w2 ⟨rfl, d2, rfl⟩
        rw [HV.out]
        go_wp2_with fail
        refine (HF.out _ _ _ _ (by omega)).mono ?_
        rintro e w2 ⟨rfl, d3, rfl⟩
        rw [S2.out]
        go_wp2_with fail
        refine (HF.out _ _ _ _ (by omega)).mono ?_
        rintro e w2 ⟨rfl, d4, rfl⟩
        rw [S3.out]
        go_wp2_with fail
        refine (HF.out _ _ _ _ (by omega)).mono ?_
        rintro e w2 ⟨rfl, d5, rfl⟩
        rw [S4.out]
        go_wp2_with fail
        refine (HF.out _ _ _ _ (by omega)).mono ?_
        rintro e w2 ⟨rfl, d6, rfl⟩
        rw [S5.out]
        go_wp2_with fail
        go_roundw
        case rel => exact ⟨k + 1, by omega, by go_num, by simp; omega, bdrewN hb _, hc⟩
        case measure => simp [intOf]; omega
    · obtain rfl : k = 3 := by omega
      go_wp2_with fail
      refine (pow_any (by omega) (by omega)).mono ?_
      rintro e w2 ⟨rfl, hb2⟩
      rw [HPW.out]
      go_wp2_with fail
      refine (pow_any (by omega) (by omega)).mono ?_
      rintro e w3 ⟨rfl, hb3⟩
      rw [powS_shift HMO.out, HPW.out]
      go_wp2_with fail
      refine (pow_any (by omega) (by omega)).mono ?_
      rintro e w4 ⟨rfl, hb4⟩
      rw [show powS x z (-m) = 0 by unfold powS; rw [if_pos (by omega)]]
      go_wp2_with fail
      go_ret
      have z2 := hb2.size
      have z3 := hb3.size
      have z4 := hb4.size
      exact ⟨rfl, ((hb.trans (hb2.mono (by omega))).trans (hb3.mono (by omega))).trans (hb4.mono (by omega))⟩

set_option maxRecDepth 100000 in
theorem grng_lifted (os : Os) (started : os.Started) (H : Type) (enc : TypeId × Value → H) :
    ReturnsInHanded {} Try.checked os 8 .any (Rows.groupRangesSpec.pre6 enc Try.prog Try.f8 Rows.groupRangesRow.domain false) (Rows.groupRangesSpec.post enc Try.prog Try.f8 false true false false) := by
  refine returnsInHanded_of_change (C := Try.checked) own started (by kernel_rfl) Try.func8
    (ChangeSpec.witness6 (enc := enc) (C := Try.checked) false ⟨#[], #[.int .i32 0, .int .i32 0, .agg #[.int .i32 0, .int .i32 0]], []⟩ 8 (by kernel_rfl) (by kernel_rfl) (by kernel_rfl) (by kernel_rfl)) ?_
  intro W base args ds gs before hval0 hW hcnd _
  have hval : ∀ (j : Nat) t v, Try.f8.params[j]? = some t → args[j]? = some v → Value.okWide Try.prog W .any base t v := hval0
  obtain ⟨p, q, hA0, hV, -, -, -⟩ := id hW
  have hA : DataW.TrodAll enc Try.prog W 0 (fun _ => true) true Try.f8.params.toList args.toList ds p := hA0
  rw [Try.params8] at hA hval
  obtain ⟨v0, vs0, d0, ds0, p0, q0, hargs, rfl, rfl, h0, r0⟩ := trodAll_cons hA
  obtain ⟨v1, vs1, d1, ds1, p1, q1, rfl, rfl, rfl, h1, r1⟩ := trodAll_cons r0
  obtain ⟨v2, vs2, d2, ds2, p2, q2, rfl, rfl, rfl, h2, r2⟩ := trodAll_cons r1
  obtain ⟨rfl, rfl, rfl⟩ := trodAll_nil r2
  obtain rfl : args = #[v0, v1, v2] := by cases args; simp_all
  obtain ⟨rfl, -⟩ := trodVars_none hV
  obtain ⟨a0, rfl, wl0, wh0⟩ := open_i32 Try.underlying21 (hval 0 21 v0 rfl rfl)
  obtain ⟨a1, rfl, wl1, wh1⟩ := open_i32 Try.underlying21 (hval 1 21 v1 rfl rfl)
  obtain ⟨a2, b2, rfl, wa2, wb2⟩ := open_two32 (e := 21) Try.underlying39 Try.underlying21 (by kernel_rfl) (by kernel_rfl) (hval 2 39 v2 rfl rfl)
  refine (grng_walk _ wl0 wh0 _ wl1 wh1 _ _ wa2 wb2 W).mono fun e W' ⟨he, hg⟩ => ?_
  subst he
  exact ⟨_, rfl, law_post (tb := 4) laidOut (by decide +kernel) rfl Try.underlying4 rfl hW rfl hg⟩

theorem grng_proved : Rows.GroupRangesSaid :=
  OpenClaim.holds_of_wide 8 Try.f8 rfl rfl rfl rfl rfl rfl rfl ⟨rfl, rfl, rfl, rfl, rfl⟩ rfl rfl rfl rfl rfl (by kernel_rfl) Try.func8 (by kernel_rfl)
    (of_decide_eq_true (by kernel_rfl)) (by unfold Func.isWrapper; first | (rw [if_pos (by decide +kernel)]; kernel_rfl) | (rw [if_neg (by decide +kernel)]; exact ⟨rfl, rfl⟩))
    (fun os started H enc _ => grng_lifted os started H enc)
#print axioms grng_proved
end Go.Proofs.Ytiljlopgjlgfoaa
