/- GroupPowers returns true for every text and all exponents, and its arguments read behind the call as before. No condition. -/
import Derived.Test.YtiljlopgjlgfoaaGrpS
import Derived.Test.YtiljlopgjlgfoaaGrpT
import Derived.SizedLaws
import Derived.ChangeMaps5
namespace Go.Proofs.Ytiljlopgjlgfoaa
open Go.ChangeShapes Go.WideShapes Go.ChangeAt Go.RowKit

theorem memB_parts {a : Int} (h : memB a = true) : 1 ≤ a ∧ a < Pv ∧ powS a Qv Pv = 1 := by
  unfold memB at h
  simp only [Bool.and_eq_true, decide_eq_true_eq, beq_iff_eq] at h
  exact ⟨h.1.1, h.1.2, h.2⟩
theorem powP {a n : Int} (hn : 0 ≤ n) : powS a n Pv = a ^ n.toNat % Pv := by unfold powS; rw [if_neg (by have : (1 : Int) ≤ Pv := by decide
                                                                                                         omega)]
theorem pow_red_nat {a : Int} {q : Nat} (h : a ^ q % Pv = 1) (k r : Nat) : a ^ (q * k + r) % Pv = a ^ r % Pv := by
  rw [Int.pow_add, Int.mul_emod, Int.pow_mul, ← pow_emod, h, Int.one_pow, show (1 : Int) % Pv = 1 by decide, Int.one_mul, emod_emod']
theorem pow_red {a n m : Int} (h : memB a = true) (hn : 0 ≤ n) (hm : 0 ≤ m) (e : n % Qv = m % Qv) : powS a n Pv = powS a m Pv := by
  obtain ⟨_, _, h1⟩ := memB_parts h
  rw [powS_QP] at h1
  rw [powP hn, powP hm]
  have hq : (Qv.toNat : Int) = Qv := by decide
  obtain ⟨N, rfl⟩ : ∃ N : Nat, n = (N : Int) := ⟨n.toNat, by omega⟩
  obtain ⟨M, rfl⟩ : ∃ M : Nat, m = (M : Int) := ⟨m.toNat, by omega⟩
  obtain ⟨q, hqe⟩ : ∃ q, Qv.toNat = q := ⟨_, rfl⟩
  rw [hqe] at h1 hq
  rw [← hq] at e
  rw [Int.toNat_natCast, Int.toNat_natCast]
  have e2 : N % q = M % q := by exact_mod_cast e
  rw [← Nat.div_add_mod N q, ← Nat.div_add_mod M q, pow_red_nat h1, pow_red_nat h1, e2]
theorem pow_mem {a n : Int} (h : memB a = true) (hn : 0 ≤ n) : memB (powS a n Pv) = true := by
  obtain ⟨a0, a1, h1⟩ := memB_parts h
  rw [powS_QP] at h1
  have hr := emod_range (a := a ^ n.toNat) (m := Pv) (by decide)
  have hq : powS (powS a n Pv) Qv Pv = 1 := by
    rw [powS_QP, powP hn, pow_emod, ← Int.pow_mul, Nat.mul_comm]
    have := pow_red_nat h1 n.toNat 0
    rw [Nat.add_zero, Int.pow_zero] at this
    rw [this]; decide
  have hne : powS a n Pv ≠ 0 := by
    intro hz
    rw [hz, powS_QP] at hq
    obtain ⟨k, hk⟩ : ∃ k, Qv.toNat = k + 1 := ⟨1152921504606845788, by decide⟩
    rw [hk, Int.pow_succ, Int.mul_zero] at hq
    exact absurd hq (by decide)
  unfold memB
  rw [hq]
  rw [powP hn] at hne ⊢
  rw [decide_eq_true (show 1 ≤ a ^ n.toNat % Pv by omega), decide_eq_true hr.2]
  rfl
theorem pow_sum {a x y : Int} (h : memB a = true) (hx : 0 ≤ x) (hy : 0 ≤ y) : powS a (addS x y Qv) Pv = mulS (powS a x Pv) (powS a y Pv) Pv := by
  have e : addS x y Qv = (x + y) % Qv := by unfold addS; rw [if_neg (by decide)]
  rw [pow_red h (m := x + y) (by rw [e]; exact Int.emod_nonneg _ (by decide)) (by omega) (by rw [e, emod_emod'])]
  rw [mulS_pos (by decide), powP hx, powP hy, powP (by omega), ← Int.mul_emod, ← Int.pow_add, Int.toNat_add hx hy]
theorem pow_prod {a x y : Int} (h : memB a = true) (hx : 0 ≤ x) (hy : 0 ≤ y) : powS a (mulS x y Qv) Pv = powS (powS a x Pv) y Pv := by
  have e : mulS x y Qv = (x * y) % Qv := mulS_pos (by decide)
  have h0 := Int.mul_nonneg hx hy
  rw [pow_red h (m := x * y) (by rw [e]; exact Int.emod_nonneg _ (by decide)) h0 (by rw [e, emod_emod'])]
  rw [powP hx, powP hy, powP h0, pow_emod, ← Int.pow_mul, Int.toNat_mul hx hy]
set_option maxHeartbeats 1000000 in
set_option maxRecDepth 100000 in
theorem gpwr_walk (l : List UInt8) (hl : l.length ≤ 140737488351232) (e : Int) (_ : -9223372036854775808 ≤ e) (_ : e ≤ 9223372036854775807) (f : Int) (_ : -9223372036854775808 ≤ f) (_ : f ≤ 9223372036854775807) (w : World) :
    Calls Try.prog 9 #[.string (bs l), .int .i64 e, .int .i64 f] w fun e w' => e = .returned (.bool true) ∧ Below w.heap.size w w' := by
  have e1 := and_p62 e
  have e2 := and_p62 f
  obtain ⟨x, hx⟩ : ∃ x, e % 4611686018427387904 = x := ⟨_, rfl⟩
  obtain ⟨y, hy⟩ : ∃ y, f % 4611686018427387904 = y := ⟨_, rfl⟩
  have x0 : 0 ≤ x := by omega
  have x1 : x < 4611686018427387904 := by omega
  have y0 : 0 ≤ y := by omega
  have y1 : y < 4611686018427387904 := by omega
  rw [hx] at e1
  rw [hy] at e2
  clear hx hy
  have hm := eleS_mem l
  obtain ⟨a, ha⟩ : ∃ a, eleS l = a := ⟨_, rfl⟩
  rw [ha] at hm
  have HA := Lib.hid ha
  obtain ⟨p, hp⟩ : ∃ p, powS a x Pv = p := ⟨_, rfl⟩
  obtain ⟨q, hq⟩ : ∃ q, powS a y Pv = q := ⟨_, rfl⟩
  have hpm : memB p = true := by rw [← hp]; exact pow_mem hm x0
  have hred : powS a (x % 1152921504606845789) Pv = p := by rw [← hp]; exact pow_red hm (Int.emod_nonneg _ (by decide)) x0 (emod_emod' x Qv)
  have hsum : powS a (addS x y 1152921504606845789) Pv = mulS p q Pv := by rw [← hp, ← hq]; exact pow_sum hm x0 y0
  have hprod : powS a (mulS x y 1152921504606845789) Pv = powS p y Pv := by rw [← hp]; exact pow_prod hm x0 y0
  have HM := Lib.hid hm
  have HP := Lib.hid hp
  have HQ := Lib.hid hq
  have HPM := Lib.hid hpm
  have HR := Lib.hid hred
  have HS := Lib.hid hsum
  have HD := Lib.hid hprod
  have a2 : addS x y 1152921504606845789 ≤ 9223372036854775807 := by
    unfold addS; rw [if_neg (by decide)]
    have := Int.emod_lt_of_pos (x + y) (show (0 : Int) < 1152921504606845789 by decide); omega
  have m2 : mulS x y 1152921504606845789 ≤ 9223372036854775807 := by
    rw [mulS_pos (by decide)]
    have := Int.emod_lt_of_pos (x * y) (show (0 : Int) < 1152921504606845789 by decide); omega
  have r2 : x % 1152921504606845789 ≤ 9223372036854775807 := by omega
  have A2 := Lib.hid a2
  have M2 := Lib.hid m2
  have R2 := Lib.hid r2
  clear ha hm hp hq hpm hred hsum hprod a2 m2 r2
  go_enter Try.func9, Try.ntmps9
  go_wp2_with fail
  refine sanity_any.mono ?_
  rintro e w1 ⟨rfl, hb1⟩
  go_wp2_with fail
  refine (element_any (by omega)).mono ?_
  rintro e w2 ⟨rfl, hb2⟩
  rw [HA.out]
  go_wp2_with fail
  refine (pow_any (by omega) (by decide)).mono ?_
  rintro e w3 ⟨rfl, hb3⟩
  rw [show powS a x 2305843009213691579 = p from HP.out]
  go_wp2_with fail
  refine (pow_any (by omega) (by decide)).mono ?_
  rintro e w4 ⟨rfl, hb4⟩
  rw [show powS a y 2305843009213691579 = q from HQ.out]
  go_wp2_with fail
  refine member_any.mono ?_
  rintro e w5 ⟨rfl, hb5⟩
  rw [HM.out]
  go_wp2_with fail
  refine member_any.mono ?_
  rintro e w6 ⟨rfl, hb6⟩
  rw [HPM.out]
  go_wp2_with fail
  refine (pow_any R2.out (by decide)).mono ?_
  rintro e w7 ⟨rfl, hb7⟩
  rw [show powS a (x % 1152921504606845789) 2305843009213691579 = p from HR.out]
  go_wp2_with fail
  refine (mul_any (by decide)).mono ?_
  rintro e w8 ⟨rfl, d1, rfl⟩
  go_wp2_with fail
  refine (gadd_any (by decide)).mono ?_
  rintro e w9 ⟨rfl, rfl⟩
  go_wp2_with fail
  refine (pow_any A2.out (by decide)).mono ?_
  rintro e w10 ⟨rfl, hb10⟩
  rw [show powS a (addS x y 1152921504606845789) 2305843009213691579 = mulS p q 2305843009213691579 from HS.out]
  go_wp2_with fail
  refine (pow_any (by omega) (by decide)).mono ?_
  rintro e w11 ⟨rfl, hb11⟩
  go_wp2_with fail
  refine (mul_any (by decide)).mono ?_
  rintro e w12 ⟨rfl, d2, rfl⟩
  go_wp2_with fail
  refine (pow_any M2.out (by decide)).mono ?_
  rintro e w13 ⟨rfl, hb13⟩
  rw [show powS a (mulS x y 1152921504606845789) 2305843009213691579 = powS p y 2305843009213691579 from HD.out]
  go_wp2_with fail
  go_ret
  simp only [World.heap_drewN] at hb10 hb13
  have z1 := hb1.size; have z2 := hb2.size; have z3 := hb3.size; have z4 := hb4.size; have z5 := hb5.size; have z6 := hb6.size; have z7 := hb7.size; have z10 := hb10.size; have z11 := hb11.size
  simp only [World.heap_drewN] at z10
  have t7 := (((((hb1.trans (hb2.mono (by omega))).trans (hb3.mono (by omega))).trans (hb4.mono (by omega))).trans (hb5.mono (by omega))).trans (hb6.mono (by omega))).trans (hb7.mono (by omega))
  have t11 := ((bdrewN t7 _).trans (hb10.mono (by omega))).trans (hb11.mono (by omega))
  exact ⟨rfl, (bdrewN t11 _).trans (hb13.mono (by omega))⟩

set_option maxRecDepth 100000 in
theorem gpwr_lifted (os : Os) (started : os.Started) (H : Type) (enc : TypeId × Value → H) :
    ReturnsInHanded {} Try.checked os 9 .any (Rows.groupPowersSpec.pre6 enc Try.prog Try.f9 Rows.groupPowersRow.domain false) (Rows.groupPowersSpec.post enc Try.prog Try.f9 false true false false) := by
  refine returnsInHanded_of_change_sized (C := Try.checked) own started (by kernel_rfl) Try.func9
    (ChangeSpec.witness6 (enc := enc) (C := Try.checked) false ⟨#[], #[.string ByteArray.empty, .int .i64 0, .int .i64 0], []⟩ 8 (by kernel_rfl) (by kernel_rfl) (by kernel_rfl) (by kernel_rfl)) ?_
  intro W base args ds gs before hval0 hW hcnd hsz0 _
  have hsz : (DataW.weightsEach Try.prog (Try.f9.params.toList ++ Rows.groupPowersSpec.plain.varTypes Try.prog) (ds ++ gs)).all (· ≤ reachBytes) = true := hsz0
  have hval : ∀ (j : Nat) t v, Try.f9.params[j]? = some t → args[j]? = some v → Value.okWide Try.prog W .any base t v := hval0
  obtain ⟨p, q, hA0, hV, -, -, -⟩ := id hW
  have hA : DataW.TrodAll enc Try.prog W 0 (fun _ => true) true Try.f9.params.toList args.toList ds p := hA0
  rw [Try.params9] at hA hval hsz
  obtain ⟨v0, vs0, d0, ds0, p0, q0, hargs, rfl, rfl, h0, r0⟩ := trodAll_cons hA
  obtain ⟨v1, vs1, d1, ds1, p1, q1, rfl, rfl, rfl, h1, r1⟩ := trodAll_cons r0
  obtain ⟨v2, vs2, d2, ds2, p2, q2, rfl, rfl, rfl, h2, r2⟩ := trodAll_cons r1
  obtain ⟨rfl, rfl, rfl⟩ := trodAll_nil r2
  obtain rfl : args = #[v0, v1, v2] := by cases args; simp_all
  obtain ⟨rfl, -⟩ := trodVars_none hV
  obtain ⟨a0, rfl, hd0, -, -⟩ := Go.ChangeMaps.open_string Try.underlying9 (hval 0 9 v0 rfl rfl) h0
  have hs0 := sized_string hsz (j := 0) (t := 9) rfl (by rw [hd0]; rfl)
  have hl0 : a0.data.toList.length ≤ 140737488351232 := by simpa [reachBytes] using hs0
  obtain ⟨a1, rfl, wl1, wh1⟩ := open_i64 Try.underlying3 (hval 1 3 v1 rfl rfl)
  obtain ⟨a2, rfl, wl2, wh2⟩ := open_i64 Try.underlying3 (hval 2 3 v2 rfl rfl)
  rw [bs_of a0]
  refine (gpwr_walk _ (by simpa using hl0) _ wl1 wh1 _ wl2 wh2 W).mono fun e W' ⟨he, hg⟩ => ?_
  subst he
  rw [← bs_of a0]
  exact ⟨_, rfl, law_post (tb := 4) laidOut (by decide +kernel) rfl Try.underlying4 rfl hW rfl hg⟩

theorem gpwr_proved : Rows.GroupPowersSaid :=
  OpenClaim.holds_of_wide 9 Try.f9 rfl rfl rfl rfl rfl rfl rfl ⟨rfl, rfl, rfl, rfl, rfl⟩ rfl rfl rfl rfl rfl (by kernel_rfl) Try.func9 (by kernel_rfl)
    (of_decide_eq_true (by kernel_rfl)) (by unfold Func.isWrapper; first | (rw [if_pos (by decide +kernel)]; kernel_rfl) | (rw [if_neg (by decide +kernel)]; exact ⟨rfl, rfl⟩))
    (fun os started H enc _ => gpwr_lifted os started H enc)
#print axioms gpwr_proved
end Go.Proofs.Ytiljlopgjlgfoaa
