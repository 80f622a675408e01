/- DigestLengths returns true for every byte and every two numbers, and its arguments read behind the call as before. No condition. -/
import Derived.Test.YtaphhcalpgibaaaMisc
namespace Go.Proofs.Ytaphhcalpgibaaa
open Go.ChangeShapes Go.WideShapes Go.ChangeAt Go.RowKit

set_option maxHeartbeats 1000000 in
theorem lens_walk (c : UInt8) (n : Int) (_h0 : -9223372036854775808 ≤ n) (_h1 : n ≤ 9223372036854775807) (far : Int) (_h2 : -9223372036854775808 ≤ far) (_h3 : far ≤ 9223372036854775807) (w : World) :
    Calls Try.prog 4 #[.int .u8 (ub c), .int .i64 n, .int .i64 far] w fun e w' => e = .returned (.bool true) ∧ Below w.heap.size w w' := by
  have n0 : 0 ≤ n % 300 := Int.emod_nonneg _ (by decide)
  have n1 : n % 300 < 300 := Int.emod_lt_of_pos _ (by decide)
  have m0 : 0 ≤ n % 4 := Int.emod_nonneg _ (by decide)
  have m1 : n % 4 < 4 := Int.emod_lt_of_pos _ (by decide)
  have r0 : 0 ≤ far % 20 := Int.emod_nonneg _ (by decide)
  have r1 : far % 20 < 20 := Int.emod_lt_of_pos _ (by decide)
  go_enter Try.func4, Try.ntmps4
  go_wp2_with (go_at_call 11; refine sanity_any.mono ?_; rintro e w1 ⟨rfl, hb1⟩)
  refine (mod_any (n := n) (m := 300) (by decide) (by decide)).mono ?_
  rintro e w2 ⟨rfl, rfl⟩
  go_wp2_with fail
  refine (repeated_any n0 (by omega)).mono ?_
  rintro e w3 ⟨z, hzl, rfl, hb3⟩
  go_wp2_with fail
  refine (mod_any (n := n) (m := 4) (by decide) (by decide)).mono ?_
  rintro e w4 ⟨rfl, rfl⟩
  have e0 : wrap64 (64 * (n % 4)) = 64 * (n % 4) := by unfold wrap64; omega
  have e1 : wrap64 (64 * (n % 4) + 50) = 64 * (n % 4) + 50 := by unfold wrap64; omega
  go_wp2_with fail
  refine (mod_any (n := far) (m := 20) (by decide) (by decide)).mono ?_
  rintro e w5 ⟨rfl, rfl⟩
  have e2 : wrap64 (64 * (n % 4) + 50 + far % 20) = 64 * (n % 4) + 50 + far % 20 := by unfold wrap64; omega
  go_wp2_with fail
  refine (repeated_any (n := 64 * (n % 4) + 50 + far % 20) (by omega) (by omega)).mono ?_
  rintro e w6 ⟨y, hyl, rfl, hb6⟩
  clear e0 e1 e2 n0 n1 m0 m1 r0 r1
  go_wp2_with fail
  refine (sumL (by omega)).mono ?_
  rintro e w7 ⟨rfl, hb7⟩
  go_wp2_with fail
  refine (refsumL (by omega)).mono ?_
  rintro e w8 ⟨rfl, hb8⟩
  go_wp2_with fail
  refine (sumL (by omega)).mono ?_
  rintro e w9 ⟨rfl, hb9⟩
  go_wp2_with fail
  refine (refsumL (by omega)).mono ?_
  rintro e w10 ⟨rfl, hb10⟩
  go_wp2_with fail
  go_ret
  have z1 := hb1.size; have z3 := hb3.size; have z6 := hb6.size; have z7 := hb7.size; have z8 := hb8.size; have z9 := hb9.size
  exact ⟨rfl, ((((((hb1.trans (hb3.mono (by omega))).trans (hb6.mono (by omega))).trans (hb7.mono (by omega))).trans (hb8.mono (by omega))).trans (hb9.mono (by omega))).trans (hb10.mono (by omega)))⟩

set_option maxRecDepth 100000 in
theorem lens_lifted (os : Os) (started : os.Started) (H : Type) (enc : TypeId × Value → H) :
    ReturnsInHanded {} Try.checked os 4 .any (Rows.digestLengthsSpec.pre6 enc Try.prog Try.f4 Rows.digestLengthsRow.domain false) (Rows.digestLengthsSpec.post enc Try.prog Try.f4 false true false false) := by
  refine returnsInHanded_of_change (C := Try.checked) own started (by kernel_rfl) Try.func4
    (ChangeSpec.witness6 (enc := enc) (C := Try.checked) false ⟨#[], #[.int .u8 0, .int .i64 0, .int .i64 0], []⟩ 8 (by kernel_rfl) (by kernel_rfl) (by kernel_rfl) (by kernel_rfl)) ?_
  intro W base args ds gs before hval0 hW hcnd _
  have hval : ∀ (j : Nat) t v, Try.f4.params[j]? = some t → args[j]? = some v → Value.okWide Try.prog W .any base t v := hval0
  obtain ⟨p, q, hA0, hV, -, -, -⟩ := id hW
  have hA : DataW.TrodAll enc Try.prog W 0 (fun _ => true) true Try.f4.params.toList args.toList ds p := hA0
  rw [Try.params4] at hA hval
  obtain ⟨v0, vs0, d0, ds0, p0, q0, hargs, rfl, rfl, h0, r0⟩ := trodAll_cons hA
  obtain ⟨v1, vs1, d1, ds1, p1, q1, rfl, rfl, rfl, h1, r1⟩ := trodAll_cons r0
  obtain ⟨v2, vs2, d2, ds2, p2, q2, rfl, rfl, rfl, h2, r2⟩ := trodAll_cons r1
  obtain ⟨rfl, rfl, rfl⟩ := trodAll_nil r2
  obtain rfl : args = #[v0, v1, v2] := by cases args; simp_all
  obtain ⟨rfl, -⟩ := trodVars_none hV
  obtain ⟨a0, rfl⟩ := open_u8 Try.underlying5 (hval 0 5 v0 rfl rfl)
  obtain ⟨a1, rfl, wl1, wh1⟩ := open_i64 Try.underlying3 (hval 1 3 v1 rfl rfl)
  obtain ⟨a2, rfl, wl2, wh2⟩ := open_i64 Try.underlying3 (hval 2 3 v2 rfl rfl)
  refine (lens_walk _ _ wl1 wh1 _ wl2 wh2 W).mono fun e W' ⟨he, hg⟩ => ?_
  subst he
  exact ⟨_, rfl, law_post (tb := 4) laidOut (by decide +kernel) rfl Try.underlying4 rfl hW rfl hg⟩

theorem lens_proved : Rows.DigestLengthsSaid :=
  OpenClaim.holds_of_wide 4 Try.f4 rfl rfl rfl rfl rfl rfl rfl ⟨rfl, rfl, rfl, rfl, rfl⟩ rfl rfl rfl rfl rfl (by kernel_rfl) Try.func4 (by kernel_rfl)
    (of_decide_eq_true (by kernel_rfl)) (by unfold Func.isWrapper; first | (rw [if_pos (by decide +kernel)]; kernel_rfl) | (rw [if_neg (by decide +kernel)]; exact ⟨rfl, rfl⟩))
    (fun os started H enc _ => lens_lifted os started H enc)
#print axioms lens_proved
end Go.Proofs.Ytaphhcalpgibaaa
