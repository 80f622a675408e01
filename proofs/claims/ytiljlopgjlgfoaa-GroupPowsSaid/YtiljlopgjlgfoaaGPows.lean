/- GroupPows returns true for all numbers, exponents and moduli, and its arguments read behind the call as before. No condition. -/
import Derived.Test.YtiljlopgjlgfoaaGrpS
namespace Go.Proofs.Ytiljlopgjlgfoaa
open Go.ChangeShapes Go.WideShapes Go.ChangeAt Go.RowKit

set_option maxHeartbeats 1000000 in
set_option maxRecDepth 100000 in
theorem gpows_walk (a : Int) (_ : -9223372036854775808 ≤ a) (_ : a ≤ 9223372036854775807) (b : Int) (_ : -9223372036854775808 ≤ b) (hb2 : b ≤ 9223372036854775807) (m : Int) (_ : -9223372036854775808 ≤ m) (hm2 : m ≤ 9223372036854775807) (w : World) :
    Calls Try.prog 4 #[.int .i64 a, .int .i64 b, .int .i64 m] w fun e w' => e = .returned (.bool true) ∧ Below w.heap.size w w' := by
  have ec := and_1023 m
  go_enter Try.func4, Try.ntmps4
  go_wp2_with fail
  refine sanity_any.mono ?_
  rintro e w1 ⟨rfl, hb1⟩
  go_wp2_with fail
  clear ec
  go_loopw [20] (fun i wr => ∃ k : Nat, k ≤ 6 ∧ i = .int .i64 k ∧ w1.heap.size + 1 ≤ wr.heap.size ∧ Below w.heap.size w wr ∧ Hid (∀ j, j < 6 → wr.cell? ⟨w1.heap.size, j, none⟩ = some (.int .i64 (elt m (m % 1024) j)))) (fun i _ => 6 - (intOf i).toNat)
  case atStart =>
    refine ⟨0, by omega, rfl, by simp, hb1.alloc hb1.size _, ?_⟩
    intro j hj
    match j, hj with
    | 0, _ => go_simp; rfl
    | 1, _ => go_simp; rfl
    | 2, _ => go_simp; rfl
    | 3, _ => go_simp; rfl
    | 4, _ => go_simp; rfl
    | 5, _ => go_simp; rfl
  case round =>
    obtain ⟨k, hk, rfl, hsz, hb, hc⟩ := hrel
    by_cases hlt : k < 6
    · have g := hc.out k hlt
      have hn := elt_le (m := m) (c := m % 1024) (j := k) hm2 (by omega)
      obtain ⟨n, hne⟩ : ∃ n, elt m (m % 1024) k = n := ⟨_, rfl⟩
      rw [hne] at g hn
      clear hne
      go_wp2_with fail
      refine (inv_any hn).mono ?_
      rintro e w2 ⟨rfl, d1, rfl⟩
      go_wp2_with fail
      refine (refinv_any hn).mono ?_
      rintro e w3 ⟨rfl, rfl⟩
      go_wp2_with fail
      refine (pow_any hb2 hn).mono ?_
      rintro e w4 ⟨rfl, hb4⟩
      go_wp2_with fail
      refine (refpow_any hb2 hn).mono ?_
      rintro e w5 ⟨rfl, rfl⟩
      go_wp2_with fail
      go_roundw
      case rel =>
        have z4 := hb4.size
        have z1 := hb1.size
        simp only [World.heap_drewN] at z4
        refine ⟨k + 1, by omega, by go_num, by omega, (bdrewN hb _).trans (hb4.mono (by simp; omega)), fun j hj => ?_⟩
        have h := hb4.cell (p := ⟨w1.heap.size, j, none⟩) (by simp; omega)
        rw [h, World.cell?_drewN]
        exact hc.out j hj
      case measure => simp [intOf]; omega
    · obtain rfl : k = 6 := by omega
      go_wp2_with fail
      go_ret
      exact ⟨rfl, hb⟩

set_option maxRecDepth 100000 in
theorem gpows_lifted (os : Os) (started : os.Started) (H : Type) (enc : TypeId × Value → H) :
    ReturnsInHanded {} Try.checked os 4 .any (Rows.groupPowsSpec.pre6 enc Try.prog Try.f4 Rows.groupPowsRow.domain false) (Rows.groupPowsSpec.post enc Try.prog Try.f4 false true false false) := by
  refine returnsInHanded_of_change (C := Try.checked) own started (by kernel_rfl) Try.func4
    (ChangeSpec.witness6 (enc := enc) (C := Try.checked) false ⟨#[], #[.int .i64 0, .int .i64 0, .int .i64 0], []⟩ 8 (by kernel_rfl) (by kernel_rfl) (by kernel_rfl) (by kernel_rfl)) ?_
  intro W base args ds gs before hval0 hW hcnd _
  have hval : ∀ (j : Nat) t v, Try.f4.params[j]? = some t → args[j]? = some v → Value.okWide Try.prog W .any base t v := hval0
  obtain ⟨p, q, hA0, hV, -, -, -⟩ := id hW
  have hA : DataW.TrodAll enc Try.prog W 0 (fun _ => true) true Try.f4.params.toList args.toList ds p := hA0
  rw [Try.params4] at hA hval
  obtain ⟨v0, vs0, d0, ds0, p0, q0, hargs, rfl, rfl, h0, r0⟩ := trodAll_cons hA
  obtain ⟨v1, vs1, d1, ds1, p1, q1, rfl, rfl, rfl, h1, r1⟩ := trodAll_cons r0
  obtain ⟨v2, vs2, d2, ds2, p2, q2, rfl, rfl, rfl, h2, r2⟩ := trodAll_cons r1
  obtain ⟨rfl, rfl, rfl⟩ := trodAll_nil r2
  obtain rfl : args = #[v0, v1, v2] := by cases args; simp_all
  obtain ⟨rfl, -⟩ := trodVars_none hV
  obtain ⟨a0, rfl, wl0, wh0⟩ := open_i64 Try.underlying3 (hval 0 3 v0 rfl rfl)
  obtain ⟨a1, rfl, wl1, wh1⟩ := open_i64 Try.underlying3 (hval 1 3 v1 rfl rfl)
  obtain ⟨a2, rfl, wl2, wh2⟩ := open_i64 Try.underlying3 (hval 2 3 v2 rfl rfl)
  refine (gpows_walk _ wl0 wh0 _ wl1 wh1 _ wl2 wh2 W).mono fun e W' ⟨he, hg⟩ => ?_
  subst he
  exact ⟨_, rfl, law_post (tb := 4) laidOut (by decide +kernel) rfl Try.underlying4 rfl hW rfl hg⟩

theorem gpows_proved : Rows.GroupPowsSaid :=
  OpenClaim.holds_of_wide 4 Try.f4 rfl rfl rfl rfl rfl rfl rfl ⟨rfl, rfl, rfl, rfl, rfl⟩ rfl rfl rfl rfl rfl (by kernel_rfl) Try.func4 (by kernel_rfl)
    (of_decide_eq_true (by kernel_rfl)) (by unfold Func.isWrapper; first | (rw [if_pos (by decide +kernel)]; kernel_rfl) | (rw [if_neg (by decide +kernel)]; exact ⟨rfl, rfl⟩))
    (fun os started H enc _ => gpows_lifted os started H enc)
#print axioms gpows_proved
end Go.Proofs.Ytiljlopgjlgfoaa
