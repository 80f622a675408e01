/- DigestChains returns true for every string and every number, and its arguments read behind the call as before. No condition. -/
import Derived.Test.YtaphhcalpgibaaaRow
namespace Go.Proofs.Ytaphhcalpgibaaa
open Go.ChangeShapes Go.WideShapes Go.ChangeAt Go.RowKit

theorem chains_walk (l : List UInt8) (many : Int) (_h0 : -9223372036854775808 ≤ many) (_h1 : many ≤ 9223372036854775807) (w : World) :
    Calls Try.prog 5 #[.string (bs l), .int .i64 many] w fun e w' => e = .returned (.bool true) ∧ Below w.heap.size w w' := by
  go_enter Try.func5, Try.ntmps5
  go_wp2_with (go_at_call 11; refine sanity_any.mono ?_; rintro e w1 ⟨rfl, hb1⟩)
  obtain ⟨x, hx⟩ : ∃ x, List.take (min (l.length : Int) 100).toNat l = x := ⟨_, rfl⟩
  have hxl : x.length ≤ 100 := by rw [← hx, List.length_take]; omega
  rw [hx]
  clear hx
  have hm0 : 0 ≤ many % 20 := Int.emod_nonneg _ (by decide)
  have hm1 : many % 20 < 20 := Int.emod_lt_of_pos _ (by decide)
  go_loopw [6, 7, 8] (fun u v i wr => ∃ (k : Nat) (y : List UInt8), (k : Int) ≤ many % 20 ∧ y.length ≤ 100 ∧ u = .string (bs y) ∧ v = .string (bs y) ∧ i = .int .i64 k ∧ Below w.heap.size w wr) (fun _ _ i _ => (many % 20).toNat - (intOf i).toNat)
  case atStart => exact ⟨0, x, hm0, hxl, rfl, rfl, rfl, hb1⟩
  case round =>
    clear hxl hb1
    obtain ⟨k, y, hk, hyl, rfl, rfl, rfl, hb⟩ := hrel
    by_cases hlt : (k : Int) < many % 20
    · go_wp2_with (go_at_call 15; refine (mod_any (n := many) (m := 20) (by decide) (by decide)).mono ?_; rintro e w2 ⟨rfl, rfl⟩)
      refine (sumL (by omega)).mono ?_
      rintro e w3 ⟨rfl, hb3⟩
      go_wp2_with fail
      refine textL.mono ?_
      rintro e w4 ⟨rfl, hb4⟩
      go_wp2_with fail
      refine (refsumL (by omega)).mono ?_
      rintro e w5 ⟨rfl, hb5⟩
      go_wp2_with fail
      refine reftextL.mono ?_
      rintro e w6 ⟨rfl, hb6⟩
      go_wp2
      have z := hb.size; have z3 := hb3.size; have z4 := hb4.size; have z5 := hb5.size
      go_roundw
      case rel => exact ⟨k + 1, hx (sb y), by omega, by rw [hx_length]; omega, rfl, rfl, by go_num, (((hb.trans (hb3.mono (by omega))).trans (hb4.mono (by omega))).trans (hb5.mono (by omega))).trans (hb6.mono (by omega))⟩
      case measure => simp [intOf]; omega
    · have hge : many % 20 ≤ k := by omega
      go_wp2_with (go_at_call 15; refine (mod_any (n := many) (m := 20) (by decide) (by decide)).mono ?_; rintro e w2 ⟨rfl, rfl⟩)
      go_ret
      exact ⟨rfl, hb⟩
set_option maxRecDepth 100000 in
theorem chains_lifted (os : Os) (started : os.Started) (H : Type) (enc : TypeId × Value → H) :
    ReturnsInHanded {} Try.checked os 5 .any (Rows.digestChainsSpec.pre6 enc Try.prog Try.f5 Rows.digestChainsRow.domain false) (Rows.digestChainsSpec.post enc Try.prog Try.f5 false true false false) := by
  refine returnsInHanded_of_change (C := Try.checked) own started (by kernel_rfl) Try.func5
    (ChangeSpec.witness6 (enc := enc) (C := Try.checked) false ⟨#[], #[.string ByteArray.empty, .int .i64 0], []⟩ 8 (by kernel_rfl) (by kernel_rfl) (by kernel_rfl) (by kernel_rfl)) ?_
  intro W base args ds gs before hval0 hW hcnd _
  have hval : ∀ (j : Nat) t v, Try.f5.params[j]? = some t → args[j]? = some v → Value.okWide Try.prog W .any base t v := hval0
  obtain ⟨p, q, hA0, hV, -, -, -⟩ := id hW
  have hA : DataW.TrodAll enc Try.prog W 0 (fun _ => true) true Try.f5.params.toList args.toList ds p := hA0
  rw [Try.params5] at hA hval
  obtain ⟨v0, vs0, d0, ds0, p0, q0, hargs, rfl, rfl, h0, r0⟩ := trodAll_cons hA
  obtain ⟨v1, vs1, d1, ds1, p1, q1, rfl, rfl, rfl, h1, r1⟩ := trodAll_cons r0
  obtain ⟨rfl, rfl, rfl⟩ := trodAll_nil r1
  obtain rfl : args = #[v0, v1] := by cases args; simp_all
  obtain ⟨rfl, -⟩ := trodVars_none hV
  obtain ⟨a0, rfl⟩ := okWide_string Try.underlying9 (hval 0 9 v0 rfl rfl)
  obtain ⟨a1, rfl, wl1, wh1⟩ := open_i64 Try.underlying3 (hval 1 3 v1 rfl rfl)
  rw [bs_of a0]
  refine (chains_walk _ _ wl1 wh1 W).mono fun e W' ⟨he, hg⟩ => ?_
  subst he
  rw [← bs_of a0]
  exact ⟨_, rfl, law_post (tb := 4) laidOut (by decide +kernel) rfl Try.underlying4 rfl hW rfl hg⟩

theorem chains_proved : Rows.DigestChainsSaid :=
  OpenClaim.holds_of_wide 5 Try.f5 rfl rfl rfl rfl rfl rfl rfl ⟨rfl, rfl, rfl, rfl, rfl⟩ rfl rfl rfl rfl rfl (by kernel_rfl) Try.func5 (by kernel_rfl)
    (of_decide_eq_true (by kernel_rfl)) (by unfold Func.isWrapper; first | (rw [if_pos (by decide +kernel)]; kernel_rfl) | (rw [if_neg (by decide +kernel)]; exact ⟨rfl, rfl⟩))
    (fun os started H enc _ => chains_lifted os started H enc)
#print axioms chains_proved
end Go.Proofs.Ytaphhcalpgibaaa
