/- TreeGrows returns true for all numbers, and its arguments read behind the call as before. No condition. -/
import Derived.Test.YtijhdfllffkfjaaTrX
namespace Go.Proofs.Ytijhdfllffkfjaa
open Go.ChangeShapes Go.WideShapes Go.ChangeAt Go.RowKit
attribute [local go_sem] bareOp

set_option maxHeartbeats 4000000 in
set_option maxRecDepth 100000 in
theorem grows_walk {v : Value} {l : List UInt8} {w : World} (hv0 : BSlice w v l) (n : Int) (_h0 : -9223372036854775808 ≤ n) (_h1 : n ≤ 9223372036854775807) :
    Calls Try.prog 8 #[v, .int .i64 n] w (Said true w) := by
  obtain ⟨L, hLe⟩ : ∃ L, strS l = L := ⟨_, rfl⟩
  have hL20 : L.length ≤ 20 := by rw [← hLe, strS_length]; omega
  have hf : Fits L := by rw [← hLe]; exact strS_fits l
  have HV := Lib.hid hv0
  have HLE := Lib.hid hLe
  clear hv0 hLe
  have P1 : Hid (∀ W v, SSlice W v L → Calls Try.prog 34 #[v, .int .i64 n] W (ListB W (growL L n) (growO L n))) := fun W v hs => growth_list hf hs
  have P2 : Hid (∀ W v, SSlice W v L → Calls Try.prog 31 #[v, .int .i64 n] W (ListB W (growL L n) (growO L n))) := fun W v hs => refgrowth_list hf (by omega) hs
  generalize growL L n = H at *
  generalize growO L n = bq at *
  go_enter Try.func8, Try.ntmps8
  go_wp2_with fail
  refine sanity_any.mono ?_
  rintro e w1 ⟨rfl, hb1⟩
  go_wp2_with fail
  refine (strings_any (HV.out.below hb1)).mono ?_
  rintro e w2 ⟨s, rfl, hs, hb2⟩
  rw [HLE.out] at hs
  have hB2 := hb1.trans (hb2.mono hb1.size)
  have hs2 := hs.slice
  clear hs hb1 hb2
  go_wp2_with fail
  refine (P1.out _ _ hs2).mono ?_
  rintro e w3 ⟨u, rfl, hu, hb3⟩
  have hs3 := hs2.below hb3
  have hB3 := hB2.trans (hb3.mono hB2.size)
  go_wp2_with fail
  refine (P2.out _ _ hs3).mono ?_
  rintro e w4 ⟨q, rfl, hq, hb4⟩
  have hs4 := hs3.below hb4
  have hu4 := hu.below hb4
  have hB4 := hB3.trans (hb4.mono hB3.size)
  clear hs2 hs3 hu hb3 hb4 hB2 hB3 P1 P2
  obtain ⟨a, cap, hse, c1, c2, -⟩ := sslice_form hs4
  have HS := Lib.hid hs4
  rw [hse] at HS ⊢
  obtain ⟨len, hlen⟩ : ∃ len, L.length = len := ⟨_, rfl⟩
  rw [hlen] at hse c1 hL20 HS ⊢
  have HN := Lib.hid hlen
  have HU := Lib.hid hu4
  have HQ := Lib.hid hq
  clear hse hs4 hlen hu4 hq
  go_wp2_with fail
  refine (same_self HU.out HQ.out).mono ?_
  rintro e w5 ⟨rfl, hb5⟩
  go_wp2_with fail
  go_loopw [11] (fun i wr => ∃ k : Nat, k ≤ len + 1 ∧ i = .int .i64 k ∧ Below w4.heap.size w4 wr) (fun i _ => len + 1 - (intOf i).toNat)
  case atStart => exact ⟨0, by omega, rfl, hb5⟩
  case round =>
    obtain ⟨k, hk, rfl, hB⟩ := hrel
    by_cases hlt : k ≤ len
    · have hsr := HS.out.below hB
      have hkc : (k : Int) ≤ (cap : Int) := by omega
      have hk0 : (0 : Int) ≤ (k : Int) := by omega
      go_wp2_with fail
      have hp := growth_list (n := (k : Int)) hf hsr
      rw [growL_nat (by rw [HN.out]; omega), growO_nat (by rw [HN.out]; omega)] at hp
      refine hp.mono ?_
      rintro e w6 ⟨p, rfl, hpo, hb6⟩
      have hs6 := hsr.below hb6
      have hB6 := hB.trans (hb6.mono hB.size)
      have HP := Lib.hid hpo
      clear hp hpo
      go_wp2_with fail
      refine (headof_any (sslice_cut hs6 HN.out k hlt) (hf.take k)).mono ?_
      rintro e w7 ⟨rfl, hb7⟩
      rw [show (L.take k).length = k by rw [List.length_take, HN.out]; omega]
      have hs7 := hs6.below hb7
      have hB7 := hB6.trans (hb7.mono hB6.size)
      go_wp2_with fail
      refine (headof_any hs7 hf).mono ?_
      rintro e w8 ⟨rfl, hb8⟩
      have hB8 := hB7.trans (hb8.mono hB7.size)
      have G := Lib.hid (grows_true (L := L) (k := k) (by rw [HN.out]; exact hlt) (by rw [HN.out]; omega) ((HP.out.below hb7).below hb8))
      clear hs6 hs7 hsr
      go_wp2_with fail
      refine G.out.mono ?_
      rintro e w9 ⟨rfl, hb9⟩
      have hB9 := hB8.trans (hb9.mono hB8.size)
      go_wp2_with fail
      go_roundw
      case rel => exact ⟨k + 1, by omega, by go_num, hB9⟩
      case measure => simp [intOf]; omega
    · have t1 : decide (k ≤ len) = false := decide_eq_false hlt
      have t2 : decide ((k : Int) ≤ (len : Int)) = false := decide_eq_false (by omega)
      go_wp2_with fail
      go_ret
      exact ⟨rfl, hB4.trans (hB.mono hB4.size)⟩

set_option maxRecDepth 100000 in
theorem grows_lifted (os : Os) (started : os.Started) (H : Type) (enc : TypeId × Value → H) :
    ReturnsInHanded {} Try.checked os 8 .any (Rows.treeGrowsSpec.pre6 enc Try.prog Try.f8 Rows.treeGrowsRow.domain false) (Rows.treeGrowsSpec.post enc Try.prog Try.f8 false true false false) := by
  refine returnsInHanded_of_change (C := Try.checked) own started (by kernel_rfl) Try.func8
    (ChangeSpec.witness6 (enc := enc) (C := Try.checked) false ⟨#[], #[.slice none 0 0, .int .i64 0], []⟩ 8 (by kernel_rfl) (by kernel_rfl) (by kernel_rfl) (by kernel_rfl)) ?_
  intro W base args ds gs before hval0 hW hcnd _
  have hval : ∀ (j : Nat) t v, Try.f8.params[j]? = some t → args[j]? = some v → Value.okWide Try.prog W .any base t v := hval0
  obtain ⟨p, q, hA0, hV, -, -, -⟩ := id hW
  have hA : DataW.TrodAll enc Try.prog W 0 (fun _ => true) true Try.f8.params.toList args.toList ds p := hA0
  rw [Try.params8] at hA hval
  obtain ⟨v0, vs0, d0, ds0, p0, q0, hargs, rfl, rfl, h0, r0⟩ := trodAll_cons hA
  obtain ⟨v1, vs1, d1, ds1, p1, q1, rfl, rfl, rfl, h1, r1⟩ := trodAll_cons r0
  obtain ⟨rfl, rfl, rfl⟩ := trodAll_nil r1
  obtain rfl : args = #[v0, v1] := by cases args; simp_all
  obtain ⟨rfl, -⟩ := trodVars_none hV
  obtain ⟨a0, hs0⟩ := open_bslice Try.underlying30 Try.underlying5 (by kernel_rfl) (hval 0 30 v0 rfl rfl) h0
  obtain ⟨a1, rfl, wl1, wh1⟩ := open_i64 Try.underlying3 (hval 1 3 v1 rfl rfl)
  refine (grows_walk hs0 _ wl1 wh1).mono fun e W' ⟨he, hg⟩ => ?_
  subst he
  exact ⟨_, rfl, law_post (tb := 4) laidOut (by decide +kernel) rfl Try.underlying4 rfl hW rfl hg⟩

theorem grows_proved : Rows.TreeGrowsSaid :=
  OpenClaim.holds_of_wide 8 Try.f8 rfl rfl rfl rfl rfl rfl rfl ⟨rfl, rfl, rfl, rfl, rfl⟩ rfl rfl rfl rfl rfl (by kernel_rfl) Try.func8 (by kernel_rfl)
    (of_decide_eq_true (by kernel_rfl)) (by unfold Func.isWrapper; first | (rw [if_pos (by decide +kernel)]; kernel_rfl) | (rw [if_neg (by decide +kernel)]; exact ⟨rfl, rfl⟩))
    (fun os started H enc _ => grows_lifted os started H enc)
#print axioms grows_proved
end Go.Proofs.Ytijhdfllffkfjaa
