/- DigestBits returns true for every string and every number, and its arguments read behind the call as before. No condition. -/
import Derived.Test.YtaphhcalpgibaaaExt
import Derived.StillTailTactics
namespace Go.Proofs.Ytaphhcalpgibaaa
open Go.ChangeShapes Go.WideShapes Go.ChangeAt Go.RowKit Go.BigFrame

theorem Own.setAt {w : World} {base g n c : Nat} {e : TypeId} {xs : List Value} (h : Own w base e (.slice (some ⟨g, 0, none⟩) n c) xs) (j : Nat) (u : Value) : Own (w.setCell ⟨g, j, none⟩ u) base e (.slice (some ⟨g, 0, none⟩) n c) (xs.set j u) := by
  rcases h with ⟨h, _⟩ | ⟨g', cap, cur, fr, h0, h1, h2, h3, h4, h5, h6, h7⟩
  · cases h
  · simp only [Value.slice.injEq, Option.some.injEq, Addr.mk.injEq, and_true] at h0
    obtain ⟨rfl, rfl, rfl⟩ := h0
    refine .inr ⟨g, c, cur.setIfInBounds j u, fr, by simp, h1, ?_, by simpa using h3, h4, by simpa using h5, ?_, h7⟩
    · simp only [World.setCell, Array.getElem?_modify, h2]
      simp
    · rw [Array.toList_setIfInBounds, List.length_set, List.take_set, h6]
theorem BV_set (l : List UInt8) (j : Nat) (b : UInt8) : (BV l).set j (.int .u8 (ub b)) = BV (l.set j b) := by simp [BV, List.map_set]
def byteOf (n : Int) : UInt8 := UInt8.ofNat (n % 256).toNat
theorem wrap_u8_any (n : Int) : IntKind.u8.wrap n = ub (byteOf n) := by
  simp [IntKind.wrap, IntKind.bits, IntKind.signed, ub, byteOf]
  omega
theorem bits_u8_any (op : BinOp) (x y : Int) : ∃ c : UInt8, bits op .u8 x y = ub c := by
  unfold bits
  split <;> exact ⟨_, wrap_u8_any _⟩

set_option maxHeartbeats 1000000 in
theorem bits_walk (l : List UInt8) (bit : Int) (_h0 : -9223372036854775808 ≤ bit) (_h1 : bit ≤ 9223372036854775807) (w : World) :
    Calls Try.prog 7 #[.string (bs l), .int .i64 bit] w fun e w' => e = .returned (.bool true) ∧ Below w.heap.size w w' := by
  have HM := Lib.hid (show (bs (List.take (min (l.length : Int) 200).toNat l ++ [101, 110, 100])).size ≤ maxLen from by rw [bs_size, List.length_append, List.length_take]; unfold maxLen; simp only [List.length_cons, List.length_nil]; omega)
  go_enter Try.func7, Try.ntmps7
  go_wp2_with (first | (refine wpList_conv_bytes rfl (.tmp 15) 9 33 5 rfl (bs (List.take (min (l.length : Int) 200).toNat l ++ [101, 110, 100])) rfl Try.underlying9 Try.underlying33 Try.underlying5 HM.out ?_; intro v2 w2 hv2 hown2 hb2 hsz2; refine unheld ?_) | (go_at_call 11; refine sanity_any.mono ?_; rintro e w1 ⟨rfl, hb1⟩))
  refine Held.of ?_
  obtain ⟨y, hy⟩ : ∃ y, List.take (min (l.length : Int) 200).toNat l ++ [101, 110, 100] = y := ⟨_, rfl⟩
  have hyl : 3 ≤ y.length ∧ y.length ≤ 203 := by rw [← hy, List.length_append, List.length_take]; simp only [List.length_cons, List.length_nil]; omega
  rw [hy] at hv2 hown2 ⊢
  clear hy HM
  obtain ⟨c2, rfl⟩ := hv2
  rw [bs_data] at hown2
  rw [bs_size] at hown2 ⊢
  have hz1 := hb1.size
  have hm0 : 0 ≤ bit % (8 * (y.length : Int)) := Int.emod_nonneg _ (by omega)
  have hm1 : bit % (8 * (y.length : Int)) < 8 * (y.length : Int) := Int.emod_lt_of_pos _ (by omega)
  obtain ⟨k, hk⟩ : ∃ k : Nat, bit % (8 * (y.length : Int)) = k := ⟨_, (Int.toNat_of_nonneg hm0).symm⟩
  have e0 : wrap64 (8 * (y.length : Int)) = 8 * (y.length : Int) := by unfold wrap64; omega
  go_wp2_with (go_at_call 15; refine (mod_any (n := bit) (m := 8 * (y.length : Int)) (by omega) (by omega)).mono ?_; rintro e w3 ⟨rfl, rfl⟩)
  rw [hk] at hm0 hm1
  clear hk e0
  obtain ⟨g, cap, hg, -, hg1, hcap, hcm, hcell, hfz⟩ := hown2.form (by rw [BV_length]; omega)
  rw [BV_length] at hcap
  obtain rfl : w1.heap.size = g := by simpa using congrArg (fun v => match v with | Value.slice (some p) _ _ => p.block | _ => 0) hg
  clear hg
  have hkn : k / 8 < y.length := by omega
  have c0 : w3.cell? ⟨w1.heap.size, k / 8, none⟩ = some (.int .u8 (ub (y.getD (k / 8) 0))) := hcell _ _ (BV_get y _ hkn)
  have f0 : w3.frozen? ⟨w1.heap.size, k / 8, none⟩ = false := hfz _ (by omega)
  have p0 : 0 ≤ (k : Int) / 8 ∧ (k : Int) / 8 < (y.length : Int) := by omega
  have t0 : ((k : Int) / 8).toNat = k / 8 := by omega
  have r0 : 0 ≤ (k : Int) % 8 := by omega
  have e1 : IntKind.i64.wrap ((k : Int) / 8) = (k : Int) / 8 := IntWalk.i64_in _ (by omega)
  have e2 : IntKind.i64.wrap ((k : Int) % 8) = (k : Int) % 8 := IntWalk.i64_in _ (by omega)
  have e3 : (k : Int).tmod 8 = (k : Int) % 8 := Int.tmod_eq_emod_of_nonneg (by omega)
  clear hcell hfz
  go_still_tail 13, (by kernel_rfl)
  obtain ⟨c, hc⟩ := bits_u8_any .xor (ub (y[k / 8]'hkn)) (IntKind.u8.wrap (2 ^ ((k : Int) % 8).toNat))
  rw [hc]
  change wpList _ _ _ _ _ w3.drew
  have hb3 : Below w.heap.size w (w3.drew.setCell ⟨w1.heap.size, k / 8, none⟩ (.int .u8 (ub c))) := ((hb1.trans (hb2.mono (by omega))).drew).setCell (by simpa using hz1) _
  have hown3 := (hown2.drew).setAt (k / 8) (.int .u8 (ub c))
  rw [BV_set] at hown3
  have c0' : w3.drew.cell? ⟨w1.heap.size, k / 8, none⟩ = some (.int .u8 (ub (y.getD (k / 8) 0))) := c0
  have f0' : w3.drew.frozen? ⟨w1.heap.size, k / 8, none⟩ = false := f0
  have hl3 : (y.set (k / 8) c).length = y.length := List.length_set
  clear hown2 hb2 hc c0 f0 p0 t0 r0 e1 e2 e3
  have hz3 : w3.drew.heap.size = w1.heap.size + 1 := hsz2
  clear hsz2
  generalize w3.drew = w4 at *
  go_wp2_with fail
  have hz4 : (w4.setCell ⟨w1.heap.size, k / 8, none⟩ (.int .u8 (ub c))).heap.size = w1.heap.size + 1 := by simpa [World.setCell] using hz3
  clear c0' f0' hz3
  generalize w4.setCell ⟨w1.heap.size, k / 8, none⟩ (.int .u8 (ub c)) = w5 at *
  generalize y.set (k / 8) c = z at *
  have hv : ∀ W : World, Below w5.heap.size w5 W → (convert 33 9 (.slice (some ⟨w1.heap.size, 0, none⟩) y.length c2)).run Try.prog W = .ok (.string (bs z)) W := fun W hW =>
    run_conv_own _ _ 5 Try.underlying33 Try.underlying5 Try.underlying9 (hown3.below hW)
  rw [hv w5 (Below.refl _ _)]
  go_wp2_with (first | (refine wpList_alloc_is rfl 24 rfl 32 (.int .u8 0) (by kernel_rfl) ?_) | (refine wpList_store_is rfl 24 (.tmp 8) (.tmp 37) rfl w6.heap.size 32 (U8 (sb z)) (fun _ => .int .u8 0) rfl rfl 24 (Row.newArr w6 _ 32 _) (by kernel_rfl) (fun _ _ => rfl) ?_) | (go_at_call 12; refine (sumL (by omega)).mono ?_; rintro e w6 ⟨rfl, hb6⟩))
  have hb7 : Below w5.heap.size w5 ((w6.alloc (.cells (arr 32 fun _ => .int .u8 0) 24)).setRow w6.heap.size (arr 32 (U8 (sb z)))) := Below.setRow (hb6.alloc hb6.size _) hb6.size _
  have hr7 : Row ((w6.alloc (.cells (arr 32 fun _ => .int .u8 0) 24)).setRow w6.heap.size (arr 32 (U8 (sb z)))) w6.heap.size 24 32 (U8 (sb z)) := Row.setRow (Row.newArr w6 _ 32 (fun _ => .int .u8 0)) _
  have hz5 := hb3.size
  have hb8 := hb3.trans (hb7.mono hz5)
  clear hb6
  generalize w6.heap.size = b at *
  generalize (w6.alloc (.cells (arr 32 fun _ => .int .u8 0) 24)).setRow b (arr 32 (U8 (sb z))) = w7 at *
  have hv8 : ∀ e : Ext w7, (convert 33 9 (.slice (some ⟨w1.heap.size, 0, none⟩) y.length c2)).run Try.prog e.at = .ok (.string (bs z)) e.at := fun e => hv _ (hb7.trans (e.below.mono hb7.size))
  clear hv hown3 hb7
  simp only [Act.put, Array.setIfInBounds, List.size_toArray, List.length_cons, List.length_nil, Nat.reduceAdd, Nat.reduceLT, dite_true, List.set_toArray, List.set_cons_succ, List.set_cons_zero]
  refine wp_region_ext (by kernel_rfl) (by kernel_rfl) ?_
  repeat (first | go_big_quiet_step ((go_at_call 13; exact ext_call (refsumL (by omega)))) | (go_big_quiet_want; refine quiet_load_is 24 (.tmp 8) rfl b rfl 24 32 (U8 (sb z)) hr7 Try.underlying24 (by kernel_rfl) ?_; go_simp; go_big_quiet_on))
  refine wpQuiet_nil ?_
  rintro _ ⟨e, rfl⟩
  go_wp2
  go_ret
  exact ⟨rfl, hb8.trans (e.below.mono hb8.size)⟩
set_option maxRecDepth 100000 in
theorem bits_lifted (os : Os) (started : os.Started) (H : Type) (enc : TypeId × Value → H) :
    ReturnsInHanded {} Try.checked os 7 .any (Rows.digestBitsSpec.pre6 enc Try.prog Try.f7 Rows.digestBitsRow.domain false) (Rows.digestBitsSpec.post enc Try.prog Try.f7 false true false false) := by
  refine returnsInHanded_of_change (C := Try.checked) own started (by kernel_rfl) Try.func7
    (ChangeSpec.witness6 (enc := enc) (C := Try.checked) false ⟨#[], #[.string ByteArray.empty, .int .i64 0], []⟩ 8 (by kernel_rfl) (by kernel_rfl) (by kernel_rfl) (by kernel_rfl)) ?_
  intro W base args ds gs before hval0 hW hcnd _
  have hval : ∀ (j : Nat) t v, Try.f7.params[j]? = some t → args[j]? = some v → Value.okWide Try.prog W .any base t v := hval0
  obtain ⟨p, q, hA0, hV, -, -, -⟩ := id hW
  have hA : DataW.TrodAll enc Try.prog W 0 (fun _ => true) true Try.f7.params.toList args.toList ds p := hA0
  rw [Try.params7] at hA hval
  obtain ⟨v0, vs0, d0, ds0, p0, q0, hargs, rfl, rfl, h0, r0⟩ := trodAll_cons hA
  obtain ⟨v1, vs1, d1, ds1, p1, q1, rfl, rfl, rfl, h1, r1⟩ := trodAll_cons r0
  obtain ⟨rfl, rfl, rfl⟩ := trodAll_nil r1
  obtain rfl : args = #[v0, v1] := by cases args; simp_all
  obtain ⟨rfl, -⟩ := trodVars_none hV
  obtain ⟨a0, rfl⟩ := okWide_string Try.underlying9 (hval 0 9 v0 rfl rfl)
  obtain ⟨a1, rfl, wl1, wh1⟩ := open_i64 Try.underlying3 (hval 1 3 v1 rfl rfl)
  rw [bs_of a0]
  refine (bits_walk _ _ wl1 wh1 W).mono fun e W' ⟨he, hg⟩ => ?_
  subst he
  rw [← bs_of a0]
  exact ⟨_, rfl, law_post (tb := 4) laidOut (by decide +kernel) rfl Try.underlying4 rfl hW rfl hg⟩

theorem bits_proved : Rows.DigestBitsSaid :=
  OpenClaim.holds_of_wide 7 Try.f7 rfl rfl rfl rfl rfl rfl rfl ⟨rfl, rfl, rfl, rfl, rfl⟩ rfl rfl rfl rfl rfl (by kernel_rfl) Try.func7 (by kernel_rfl)
    (of_decide_eq_true (by kernel_rfl)) (by unfold Func.isWrapper; first | (rw [if_pos (by decide +kernel)]; kernel_rfl) | (rw [if_neg (by decide +kernel)]; exact ⟨rfl, rfl⟩))
    (fun os started H enc _ => bits_lifted os started H enc)
#print axioms bits_proved
end Go.Proofs.Ytaphhcalpgibaaa
