/- Paths that are checked: the reference's. -/
import Derived.Test.YtijhdfllffkfjaaTrE
namespace Go.Proofs.Ytijhdfllffkfjaa
open Go.RowKit

set_option maxHeartbeats 1000000 in
theorem depth_1 {i : Int} {n : Int} {w : World} (h : n ≤ 1) : Calls Try.prog 44 #[.int .i64 i, .int .i64 n] w fun e w' => e = .returned (.int .i64 0) ∧ w' = w := by
  go_enter Try.func44, Try.ntmps44
  go_wp2_with fail
  go_ret
  exact ⟨rfl, rfl⟩
set_option maxHeartbeats 1000000 in
theorem depth_lo {i n k d : Nat} {w : World} (h2 : 2 ≤ n) (hm : n ≤ 9223372036854775807) (hk : halfN n = k) (hi : i < k) (hd : d ≤ 63)
    (h1 : Calls Try.prog 44 #[.int .i64 (i : Int), .int .i64 (k : Int)] w fun e w' => e = .returned (.int .i64 (d : Int)) ∧ w' = w) :
    Calls Try.prog 44 #[.int .i64 (i : Int), .int .i64 (n : Int)] w fun e w' => e = .returned (.int .i64 ((d + 1 : Nat) : Int)) ∧ w' = w := by
  obtain ⟨k1, k2, k3⟩ := halfN_lt h2
  rw [hk] at k1 k2 k3
  have HK := Lib.hid hk
  have H1 := Lib.hid h1
  clear hk h1
  have n0 : decide ((n : Int) ≤ 1) = false := decide_eq_false (by omega)
  have n1 : decide (n ≤ 1) = false := decide_eq_false (by omega)
  go_enter Try.func44, Try.ntmps44
  go_wp2_with fail
  refine (refhalf_any h2 hm).mono ?_
  rintro e w1 ⟨rfl, hw⟩
  obtain rfl := hw.symm
  rw [HK.out]
  go_wp2_with fail
  refine H1.out.mono ?_
  rintro e w1 ⟨rfl, hw⟩
  obtain rfl := hw.symm
  go_wp2_with fail
  go_ret
  exact ⟨by rw [show ((d + 1 : Nat) : Int) = 1 + (d : Int) by omega]; rfl, rfl⟩
set_option maxHeartbeats 1000000 in
theorem depth_hi {i n k d : Nat} {w : World} (h2 : 2 ≤ n) (hm : n ≤ 9223372036854775807) (hk : halfN n = k) (hi : k ≤ i) (him : i ≤ 9223372036854775807) (hd : d ≤ 63)
    (h1 : Calls Try.prog 44 #[.int .i64 ((i : Int) - (k : Int)), .int .i64 ((n : Int) - (k : Int))] w fun e w' => e = .returned (.int .i64 (d : Int)) ∧ w' = w) :
    Calls Try.prog 44 #[.int .i64 (i : Int), .int .i64 (n : Int)] w fun e w' => e = .returned (.int .i64 ((d + 1 : Nat) : Int)) ∧ w' = w := by
  obtain ⟨k1, k2, k3⟩ := halfN_lt h2
  rw [hk] at k1 k2 k3
  have HK := Lib.hid hk
  have H1 := Lib.hid h1
  clear hk h1
  have n0 : decide ((n : Int) ≤ 1) = false := decide_eq_false (by omega)
  have n1 : decide (n ≤ 1) = false := decide_eq_false (by omega)
  have n4 : decide ((i : Int) < (k : Int)) = false := decide_eq_false (by omega)
  have n5 : decide (i < k) = false := decide_eq_false (by omega)
  go_enter Try.func44, Try.ntmps44
  go_wp2_with fail
  refine (refhalf_any h2 hm).mono ?_
  rintro e w1 ⟨rfl, hw⟩
  obtain rfl := hw.symm
  rw [HK.out]
  go_wp2_with fail
  refine H1.out.mono ?_
  rintro e w1 ⟨rfl, hw⟩
  obtain rfl := hw.symm
  go_wp2_with fail
  go_ret
  exact ⟨by rw [show ((d + 1 : Nat) : Int) = 1 + (d : Int) by omega]; rfl, rfl⟩
theorem depth_any : ∀ (m i n : Nat) (_ : n ≤ m) (_ : n ≤ 9223372036854775807) (_ : i ≤ 9223372036854775807) (w : World),
    Calls Try.prog 44 #[.int .i64 (i : Int), .int .i64 (n : Int)] w fun e w' => e = .returned (.int .i64 ((wayS i n).length : Nat)) ∧ w' = w
  | m, i, n, hm, hn, hi, w => by
    by_cases h1 : n ≤ 1
    · rw [wayS_1 h1]
      exact depth_1 (by omega)
    · have h2 : 2 ≤ n := by omega
      obtain ⟨k1, k2, k3⟩ := halfN_lt h2
      obtain ⟨m', rfl⟩ : ∃ m', m = m' + 1 := ⟨m - 1, by omega⟩
      by_cases hk : i < halfN n
      · have e := wayS_lo h2 hk
        have hd := wayS_63 (i := i) (n := halfN n) (by omega)
        rw [e, List.length_append, List.length_singleton]
        exact depth_lo h2 hn rfl hk hd (depth_any m' i (halfN n) (by omega) (by omega) hi w)
      · have e := wayS_hi h2 hk
        have hd := wayS_63 (i := i - halfN n) (n := n - halfN n) (by omega)
        rw [e, List.length_append, List.length_singleton]
        have ih := depth_any m' (i - halfN n) (n - halfN n) (by omega) (by omega) (by omega) w
        rw [show ((i - halfN n : Nat) : Int) = (i : Int) - (halfN n : Nat) by omega, show ((n - halfN n : Nat) : Int) = (n : Int) - (halfN n : Nat) by omega] at ih
        exact depth_hi h2 hn rfl (by omega) hi hd ih
set_option maxHeartbeats 1000000 in
theorem up_1 {f : HF} {i n : Int} {v : Value} {w : World} (h : n ≤ 1) : Calls Try.prog 45 #[.agg (arr 32 (U8 f)), .int .i64 i, .int .i64 n, v] w fun e w' => e = .returned (.agg (arr 32 (U8 f))) ∧ Below w.heap.size w w' := by
  have h0 : Row ((w.alloc (.cells (arr 32 (U8 f)) 24)).alloc (.cells (arr 32 fun _ => .int .u8 0) 24)) w.heap.size 24 32 (U8 f) := (Row.newArr _ _ _ _).alloc _
  have h1 : Row ((w.alloc (.cells (arr 32 (U8 f)) 24)).alloc (.cells (arr 32 fun _ => .int .u8 0) 24)) (w.heap.size + 1) 24 32 (fun _ => .int .u8 0) := Row.newAt _ _ _ _ (by simp)
  have hb := ((Below.refl w.heap.size w).alloc (Nat.le_refl _) (.cells (arr 32 (U8 f)) 24)).alloc (by simp) (.cells (arr 32 fun _ => .int .u8 0) 24)
  go_enter Try.func45, Try.ntmps45
  go_wp2_with (first | (refine wpList_alloc_is rfl 24 rfl 32 (.int .u8 0) (by kernel_rfl) ?_) | (refine wpList_load_h rfl (.tmp 4) rfl w.heap.size 0 rfl _ (row_range h0) ?_) | (refine wpList_store_is rfl 24 (.tmp 8) (.tmp 14) rfl (w.heap.size + 1) 32 (U8 f) (fun _ => .int .u8 0) rfl rfl 24 h1 (by kernel_rfl) (fun _ _ => rfl) ?_))
  exact ret_row rfl (w.heap.size + 1) rfl (h1.setRow _) Try.underlying24 (by rw [size_arr]; kernel_rfl) rfl ⟨rfl, Below.setRow hb (by omega) _⟩
set_option maxHeartbeats 2000000 in
set_option maxRecDepth 100000 in
theorem up_lo {f g l : HF} {i n k q b off cap : Nat} {w : World} (h2 : 2 ≤ n) (hm : n ≤ 9223372036854775807) (hk : halfN n = k) (hi : i < k) (hcap : q + 1 ≤ cap) (hcm : cap ≤ 9223372036854775807) (hl : w.rangeAt b (off + q * 32) (hc l))
    (h1 : ∀ W, Below w.heap.size w W → Calls Try.prog 45 #[.agg (arr 32 (U8 f)), .int .i64 (i : Int), .int .i64 (k : Int), .slice (some ⟨b, off, none⟩) q cap] W fun e w' => e = .returned (.agg (arr 32 (U8 g))) ∧ Below W.heap.size W w') :
    Calls Try.prog 45 #[.agg (arr 32 (U8 f)), .int .i64 (i : Int), .int .i64 (n : Int), .slice (some ⟨b, off, none⟩) (q + 1) cap] w fun e w' => e = .returned (.agg (arr 32 (U8 (nodeS g l)))) ∧ Below w.heap.size w w' := by
  obtain ⟨k1, k2, k3⟩ := halfN_lt h2
  rw [hk] at k1 k2 k3
  have HK := Lib.hid hk
  have H1 := Lib.hid h1
  clear hk h1
  have n0 : decide ((n : Int) ≤ 1) = false := decide_eq_false (by omega)
  have n1 : decide (n ≤ 1) = false := decide_eq_false (by omega)
  have hlt := range_lt hl
  have hF : Row ((w.alloc (.cells (arr 32 (U8 f)) 24)).alloc (.cells (arr 32 fun _ => .int .u8 0) 24)) w.heap.size 24 32 (U8 f) := (Row.newArr _ _ _ _).alloc _
  have hR : Row ((w.alloc (.cells (arr 32 (U8 f)) 24)).alloc (.cells (arr 32 fun _ => .int .u8 0) 24)) (w.heap.size + 1) 24 32 (fun _ => .int .u8 0) := Row.newAt _ _ _ _ (by simp)
  have hb := ((Below.refl w.heap.size w).alloc (Nat.le_refl _) (.cells (arr 32 (U8 f)) 24)).alloc (by simp) (.cells (arr 32 fun _ => .int .u8 0) 24)
  have hz : ((w.alloc (.cells (arr 32 (U8 f)) 24)).alloc (.cells (arr 32 fun _ => .int .u8 0) 24)).heap.size = w.heap.size + 2 := by simp
  have hl2 := range_below hl hb hlt
  go_enter Try.func45, Try.ntmps45
  go_wp2_with (refine wpList_alloc_is rfl 24 rfl 32 (.int .u8 0) (by kernel_rfl) ?_)
  refine (refhalf_any h2 hm).mono ?_
  rintro e w1 ⟨rfl, rfl⟩
  rw [HK.out]
  generalize ((w.alloc (.cells (arr 32 (U8 f)) 24)).alloc (.cells (arr 32 fun _ => .int .u8 0) 24)) = w0 at *
  have hL0 : Row (w0.alloc (.cells (arr 32 fun _ => .int .u8 0) 24)) (w.heap.size + 2) 24 32 (fun _ => .int .u8 0) := Row.newAt _ _ _ _ hz.symm
  have hL := hL0.setRow (U8 l)
  have hF2 := (hF.alloc (.cells (arr 32 fun _ => .int .u8 0) 24)).farRow (y := w.heap.size + 2) (by omega) (arr 32 (U8 l))
  have hR2 := (hR.alloc (.cells (arr 32 fun _ => .int .u8 0) 24)).farRow (y := w.heap.size + 2) (by omega) (arr 32 (U8 l))
  have hb2 := Below.setRow (hb.alloc (by omega) (.cells (arr 32 fun _ => .int .u8 0) 24)) (g := w.heap.size + 2) (by omega) (arr 32 (U8 l))
  have HZ := Lib.hid hz
  clear hz
  go_wp2_with (first | (refine wpList_load_h rfl (.tmp 21) rfl b (off + q * 32) rfl _ hl2 ?_) | (refine wpList_alloc_is rfl 24 rfl 32 (.int .u8 0) (by kernel_rfl) ?_; rw [HZ.out]) | (refine wpList_store_is rfl 24 (.tmp 10) (.tmp 22) rfl (w.heap.size + 2) 32 (U8 l) (fun _ => .int .u8 0) rfl rfl 24 hL0 (by kernel_rfl) (fun _ _ => rfl) ?_))
  generalize ((w0.alloc (.cells (arr 32 fun _ => .int .u8 0) 24)).setRow (w.heap.size + 2) (arr 32 (U8 l))) = w2 at *
  have zq := hb2.size
  have G1 : Hid (∀ e : Ext w2, Calls Try.prog 45 #[.agg (arr 32 (U8 f)), .int .i64 (i : Int), .int .i64 (k : Int), .slice (some ⟨b, off, none⟩) q cap] e.at fun x w' => x = .returned (.agg (arr 32 (U8 g))) ∧ Below e.at.heap.size e.at w') := fun e => H1.out _ (hb2.trans (e.below.mono zq))
  clear H1
  refine wp_region_ext_tail 7 (by kernel_rfl) (by kernel_rfl) ?_
  simp only [List.take_succ_cons, List.take_zero, List.drop_succ_cons, List.drop_zero]
  repeat (first | go_big_quiet_step ((first | (go_at_call 45; with_reducible exact ext_call (G1.out _)) | (go_at_call 19; with_reducible exact ext_call refnode_arr))) | (go_big_quiet_want; (first | (refine quiet_load_h (.tmp 10) rfl (w.heap.size + 2) 0 rfl l (row_range hL) ?_) | (refine quiet_load_h (.tmp 4) rfl w.heap.size 0 rfl f (row_range hF2) ?_)); go_simp; go_big_quiet_on))
  refine wpQuiet_nil ?_
  rintro _ ⟨e, rfl⟩
  have hr3 := hR2.ext e
  have hb5 := hb2.trans (e.below.mono zq)
  go_wp2_with (refine wpList_store_is rfl 24 (.tmp 8) (.tmp 37) rfl (w.heap.size + 1) 32 (U8 (nodeS g l)) _ rfl rfl 24 hr3 (by kernel_rfl) (fun _ _ => rfl) ?_)
  exact ret_row rfl (w.heap.size + 1) rfl (hr3.setRow _) Try.underlying24 (by rw [size_arr]; kernel_rfl) rfl ⟨rfl, Below.setRow hb5 (by omega) _⟩
set_option maxHeartbeats 2000000 in
set_option maxRecDepth 100000 in
theorem up_hi {f g l : HF} {i n k q b off cap : Nat} {w : World} (h2 : 2 ≤ n) (hm : n ≤ 9223372036854775807) (hk : halfN n = k) (hi : k ≤ i) (him : i ≤ 9223372036854775807) (hcap : q + 1 ≤ cap) (hcm : cap ≤ 9223372036854775807) (hl : w.rangeAt b (off + q * 32) (hc l))
    (h1 : ∀ W, Below w.heap.size w W → Calls Try.prog 45 #[.agg (arr 32 (U8 f)), .int .i64 ((i : Int) - (k : Int)), .int .i64 ((n : Int) - (k : Int)), .slice (some ⟨b, off, none⟩) q cap] W fun e w' => e = .returned (.agg (arr 32 (U8 g))) ∧ Below W.heap.size W w') :
    Calls Try.prog 45 #[.agg (arr 32 (U8 f)), .int .i64 (i : Int), .int .i64 (n : Int), .slice (some ⟨b, off, none⟩) (q + 1) cap] w fun e w' => e = .returned (.agg (arr 32 (U8 (nodeS l g)))) ∧ Below w.heap.size w w' := by
  obtain ⟨k1, k2, k3⟩ := halfN_lt h2
  rw [hk] at k1 k2 k3
  have HK := Lib.hid hk
  have H1 := Lib.hid h1
  clear hk h1
  have n0 : decide ((n : Int) ≤ 1) = false := decide_eq_false (by omega)
  have n1 : decide (n ≤ 1) = false := decide_eq_false (by omega)
  have n4 : decide ((i : Int) < (k : Int)) = false := decide_eq_false (by omega)
  have n5 : decide (i < k) = false := decide_eq_false (by omega)
  have hlt := range_lt hl
  have hF : Row ((w.alloc (.cells (arr 32 (U8 f)) 24)).alloc (.cells (arr 32 fun _ => .int .u8 0) 24)) w.heap.size 24 32 (U8 f) := (Row.newArr _ _ _ _).alloc _
  have hR : Row ((w.alloc (.cells (arr 32 (U8 f)) 24)).alloc (.cells (arr 32 fun _ => .int .u8 0) 24)) (w.heap.size + 1) 24 32 (fun _ => .int .u8 0) := Row.newAt _ _ _ _ (by simp)
  have hb := ((Below.refl w.heap.size w).alloc (Nat.le_refl _) (.cells (arr 32 (U8 f)) 24)).alloc (by simp) (.cells (arr 32 fun _ => .int .u8 0) 24)
  have hz : ((w.alloc (.cells (arr 32 (U8 f)) 24)).alloc (.cells (arr 32 fun _ => .int .u8 0) 24)).heap.size = w.heap.size + 2 := by simp
  have hl2 := range_below hl hb hlt
  go_enter Try.func45, Try.ntmps45
  go_wp2_with (refine wpList_alloc_is rfl 24 rfl 32 (.int .u8 0) (by kernel_rfl) ?_)
  refine (refhalf_any h2 hm).mono ?_
  rintro e w1 ⟨rfl, rfl⟩
  rw [HK.out]
  generalize ((w.alloc (.cells (arr 32 (U8 f)) 24)).alloc (.cells (arr 32 fun _ => .int .u8 0) 24)) = w0 at *
  have hL0 : Row (w0.alloc (.cells (arr 32 fun _ => .int .u8 0) 24)) (w.heap.size + 2) 24 32 (fun _ => .int .u8 0) := Row.newAt _ _ _ _ hz.symm
  have hL := hL0.setRow (U8 l)
  have hF2 := (hF.alloc (.cells (arr 32 fun _ => .int .u8 0) 24)).farRow (y := w.heap.size + 2) (by omega) (arr 32 (U8 l))
  have hR2 := (hR.alloc (.cells (arr 32 fun _ => .int .u8 0) 24)).farRow (y := w.heap.size + 2) (by omega) (arr 32 (U8 l))
  have hb2 := Below.setRow (hb.alloc (by omega) (.cells (arr 32 fun _ => .int .u8 0) 24)) (g := w.heap.size + 2) (by omega) (arr 32 (U8 l))
  have HZ := Lib.hid hz
  clear hz
  go_wp2_with (first | (refine wpList_load_h rfl (.tmp 21) rfl b (off + q * 32) rfl _ hl2 ?_) | (refine wpList_alloc_is rfl 24 rfl 32 (.int .u8 0) (by kernel_rfl) ?_; rw [HZ.out]) | (refine wpList_store_is rfl 24 (.tmp 10) (.tmp 22) rfl (w.heap.size + 2) 32 (U8 l) (fun _ => .int .u8 0) rfl rfl 24 hL0 (by kernel_rfl) (fun _ _ => rfl) ?_))
  generalize ((w0.alloc (.cells (arr 32 fun _ => .int .u8 0) 24)).setRow (w.heap.size + 2) (arr 32 (U8 l))) = w2 at *
  have zq := hb2.size
  have G1 : Hid (∀ e : Ext w2, Calls Try.prog 45 #[.agg (arr 32 (U8 f)), .int .i64 ((i : Int) - (k : Int)), .int .i64 ((n : Int) - (k : Int)), .slice (some ⟨b, off, none⟩) q cap] e.at fun x w' => x = .returned (.agg (arr 32 (U8 g))) ∧ Below e.at.heap.size e.at w') := fun e => H1.out _ (hb2.trans (e.below.mono zq))
  clear H1
  have s1 : IntKind.i64.wrap ((i : Int) - (k : Int)) = (i : Int) - (k : Int) := by rw [IntKind.wrap_i64]; omega
  have s2 : IntKind.i64.wrap ((n : Int) - (k : Int)) = (n : Int) - (k : Int) := by rw [IntKind.wrap_i64]; omega
  refine wp_region_ext_tail 11 (by kernel_rfl) (by kernel_rfl) ?_
  simp only [List.take_succ_cons, List.take_zero, List.drop_succ_cons, List.drop_zero]
  repeat (first | go_big_quiet_step ((first | (go_at_call 45; with_reducible exact ext_call (G1.out _)) | (go_at_call 19; with_reducible exact ext_call refnode_arr))) | (go_big_quiet_want; (first | (refine quiet_load_h (.tmp 10) rfl (w.heap.size + 2) 0 rfl l (row_range hL) ?_) | (refine quiet_load_h (.tmp 4) rfl w.heap.size 0 rfl f (row_range hF2) ?_)); go_simp; go_big_quiet_on))
  refine wpQuiet_nil ?_
  rintro _ ⟨e, rfl⟩
  have hr3 := hR2.ext e
  have hb5 := hb2.trans (e.below.mono zq)
  go_wp2_with (refine wpList_store_is rfl 24 (.tmp 8) (.tmp 48) rfl (w.heap.size + 1) 32 (U8 (nodeS l g)) _ rfl rfl 24 hr3 (by kernel_rfl) (fun _ _ => rfl) ?_)
  exact ret_row rfl (w.heap.size + 1) rfl (hr3.setRow _) Try.underlying24 (by rw [size_arr]; kernel_rfl) rfl ⟨rfl, Below.setRow hb5 (by omega) _⟩
theorem up_row : ∀ (m : Nat) (f : HF) (i n : Nat) (H : List HF) (_ : n ≤ m) (_ : n ≤ 9223372036854775807) (_ : i ≤ 9223372036854775807) (_ : H.length = (wayS i n).length) (w : World) (b off cap : Nat) (_ : HR w b off H) (_ : H.length ≤ cap) (_ : cap ≤ 9223372036854775807),
    Calls Try.prog 45 #[.agg (arr 32 (U8 f)), .int .i64 (i : Int), .int .i64 (n : Int), .slice (some ⟨b, off, none⟩) H.length cap] w fun e w' => e = .returned (.agg (arr 32 (U8 (upS f i n H)))) ∧ Below w.heap.size w w'
  | m, f, i, n, H, hm, hn, hi, hl, w, b, off, cap, hr, hcap, hcm => by
    by_cases h1 : n ≤ 1
    · rw [upS_1 h1]
      exact up_1 (by omega)
    · have h2 : 2 ≤ n := by omega
      obtain ⟨k1, k2, k3⟩ := halfN_lt h2
      obtain ⟨m', rfl⟩ : ∃ m', m = m' + 1 := ⟨m - 1, by omega⟩
      have hlen : (H.take (H.length - 1)).length = H.length - 1 := by rw [List.length_take]; omega
      by_cases hk : i < halfN n
      · have e := wayS_lo h2 hk
        rw [e, List.length_append, List.length_singleton] at hl
        obtain ⟨q, hq⟩ : ∃ q, H.length = q + 1 := ⟨H.length - 1, by omega⟩
        rw [hq, Nat.add_sub_cancel] at hlen
        rw [upS_lo h2 hk, hq, Nat.add_sub_cancel]
        refine up_lo h2 hn rfl hk (by omega) hcm (hr.get q (by omega)) (fun W hW => ?_)
        have hrW := (hr.take q).below hW
        have := up_row m' f i (halfN n) (H.take q) (by omega) (by omega) hi (by rw [hlen]; omega) W b off cap hrW (by omega) hcm
        rw [hlen] at this
        exact this
      · have e := wayS_hi h2 hk
        rw [e, List.length_append, List.length_singleton] at hl
        obtain ⟨q, hq⟩ : ∃ q, H.length = q + 1 := ⟨H.length - 1, by omega⟩
        rw [hq, Nat.add_sub_cancel] at hlen
        rw [upS_hi h2 hk, hq, Nat.add_sub_cancel]
        refine up_hi h2 hn rfl (by omega) hi (by omega) hcm (hr.get q (by omega)) (fun W hW => ?_)
        have hrW := (hr.take q).below hW
        have := up_row m' f (i - halfN n) (n - halfN n) (H.take q) (by omega) (by omega) (by omega) (by rw [hlen]; omega) W b off cap hrW (by omega) hcm
        rw [hlen, show ((i - halfN n : Nat) : Int) = (i : Int) - (halfN n : Nat) by omega, show ((n - halfN n : Nat) : Int) = (n : Int) - (halfN n : Nat) by omega] at this
        exact this
theorem up_any {f : HF} {i n : Nat} {H : List HF} {v : Value} {w : World} (hn : n ≤ 9223372036854775807) (hi : i ≤ 9223372036854775807) (hl : H.length = (wayS i n).length) (hv' : HSlice w v H) :
    Calls Try.prog 45 #[.agg (arr 32 (U8 f)), .int .i64 (i : Int), .int .i64 (n : Int), v] w fun e w' => e = .returned (.agg (arr 32 (U8 (upS f i n H)))) ∧ Below w.heap.size w w' := by
  by_cases h1 : n ≤ 1
  · rw [upS_1 h1]
    exact up_1 (by omega)
  · rcases hv' with ⟨_, rfl⟩ | ⟨b, off, cap, rfl, hr, h3, h4⟩
    · exfalso
      obtain ⟨k1, k2, k3⟩ := halfN_lt (n := n) (by omega)
      by_cases hk : i < halfN n
      · rw [wayS_lo (by omega) hk] at hl; simp at hl
      · rw [wayS_hi (by omega) hk] at hl; simp at hl
    · exact up_row n f i n H (Nat.le_refl _) hn hi hl w b off cap hr h3 h4
theorem refleaf_arr {s : List UInt8} {w : World} (hs : s.length ≤ 140737488355000) : Calls Try.prog 15 #[.string (bs s)] w fun e w' => e = .returned (.agg (arr 32 (U8 (leafS s)))) ∧ Below w.heap.size w w' := refleaf_any hs
set_option maxHeartbeats 1000000 in
theorem reffits_bad {size n : Int} {root : HF} {leaf v : Value} {w : World} (h : n < 0 ∨ size ≤ n) :
    Calls Try.prog 30 #[.agg (hd size root), .int .i64 n, leaf, v] w (Said false w) := by
  have hh := (HeadAt.new w size root 36).size
  by_cases h0 : n < 0
  · go_enter Try.func30, Try.ntmps30
    go_wp2_with fail
    go_ret
    exact ⟨rfl, (Below.refl _ _).alloc (Nat.le_refl _) _⟩
  · have h1 : size ≤ n := by omega
    go_enter Try.func30, Try.ntmps30
    go_wp2_with fail
    go_ret
    exact ⟨rfl, (Below.refl _ _).alloc (Nat.le_refl _) _⟩
set_option maxHeartbeats 1000000 in
theorem reffits_len {size n : Nat} {root : HF} {leaf : Value} {pa : Option Addr} {m cap : Nat} {w : World} (h : n < size) (hs : size ≤ 9223372036854775807) (hne : (wayS n size).length ≠ m) :
    Calls Try.prog 30 #[.agg (hd size root), .int .i64 (n : Int), leaf, .slice pa m cap] w (Said false w) := by
  have hh := (HeadAt.new w size root 36).size
  have n1 : ((n : Int) < 0) = False := by simp
  have n2 : decide ((size : Int) ≤ (n : Int)) = false := decide_eq_false (by omega)
  have n3 : decide (size ≤ n) = false := decide_eq_false (by omega)
  obtain ⟨d, hd'⟩ : ∃ d, (wayS n size).length = d := ⟨_, rfl⟩
  rw [hd'] at hne
  have HD := Lib.hid hd'
  clear hd'
  have t1 : ((m : Int) == (d : Int)) = false := by simp; omega
  have t2 : ((m : Int) != (d : Int)) = true := by simp; omega
  go_enter Try.func30, Try.ntmps30
  go_wp2_with fail
  refine (depth_any size n size (Nat.le_refl _) hs (by omega) _).mono ?_
  rintro e w1 ⟨rfl, rfl⟩
  rw [HD.out]
  go_wp2_with fail
  go_ret
  exact ⟨rfl, (Below.refl _ _).alloc (Nat.le_refl _) _⟩
set_option maxHeartbeats 2000000 in
set_option maxRecDepth 100000 in
theorem reffits_same {size n : Nat} {root : HF} {leaf : List UInt8} {v : Value} {H : List HF} {w : World} (h : n < size) (hs : size ≤ 9223372036854775807) (hlf : leaf.length ≤ 140737488351232)
    (hv' : HSlice w v H) (he : (wayS n size).length = H.length) :
    Calls Try.prog 30 #[.agg (hd size root), .int .i64 (n : Int), .string (bs leaf), v] w (Said (decide (hl (upS (leafS leaf) n size H) 32 = hl root 32)) w) := by
  have hh0 := HeadAt.new w size root 36
  have hh := hh0.size
  have hrt := hh0.root
  have hb := (Below.refl w.heap.size w).alloc (Nat.le_refl _) (.cells (hd size root) 36)
  have hH2 := hv'.below hb
  obtain ⟨pa, cap, hv2, q1, q2, -⟩ := hv'.form
  have n1 : ((n : Int) < 0) = False := by simp
  have n2 : decide ((size : Int) ≤ (n : Int)) = false := decide_eq_false (by omega)
  have n3 : decide (size ≤ n) = false := decide_eq_false (by omega)
  have HE := Lib.hid he
  clear he hv'
  obtain ⟨len, hlen⟩ : ∃ len, H.length = len := ⟨_, rfl⟩
  rw [hlen] at hv2
  rw [hv2] at hH2 ⊢
  have HLN := Lib.hid hlen
  have G0 : Hid (∀ W, Below (w.alloc (.cells (hd size root) 36)).heap.size (w.alloc (.cells (hd size root) 36)) W → Calls Try.prog 45 #[.agg (arr 32 (U8 (leafS leaf))), .int .i64 (n : Int), .int .i64 (size : Int), .slice pa len cap] W fun e w' => e = .returned (.agg (arr 32 (U8 (upS (leafS leaf) n size H)))) ∧ Below W.heap.size W w') :=
    fun W hW => up_any hs (by omega) HE.out.symm (hH2.below hW)
  clear hlen hv2 hH2
  go_enter Try.func30, Try.ntmps30
  go_wp2_with fail
  refine (depth_any size n size (Nat.le_refl _) hs (by omega) _).mono ?_
  rintro e w1 ⟨rfl, rfl⟩
  rw [HE.out, HLN.out]
  go_wp2_with fail
  have zq := hb.size
  have hz : (w.alloc (.cells (hd size root) 36)).heap.size = w.heap.size + 1 := by simp
  generalize (w.alloc (.cells (hd size root) 36)) = w0 at *
  have G1 : Hid (∀ e : Ext w0, Calls Try.prog 45 #[.agg (arr 32 (U8 (leafS leaf))), .int .i64 (n : Int), .int .i64 (size : Int), .slice pa len cap] e.at fun x w' => x = .returned (.agg (arr 32 (U8 (upS (leafS leaf) n size H)))) ∧ Below e.at.heap.size e.at w') := fun e => G0.out _ e.below
  clear G0
  have hx : ∀ e : Ext w0, e.at.cell? ⟨w.heap.size, 0, none⟩ = some (.int .i64 (size : Int)) := ext_cell hh
  refine wp_region_ext (by kernel_rfl) (by kernel_rfl) ?_
  repeat (first | go_big_quiet_step ((first | (go_at_call 45; with_reducible exact ext_call (G1.out _)) | (go_at_call 15; with_reducible exact ext_call (refleaf_arr (by omega))))) | (go_big_quiet_want; (refine quiet_load_h (.tmp 33) rfl w.heap.size 1 rfl root hrt ?_); go_simp; go_big_quiet_on))
  refine wpQuiet_nil ?_
  rintro _ ⟨e, rfl⟩
  go_wp2_with fail
  go_ret
  exact ⟨rfl, hb.trans (e.below.mono zq)⟩
theorem reffits_any {size n : Int} {root : HF} {leaf : List UInt8} {v : Value} {H : List HF} {w : World} (hs : size ≤ 9223372036854775807) (hlf : leaf.length ≤ 140737488351232) (hH : HSlice w v H) :
    Calls Try.prog 30 #[.agg (hd size root), .int .i64 n, .string (bs leaf), v] w (Said (fitB size root n leaf H) w) := by
  by_cases h : n < 0 ∨ size ≤ n
  · rw [show fitB size root n leaf H = false from decide_eq_false (by omega)]
    exact reffits_bad h
  · obtain ⟨i, rfl⟩ : ∃ i : Nat, n = i := ⟨n.toNat, by omega⟩
    obtain ⟨m, rfl⟩ : ∃ m : Nat, size = m := ⟨size.toNat, by omega⟩
    by_cases he : (wayS i m).length = H.length
    · have e : fitB m root i leaf H = decide (hl (upS (leafS leaf) i m H) 32 = hl root 32) := by
        unfold fitB
        rw [upS_step m _ _ _ _ (Nat.le_refl _) he.symm, Int.toNat_natCast, Int.toNat_natCast, decide_eq_decide]
        rw [he]
        exact ⟨fun h => h.2.2.2, fun h' => ⟨by omega, by omega, rfl, h'⟩⟩
      rw [e]
      exact reffits_same (by omega) (by omega) hlf hH he
    · obtain ⟨pa, cap, rfl, h1, h2, h3⟩ := hH.form
      rw [show fitB m root i leaf H = false from decide_eq_false (fun h' => he h'.2.2.1.symm)]
      exact reffits_len (by omega) (by omega) he
end Go.Proofs.Ytijhdfllffkfjaa
