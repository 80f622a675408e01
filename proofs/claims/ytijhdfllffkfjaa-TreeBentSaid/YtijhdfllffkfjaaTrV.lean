/- Growth that is checked: the reference's both, its other half, and all of it. -/
import Derived.Test.YtijhdfllffkfjaaTrU
namespace Go.Proofs.Ytijhdfllffkfjaa
open Go.RowKit
section
variable {w : World} {old l q1 q2 : HF}
set_option maxHeartbeats 8000000 in
set_option maxRecDepth 100000 in
theorem both_hi {m n k q b off cap : Nat} {whole : Bool} (h2 : 2 ≤ n) (hn : n ≤ 9223372036854775807) (hk : halfN n = k) (hm : k < m) (hmn : m < n) (hcap : q + 1 ≤ cap) (hcm : cap ≤ 9223372036854775807) (hl : w.rangeAt b (off + q * 32) (hc l))
    (h1 : ∀ W, Below w.heap.size w W → Calls Try.prog 48 #[.int .i64 ((m : Int) - (k : Int)), .int .i64 ((n : Int) - (k : Int)), .bool false, .agg (arr 32 (U8 old)), .slice (some ⟨b, off, none⟩) q cap] W (BEnd W (q1, q2))) :
    Calls Try.prog 48 #[.int .i64 (m : Int), .int .i64 (n : Int), .bool whole, .agg (arr 32 (U8 old)), .slice (some ⟨b, off, none⟩) (q + 1) cap] w (BEnd w (nodeS l q1, nodeS l q2)) := by
  obtain ⟨k1, k2, k3⟩ := halfN_lt h2
  rw [hk] at k1 k2 k3
  have HK := Lib.hid hk
  have n0 : ((m : Int) == (n : Int)) = false := by simp; omega
  have n4 : decide ((m : Int) ≤ (k : Int)) = false := decide_eq_false (by omega)
  have n5 : decide (m ≤ k) = false := decide_eq_false (by omega)
  have H1 := Lib.hid h1
  clear hk h1
  obtain ⟨w0, hw0, S0⟩ := BSt.start w old
  have hl0 := range_below hl S0.kept (range_lt hl)
  clear hl
  have hz := S0.size
  have S1 := (S0.below ((Below.refl _ _).alloc (Nat.le_refl _) (.cells (arr 32 fun _ => .int .u8 0) 24))).far (g := w0.heap.size) (by omega) (arr 32 (U8 l))
  have r3 : Row (w0.alloc (.cells (arr 32 fun _ => .int .u8 0) 24)) w0.heap.size 24 32 (fun _ => .int .u8 0) := Row.newArr _ _ _ _
  have rl := r3.setRow (U8 l)
  have hl1 := World.rangeAt_alloc hl0 (.cells (arr 32 fun _ => .int .u8 0) 24)
  clear S0 
  have S1 := Lib.hid S1
  have rl := Lib.hid rl
  go_enter Try.func48, Try.ntmps48
  go_upto_region 1 with ((with_reducible refine wpList_alloc_is ?_ 24 ?_ 32 (.int .u8 0) ?_ ?_); rfl; rfl; kernel_rfl; (try simp only [World.size_alloc]))
  rw [hw0]
  clear hw0
  go_wp2_with fail
  refine (refhalf_any h2 hn).mono ?_
  rintro e w1 ⟨rfl, hw⟩
  obtain rfl := hw.symm
  rw [HK.out]
  clear n0 hw
  go_upto_region 7 with (first | ((with_reducible refine wpList_load_h ?_ (.tmp 37) ?_ b (off + q * 32) ?_ l hl0 ?_); rfl; rfl; rfl) | ((with_reducible refine wpList_alloc_is ?_ 24 ?_ 32 (.int .u8 0) ?_ ?_); rfl; rfl; kernel_rfl) | ((with_reducible refine wpList_store_is ?_ 24 (.tmp 13) (.tmp 38) ?_ w0.heap.size 32 (U8 l) _ ?_ ?_ 24 r3 ?_ ?_ ?_); rfl; rfl; rfl; rfl; kernel_rfl; exact fun _ _ => rfl))
  clear hl0 hl1 r3
  generalize (w0.alloc (.cells (arr 32 fun _ => .int .u8 0) 24)).setRow w0.heap.size (arr 32 (U8 l)) = w2 at *
  replace S1 := S1.out
  replace rl := rl.out
  have hr0 := row_range S1.ro
  generalize w0.heap.size = z at *
  have S1 := Lib.hid S1
  have rl := Lib.hid rl
  go_wp2_with ((with_reducible refine wpList_load_h ?_ (.tmp 8) ?_ w.heap.size 0 ?_ old hr0 ?_); rfl; rfl; rfl)
  refine (H1.out _ S1.out.kept).mono ?_
  rintro e w3 ⟨rfl, hb3⟩
  have S3 := S1.out.below hb3
  have rl3 := rl.out.belowAll hb3
  have z3 := rl3.lt
  clear S1 rl hr0 H1
  have ra : Row ((w3.alloc (.cells (arr 32 fun _ => .int .u8 0) 24)).alloc (.cells (arr 32 fun _ => .int .u8 0) 24)) w3.heap.size 24 32 (fun _ => .int .u8 0) := (Row.newArr _ _ _ _).alloc _
  have rb : Row ((w3.alloc (.cells (arr 32 fun _ => .int .u8 0) 24)).alloc (.cells (arr 32 fun _ => .int .u8 0) 24)) (w3.heap.size + 1) 24 32 (fun _ => .int .u8 0) := Row.newAt _ _ _ _ (by simp)
  have hb4 := ((Below.refl w3.heap.size w3).alloc (Nat.le_refl _) (.cells (arr 32 fun _ => .int .u8 0) 24)).alloc (by simp) (.cells (arr 32 fun _ => .int .u8 0) 24)
  have S4 := S3.below hb4
  have rl4 := rl3.belowAll hb4
  have zz := S3.size
  have S5 := Lib.hid ((S4.far (g := w3.heap.size) (by omega) (arr 32 (U8 q1))).far (g := w3.heap.size + 1) (by omega) (arr 32 (U8 q2)))
  have rb5 := rb.farRow (y := w3.heap.size) (by omega) (arr 32 (U8 q1))
  have RL := Lib.hid ((rl4.farRow (y := w3.heap.size) (by omega) (arr 32 (U8 q1))).farRow (y := w3.heap.size + 1) (by omega) (arr 32 (U8 q2)))
  have RA := Lib.hid ((ra.setRow (U8 q1)).farRow (y := w3.heap.size + 1) (by omega) (arr 32 (U8 q2)))
  have RB := Lib.hid (rb5.setRow (U8 q2))
  clear S3 S4 rb rl3 rl4 hb3 hb4
  go_upto_region 12 with (first | ((with_reducible refine wpList_alloc_is ?_ 24 ?_ 32 (.int .u8 0) ?_ ?_); rfl; rfl; kernel_rfl; (try simp only [World.size_alloc])) | ((with_reducible refine wpList_store_is ?_ 24 (.tmp 17) (.tmp 70) ?_ w3.heap.size 32 (U8 q1) _ ?_ ?_ 24 ra ?_ ?_ ?_); rfl; rfl; rfl; rfl; kernel_rfl; exact fun _ _ => rfl) | ((with_reducible refine wpList_store_is ?_ 24 (.tmp 18) (.tmp 71) ?_ (w3.heap.size + 1) 32 (U8 q2) _ ?_ ?_ 24 rb5 ?_ ?_ ?_); rfl; rfl; rfl; rfl; kernel_rfl; exact fun _ _ => rfl))
  clear ra rb5
  generalize (((w3.alloc (.cells (arr 32 fun _ => .int .u8 0) 24)).alloc (.cells (arr 32 fun _ => .int .u8 0) 24)).setRow w3.heap.size (arr 32 (U8 q1))).setRow (w3.heap.size + 1) (arr 32 (U8 q2)) = w4 at *
  generalize w3.heap.size = g at *
  replace S5 := S5.out
  replace RL := RL.out
  replace RA := RA.out
  replace RB := RB.out
  refine wp_forget3 [72, 73, 74, 75, 76, 77] (fun act => act.tmps.size = 78 ∧ act.tmps.getD 10 undef = .pointer (some ⟨w.heap.size + 1, 0, none⟩) ∧ act.tmps.getD 11 undef = .pointer (some ⟨w.heap.size + 1 + 1, 0, none⟩) ∧ act.tmps.getD 13 undef = .pointer (some ⟨z, 0, none⟩) ∧ act.tmps.getD 17 undef = .pointer (some ⟨g, 0, none⟩) ∧ act.tmps.getD 18 undef = .pointer (some ⟨g + 1, 0, none⟩) ∧ act.defers = []) (fun x => x.tmps.getD 10 undef = .pointer (some ⟨w.heap.size + 1, 0, none⟩) ∧ x.tmps.getD 11 undef = .pointer (some ⟨w.heap.size + 1 + 1, 0, none⟩) ∧ x.defers = []) (fun _ w' => BSt w old (U8 (nodeS l q1)) (U8 (nodeS l q2)) w') ⟨rfl, rfl, rfl, rfl, rfl, rfl, rfl⟩ (fun f => ⟨out_of (by decide) rfl, out_of (by decide) rfl, (puts_defers _ _ _).trans rfl⟩) ?_ ?_
  · rintro x f w' ⟨x1, x2, xd⟩ S
    apply_assumption
    exact wp_ret (S.ret x1 x2 xd)
  rintro act Q' ⟨a1, a10, a11, a13, a17, a18, ad⟩ HQ
  refine wp_region_inv [72, 73, 74, 75, 76, 77] (fun δ f w' => (δ 0 = true → f 72 = .agg (arr 32 (U8 l))) ∧ (δ 1 = true → f 73 = .agg (arr 32 (U8 q1))) ∧ (δ 2 = true → f 74 = .agg (arr 32 (U8 (nodeS l q1)))) ∧ (δ 3 = true → f 75 = .agg (arr 32 (U8 l))) ∧ (δ 4 = true → f 76 = .agg (arr 32 (U8 q2))) ∧ (δ 5 = true → f 77 = .agg (arr 32 (U8 (nodeS l q2)))) ∧
    Row w' z 24 32 (U8 l) ∧ Row w' g 24 32 (U8 q1) ∧ Row w' (g + 1) 24 32 (U8 q2) ∧
    BSt w old (sel (δ 6) (U8 (nodeS l q1)) fun _ => .int .u8 0) (sel (δ 7) (U8 (nodeS l q2)) fun _ => .int .u8 0) w') (by kernel_rfl) (by kernel_rfl) ?_ ?_ ?_
  · exact ⟨fun e => Bool.noConfusion e, fun e => Bool.noConfusion e, fun e => Bool.noConfusion e, fun e => Bool.noConfusion e, fun e => Bool.noConfusion e, fun e => Bool.noConfusion e, RL, RA, RB, S5.drew⟩
  · refine ⟨?_, ?_, ?_, ?_, ?_, ?_, ?_, ?_, trivial⟩
    · rintro δ f w' ⟨h0, h1, h2, h3, h4, h5, R1, R2, R3, S⟩ hd ha
      refine wpList_load_h rfl (.tmp 13) rfl z 0 (eval_out (by decide) a13) l (row_range R1) ?_
      exact ⟨_, puts_put _ 72 _ _ f (by decide), fun _ => rfl, h1, h2, h3, h4, h5, R1, R2, R3, S⟩
    · rintro δ f w' ⟨h0, h1, h2, h3, h4, h5, R1, R2, R3, S⟩ hd ha
      refine wpList_load_h rfl (.tmp 17) rfl g 0 (eval_out (by decide) a17) q1 (row_range R2) ?_
      exact ⟨_, puts_put _ 73 _ _ f (by decide), h0, fun _ => rfl, h2, h3, h4, h5, R1, R2, R3, S⟩
    · rintro δ f w' ⟨h0, h1, h2, h3, h4, h5, R1, R2, R3, S⟩ hd ha
      refine wpList_refnode rfl (.tmp 72) (.tmp 73) rfl (eval_in (by rw [a1]; decide) (by decide) (h0 (ha.1 rfl))) (eval_in (by rw [a1]; decide) (by decide) (h1 (ha.2.1 rfl))) ?_
      intro w'' hb
      exact ⟨_, puts_put _ 74 _ _ f (by decide), h0, h1, fun _ => rfl, h3, h4, h5, R1.belowAll hb, R2.belowAll hb, R3.belowAll hb, S.below hb⟩
    · rintro δ f w' ⟨h0, h1, h2, h3, h4, h5, R1, R2, R3, S⟩ hd ha
      refine wpList_load_h rfl (.tmp 13) rfl z 0 (eval_out (by decide) a13) l (row_range R1) ?_
      exact ⟨_, puts_put _ 75 _ _ f (by decide), h0, h1, h2, fun _ => rfl, h4, h5, R1, R2, R3, S⟩
    · rintro δ f w' ⟨h0, h1, h2, h3, h4, h5, R1, R2, R3, S⟩ hd ha
      refine wpList_load_h rfl (.tmp 18) rfl (g + 1) 0 (eval_out (by decide) a18) q2 (row_range R3) ?_
      exact ⟨_, puts_put _ 76 _ _ f (by decide), h0, h1, h2, h3, fun _ => rfl, h5, R1, R2, R3, S⟩
    · rintro δ f w' ⟨h0, h1, h2, h3, h4, h5, R1, R2, R3, S⟩ hd ha
      refine wpList_refnode rfl (.tmp 75) (.tmp 76) rfl (eval_in (by rw [a1]; decide) (by decide) (h3 (ha.1 rfl))) (eval_in (by rw [a1]; decide) (by decide) (h4 (ha.2.1 rfl))) ?_
      intro w'' hb
      exact ⟨_, puts_put _ 77 _ _ f (by decide), h0, h1, h2, h3, h4, fun _ => rfl, R1.belowAll hb, R2.belowAll hb, R3.belowAll hb, S.below hb⟩
    · rintro δ f w' ⟨h0, h1, h2, h3, h4, h5, R1, R2, R3, S⟩ hd ha
      refine wpList_store_is rfl 24 (.tmp 10) (.tmp 74) rfl (w.heap.size + 1) 32 (U8 (nodeS l q1)) _ (eval_out (by decide) a10) (eval_in (by rw [a1]; decide) (by decide) (h2 (ha.1 rfl))) 24 S.r1 (by kernel_rfl) (fun _ _ => rfl) ?_
      exact ⟨f, puts_none _ _ _ _, h0, h1, h2, h3, h4, h5, R1.farRow (by omega) _, R2.farRow (by omega) _, R3.farRow (by omega) _, S.set1 (U8 (nodeS l q1))⟩
    · rintro δ f w' ⟨h0, h1, h2, h3, h4, h5, R1, R2, R3, S⟩ hd ha
      refine wpList_store_is rfl 24 (.tmp 11) (.tmp 77) rfl (w.heap.size + 1 + 1) 32 (U8 (nodeS l q2)) _ (eval_out (by decide) a11) (eval_in (by rw [a1]; decide) (by decide) (h5 (ha.1 rfl))) 24 S.r2 (by kernel_rfl) (fun _ _ => rfl) ?_
      exact ⟨f, puts_none _ _ _ _, h0, h1, h2, h3, h4, h5, R1.farRow (by omega) _, R2.farRow (by omega) _, R3.farRow (by omega) _, S.set2 (U8 (nodeS l q2))⟩
  · rintro δ f w' hall ⟨-, -, -, -, -, -, -, -, -, S⟩
    have h6 := hall 6 (by decide)
    have h7 := hall 7 (by decide)
    rw [h6, h7] at S
    exact HQ f w' S
end
theorem both_row : ∀ (j : Nat) (old : HF) (m n : Nat) (whole : Bool) (H : List HF) (_ : n ≤ j) (_ : n ≤ 9223372036854775807) (_ : 0 < m) (_ : m ≤ n) (_ : H.length = manyS m n whole) (w : World) (b off cap : Nat) (_ : HR w b off H) (_ : H.length ≤ cap) (_ : cap ≤ 9223372036854775807),
    Calls Try.prog 48 #[.int .i64 (m : Int), .int .i64 (n : Int), .bool whole, .agg (arr 32 (U8 old)), .slice (some ⟨b, off, none⟩) H.length cap] w (BEnd w (bothG old (hg H) 0 m n whole))
  | j, old, m, n, whole, H, hj, hn, hm0, hm, hl, w, b, off, cap, hr, hcap, hcm => by
    by_cases he : m = n
    · subst he
      rw [manyS_eq rfl] at hl
      rw [bothG_eq rfl]
      cases whole with
      | true => exact both_whole
      | false =>
        have := hr.get 0 (by rw [hl]; decide)
        rw [Nat.zero_mul, Nat.add_zero] at this
        exact both_not (by rw [hl]; decide) this
    · have h2 : 2 ≤ n := by omega
      obtain ⟨k1, k2, k3⟩ := halfN_lt h2
      obtain ⟨j', rfl⟩ : ∃ j', j = j' + 1 := ⟨j - 1, by omega⟩
      have hlen : (H.take (H.length - 1)).length = H.length - 1 := by rw [List.length_take]; omega
      by_cases hk : m ≤ halfN n
      · rw [manyS_lo he h2 hk] at hl
        obtain ⟨q, hq⟩ : ∃ q, H.length = q + 1 := ⟨H.length - 1, by omega⟩
        rw [hq, Nat.add_sub_cancel] at hlen
        have e := bothG_congr (old := old) _ (hg (H.take q)) (hg H) 0 0 m (halfN n) whole (Nat.le_refl _) (fun i hi => by rw [Nat.zero_add]; exact hg_take _ _ _ (by omega))
        rw [bothG_lo he h2 hk, hq, Nat.zero_add, show manyS m (halfN n) whole = q by omega]
        refine both_lo h2 hn rfl hk (by omega) hcm (hr.get q (by omega)) (fun W hW => ?_)
        have := both_row j' old m (halfN n) whole (H.take q) (by omega) (by omega) hm0 hk (by omega) W b off cap ((hr.take q).below hW) (by omega) hcm
        rw [hlen, e] at this
        exact this
      · rw [manyS_hi he h2 hk] at hl
        obtain ⟨q, hq⟩ : ∃ q, H.length = q + 1 := ⟨H.length - 1, by omega⟩
        rw [hq, Nat.add_sub_cancel] at hlen
        have e := bothG_congr (old := old) _ (hg (H.take q)) (hg H) 0 0 (m - halfN n) (n - halfN n) false (Nat.le_refl _) (fun i hi => by rw [Nat.zero_add]; exact hg_take _ _ _ (by omega))
        rw [bothG_hi he h2 hk, hq, Nat.zero_add, show manyS (m - halfN n) (n - halfN n) false = q by omega]
        refine both_hi h2 hn rfl (by omega) (by omega) (by omega) hcm (hr.get q (by omega)) (fun W hW => ?_)
        have := both_row j' old (m - halfN n) (n - halfN n) false (H.take q) (by omega) (by omega) (by omega) (by omega) (by omega) W b off cap ((hr.take q).below hW) (by omega) hcm
        rw [hlen, e, show ((m - halfN n : Nat) : Int) = (m : Int) - (halfN n : Nat) by omega, show ((n - halfN n : Nat) : Int) = (n : Int) - (halfN n : Nat) by omega] at this
        exact this
end Go.Proofs.Ytijhdfllffkfjaa
