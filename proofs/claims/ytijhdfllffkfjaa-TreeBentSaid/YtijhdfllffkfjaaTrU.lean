/- Growth that is checked: the reference's both. -/
import Derived.Test.YtijhdfllffkfjaaTrT
namespace Go.Proofs.Ytijhdfllffkfjaa
open Go.RowKit
section
variable {w : World} {old : HF}
set_option maxHeartbeats 2000000 in
set_option maxRecDepth 100000 in
theorem both_whole {n : Nat} {v : Value} :
    Calls Try.prog 48 #[.int .i64 (n : Int), .int .i64 (n : Int), .bool true, .agg (arr 32 (U8 old)), v] w (BEnd w (old, old)) := by
  obtain ⟨w0, hw0, S0⟩ := BSt.start w old
  go_enter Try.func48, Try.ntmps48
  go_upto_region 1 with ((with_reducible refine wpList_alloc_is ?_ 24 ?_ 32 (.int .u8 0) ?_ ?_); rfl; rfl; kernel_rfl; (try simp only [World.size_alloc]))
  rw [hw0]
  clear hw0
  go_wp2_with fail
  refine wp_region_inv [23, 24] (fun δ f w' => (δ 0 = true → f 23 = .agg (arr 32 (U8 old))) ∧ (δ 1 = true → f 24 = .agg (arr 32 (U8 old))) ∧
    BSt w old (sel (δ 2) (U8 old) fun _ => .int .u8 0) (sel (δ 3) (U8 old) fun _ => .int .u8 0) w') (by kernel_rfl) (by kernel_rfl) ?_ ?_ ?_
  · exact ⟨fun e => Bool.noConfusion e, fun e => Bool.noConfusion e, S0.drew⟩
  · refine ⟨?_, ?_, ?_, ?_, trivial⟩
    · rintro δ f w' ⟨h0, h1, S⟩ hd -
      refine wpList_load_h rfl (.tmp 8) rfl w.heap.size 0 rfl old (row_range S.ro) ?_
      exact ⟨_, puts_put _ 23 _ [23, 24] f (by decide), fun _ => rfl, fun e => h1 e, S⟩
    · rintro δ f w' ⟨h0, h1, S⟩ hd -
      refine wpList_load_h rfl (.tmp 8) rfl w.heap.size 0 rfl old (row_range S.ro) ?_
      exact ⟨_, puts_put _ 24 _ [23, 24] f (by decide), fun e => h0 e, fun _ => rfl, S⟩
    · rintro δ f w' ⟨h0, h1, S⟩ hd ha
      refine wpList_store_is rfl 24 (.tmp 10) (.tmp 23) rfl (w.heap.size + 1) 32 (U8 old) _ rfl (h0 (ha.1 rfl)) 24 S.r1 (by kernel_rfl) (fun _ _ => rfl) ?_
      exact ⟨f, puts_none _ _ _ _, fun e => h0 e, fun e => h1 e, S.set1 (U8 old)⟩
    · rintro δ f w' ⟨h0, h1, S⟩ hd ha
      refine wpList_store_is rfl 24 (.tmp 11) (.tmp 24) rfl (w.heap.size + 1 + 1) 32 (U8 old) _ rfl (h1 (ha.1 rfl)) 24 S.r2 (by kernel_rfl) (fun _ _ => rfl) ?_
      exact ⟨f, puts_none _ _ _ _, fun e => h0 e, fun e => h1 e, S.set2 (U8 old)⟩
  · rintro δ f w' hall ⟨-, -, S⟩
    have h2 := hall 2 (by decide)
    have h3 := hall 3 (by decide)
    rw [h2, h3] at S
    go_wp2_with fail
    exact S.ret rfl rfl rfl
set_option maxHeartbeats 4000000 in
set_option maxRecDepth 100000 in
theorem both_not {n len b off cap : Nat} {x : HF} (hlen : 0 < len) (hx : w.rangeAt b off (hc x)) :
    Calls Try.prog 48 #[.int .i64 (n : Int), .int .i64 (n : Int), .bool false, .agg (arr 32 (U8 old)), .slice (some ⟨b, off, none⟩) len cap] w (BEnd w (x, x)) := by
  obtain ⟨w0, hw0, S0⟩ := BSt.start w old
  have hxb := range_lt hx
  have hx0 := range_below hx S0.kept hxb
  go_enter Try.func48, Try.ntmps48
  go_upto_region 1 with ((with_reducible refine wpList_alloc_is ?_ 24 ?_ 32 (.int .u8 0) ?_ ?_); rfl; rfl; kernel_rfl; (try simp only [World.size_alloc]))
  rw [hw0]
  clear hw0
  go_wp2_with fail
  refine wp_forget3 [25, 26, 27, 28, 29, 30] (fun act => act.tmps.size = 78 ∧ act.tmps.getD 10 undef = .pointer (some ⟨w.heap.size + 1, 0, none⟩) ∧ act.tmps.getD 11 undef = .pointer (some ⟨w.heap.size + 1 + 1, 0, none⟩) ∧ act.tmps.getD 4 undef = .slice (some ⟨b, off, none⟩) len cap ∧ act.defers = []) (fun x => x.tmps.getD 10 undef = .pointer (some ⟨w.heap.size + 1, 0, none⟩) ∧ x.tmps.getD 11 undef = .pointer (some ⟨w.heap.size + 1 + 1, 0, none⟩) ∧ x.defers = []) (fun _ w' => BSt w old (U8 x) (U8 x) w') ⟨rfl, rfl, rfl, rfl, rfl⟩ (fun f => ⟨out_of (by decide) rfl, out_of (by decide) rfl, (puts_defers _ _ _).trans rfl⟩) ?_ ?_
  · rintro x f w' ⟨x1, x2, xd⟩ S
    apply_assumption
    exact wp_ret (S.ret x1 x2 xd)
  rintro act Q' ⟨a1, a10, a11, a4, ad⟩ HQ
  refine wp_region_inv [25, 26, 27, 28, 29, 30] (fun δ f w' => (δ 0 = true → f 25 = .slice (some ⟨b, off, none⟩) len cap) ∧ (δ 1 = true → f 26 = .pointer (some ⟨b, off, none⟩)) ∧ (δ 2 = true → f 27 = .agg (arr 32 (U8 x))) ∧ (δ 3 = true → f 28 = .slice (some ⟨b, off, none⟩) len cap) ∧ (δ 4 = true → f 29 = .pointer (some ⟨b, off, none⟩)) ∧ (δ 5 = true → f 30 = .agg (arr 32 (U8 x))) ∧
    BSt w old (sel (δ 6) (U8 x) fun _ => .int .u8 0) (sel (δ 7) (U8 x) fun _ => .int .u8 0) w') (by kernel_rfl) (by kernel_rfl) ?_ ?_ ?_
  · exact ⟨fun e => Bool.noConfusion e, fun e => Bool.noConfusion e, fun e => Bool.noConfusion e, fun e => Bool.noConfusion e, fun e => Bool.noConfusion e, fun e => Bool.noConfusion e, S0.drew⟩
  · refine ⟨?_, ?_, ?_, ?_, ?_, ?_, ?_, ?_, trivial⟩
    · rintro δ f w' ⟨h0, h1, h2, h3, h4, h5, S⟩ hd ha
      refine wpList_move rfl (.tmp 4) rfl (eval_out (by decide) a4) ?_
      exact ⟨_, puts_put _ 25 _ _ f (by decide), fun _ => rfl, h1, h2, h3, h4, h5, S⟩
    · rintro δ f w' ⟨h0, h1, h2, h3, h4, h5, S⟩ hd ha
      refine wpList_first rfl (.tmp 25) rfl hlen (eval_in (by rw [a1]; decide) (by decide) (h0 (ha.1 rfl))) ?_
      exact ⟨_, puts_put _ 26 _ _ f (by decide), h0, fun _ => rfl, h2, h3, h4, h5, S⟩
    · rintro δ f w' ⟨h0, h1, h2, h3, h4, h5, S⟩ hd ha
      refine wpList_load_h rfl (.tmp 26) rfl b off (eval_in (by rw [a1]; decide) (by decide) (h1 (ha.1 rfl))) x (range_below hx S.kept hxb) ?_
      exact ⟨_, puts_put _ 27 _ _ f (by decide), h0, h1, fun _ => rfl, h3, h4, h5, S⟩
    · rintro δ f w' ⟨h0, h1, h2, h3, h4, h5, S⟩ hd ha
      refine wpList_move rfl (.tmp 4) rfl (eval_out (by decide) a4) ?_
      exact ⟨_, puts_put _ 28 _ _ f (by decide), h0, h1, h2, fun _ => rfl, h4, h5, S⟩
    · rintro δ f w' ⟨h0, h1, h2, h3, h4, h5, S⟩ hd ha
      have q3 : f 28 = .slice (some ⟨b, off, none⟩) len cap := h3 (ha.1 rfl)
      refine wpList_first rfl (.tmp 28) rfl hlen (eval_in (by rw [a1]; decide) (by decide) q3) ?_
      exact ⟨_, puts_put _ 29 _ _ f (by decide), h0, h1, h2, h3, fun _ => rfl, h5, S⟩
    · rintro δ f w' ⟨h0, h1, h2, h3, h4, h5, S⟩ hd ha
      refine wpList_load_h rfl (.tmp 29) rfl b off (eval_in (by rw [a1]; decide) (by decide) (h4 (ha.1 rfl))) x (range_below hx S.kept hxb) ?_
      exact ⟨_, puts_put _ 30 _ _ f (by decide), h0, h1, h2, h3, h4, fun _ => rfl, S⟩
    · rintro δ f w' ⟨h0, h1, h2, h3, h4, h5, S⟩ hd ha
      refine wpList_store_is rfl 24 (.tmp 10) (.tmp 27) rfl (w.heap.size + 1) 32 (U8 x) _ (eval_out (by decide) a10) (eval_in (by rw [a1]; decide) (by decide) (h2 (ha.1 rfl))) 24 S.r1 (by kernel_rfl) (fun _ _ => rfl) ?_
      exact ⟨f, puts_none _ _ _ _, h0, h1, h2, h3, h4, h5, S.set1 (U8 x)⟩
    · rintro δ f w' ⟨h0, h1, h2, h3, h4, h5, S⟩ hd ha
      refine wpList_store_is rfl 24 (.tmp 11) (.tmp 30) rfl (w.heap.size + 1 + 1) 32 (U8 x) _ (eval_out (by decide) a11) (eval_in (by rw [a1]; decide) (by decide) (h5 (ha.1 rfl))) 24 S.r2 (by kernel_rfl) (fun _ _ => rfl) ?_
      exact ⟨f, puts_none _ _ _ _, h0, h1, h2, h3, h4, h5, S.set2 (U8 x)⟩
  · rintro δ f w' hall ⟨-, -, -, -, -, -, S⟩
    have h6 := hall 6 (by decide)
    have h7 := hall 7 (by decide)
    rw [h6, h7] at S
    exact HQ f w' S
variable {l q1 q2 : HF}
set_option maxHeartbeats 8000000 in
set_option maxRecDepth 100000 in
theorem both_lo {m n k q b off cap : Nat} {whole : Bool} (h2 : 2 ≤ n) (hn : n ≤ 9223372036854775807) (hk : halfN n = k) (hm : m ≤ k) (hcap : q + 1 ≤ cap) (hcm : cap ≤ 9223372036854775807) (hl : w.rangeAt b (off + q * 32) (hc l))
    (h1 : ∀ W, Below w.heap.size w W → Calls Try.prog 48 #[.int .i64 (m : Int), .int .i64 (k : Int), .bool whole, .agg (arr 32 (U8 old)), .slice (some ⟨b, off, none⟩) q cap] W (BEnd W (q1, q2))) :
    Calls Try.prog 48 #[.int .i64 (m : Int), .int .i64 (n : Int), .bool whole, .agg (arr 32 (U8 old)), .slice (some ⟨b, off, none⟩) (q + 1) cap] w (BEnd w (q1, nodeS q2 l)) := by
  obtain ⟨k1, k2, k3⟩ := halfN_lt h2
  rw [hk] at k1 k2 k3
  have HK := Lib.hid hk
  have n0 : ((m : Int) == (n : Int)) = false := by simp; omega
  have H1 := Lib.hid h1
  clear hk h1
  obtain ⟨w0, hw0, S0⟩ := BSt.start w old
  have hl0 := range_below hl S0.kept (range_lt hl)
  clear hl
  have hz := S0.size
  have S1 := (S0.below ((Below.refl _ _).alloc (Nat.le_refl _) (.cells (arr 32 fun _ => .int .u8 0) 24))).far (g := w0.heap.size) (by omega) (arr 32 (U8 l))
  have r3 : Row (w0.alloc (.cells (arr 32 fun _ => .int .u8 0) 24)) w0.heap.size 24 32 (fun _ => .int .u8 0) := Row.newArr _ _ _ _
  have rl := r3.setRow (U8 l)
  have hl1 := World.rangeAt_alloc hl0 (.cells (arr 32 fun _ => .int .u8 0) 24)
  clear S0 
  have S1 := Lib.hid S1
  have rl := Lib.hid rl
  go_enter Try.func48, Try.ntmps48
  go_upto_region 1 with ((with_reducible refine wpList_alloc_is ?_ 24 ?_ 32 (.int .u8 0) ?_ ?_); rfl; rfl; kernel_rfl; (try simp only [World.size_alloc]))
  rw [hw0]
  clear hw0
  go_wp2_with fail
  refine (refhalf_any h2 hn).mono ?_
  rintro e w1 ⟨rfl, hw⟩
  obtain rfl := hw.symm
  rw [HK.out]
  clear n0 hw
  go_upto_region 7 with (first | ((with_reducible refine wpList_load_h ?_ (.tmp 37) ?_ b (off + q * 32) ?_ l hl0 ?_); rfl; rfl; rfl) | ((with_reducible refine wpList_alloc_is ?_ 24 ?_ 32 (.int .u8 0) ?_ ?_); rfl; rfl; kernel_rfl) | ((with_reducible refine wpList_store_is ?_ 24 (.tmp 13) (.tmp 38) ?_ w0.heap.size 32 (U8 l) _ ?_ ?_ 24 r3 ?_ ?_ ?_); rfl; rfl; rfl; rfl; kernel_rfl; exact fun _ _ => rfl))
  clear hl0 hl1 r3
  generalize (w0.alloc (.cells (arr 32 fun _ => .int .u8 0) 24)).setRow w0.heap.size (arr 32 (U8 l)) = w2 at *
  replace S1 := S1.out
  replace rl := rl.out
  have hr0 := row_range S1.ro
  generalize w0.heap.size = z at *
  have S1 := Lib.hid S1
  have rl := Lib.hid rl
  go_wp2_with ((with_reducible refine wpList_load_h ?_ (.tmp 8) ?_ w.heap.size 0 ?_ old hr0 ?_); rfl; rfl; rfl)
  refine (H1.out _ S1.out.kept).mono ?_
  rintro e w3 ⟨rfl, hb3⟩
  have S3 := S1.out.below hb3
  have rl3 := rl.out.belowAll hb3
  have z3 := rl3.lt
  clear S1 rl hr0 H1
  have ra : Row ((w3.alloc (.cells (arr 32 fun _ => .int .u8 0) 24)).alloc (.cells (arr 32 fun _ => .int .u8 0) 24)) w3.heap.size 24 32 (fun _ => .int .u8 0) := (Row.newArr _ _ _ _).alloc _
  have rb : Row ((w3.alloc (.cells (arr 32 fun _ => .int .u8 0) 24)).alloc (.cells (arr 32 fun _ => .int .u8 0) 24)) (w3.heap.size + 1) 24 32 (fun _ => .int .u8 0) := Row.newAt _ _ _ _ (by simp)
  have hb4 := ((Below.refl w3.heap.size w3).alloc (Nat.le_refl _) (.cells (arr 32 fun _ => .int .u8 0) 24)).alloc (by simp) (.cells (arr 32 fun _ => .int .u8 0) 24)
  have S4 := S3.below hb4
  have rl4 := rl3.belowAll hb4
  have zz := S3.size
  have S5 := Lib.hid ((S4.far (g := w3.heap.size) (by omega) (arr 32 (U8 q1))).far (g := w3.heap.size + 1) (by omega) (arr 32 (U8 q2)))
  have rb5 := rb.farRow (y := w3.heap.size) (by omega) (arr 32 (U8 q1))
  have RL := Lib.hid ((rl4.farRow (y := w3.heap.size) (by omega) (arr 32 (U8 q1))).farRow (y := w3.heap.size + 1) (by omega) (arr 32 (U8 q2)))
  have RA := Lib.hid ((ra.setRow (U8 q1)).farRow (y := w3.heap.size + 1) (by omega) (arr 32 (U8 q2)))
  have RB := Lib.hid (rb5.setRow (U8 q2))
  clear S3 S4 rb rl3 rl4 hb3 hb4
  go_upto_region 10 with (first | ((with_reducible refine wpList_alloc_is ?_ 24 ?_ 32 (.int .u8 0) ?_ ?_); rfl; rfl; kernel_rfl; (try simp only [World.size_alloc])) | ((with_reducible refine wpList_store_is ?_ 24 (.tmp 15) (.tmp 54) ?_ w3.heap.size 32 (U8 q1) _ ?_ ?_ 24 ra ?_ ?_ ?_); rfl; rfl; rfl; rfl; kernel_rfl; exact fun _ _ => rfl) | ((with_reducible refine wpList_store_is ?_ 24 (.tmp 16) (.tmp 55) ?_ (w3.heap.size + 1) 32 (U8 q2) _ ?_ ?_ 24 rb5 ?_ ?_ ?_); rfl; rfl; rfl; rfl; kernel_rfl; exact fun _ _ => rfl))
  clear ra rb5
  generalize (((w3.alloc (.cells (arr 32 fun _ => .int .u8 0) 24)).alloc (.cells (arr 32 fun _ => .int .u8 0) 24)).setRow w3.heap.size (arr 32 (U8 q1))).setRow (w3.heap.size + 1) (arr 32 (U8 q2)) = w4 at *
  generalize w3.heap.size = g at *
  replace S5 := S5.out
  replace RL := RL.out
  replace RA := RA.out
  replace RB := RB.out
  refine wp_forget3 [56, 57, 58, 59] (fun act => act.tmps.size = 78 ∧ act.tmps.getD 10 undef = .pointer (some ⟨w.heap.size + 1, 0, none⟩) ∧ act.tmps.getD 11 undef = .pointer (some ⟨w.heap.size + 1 + 1, 0, none⟩) ∧ act.tmps.getD 13 undef = .pointer (some ⟨z, 0, none⟩) ∧ act.tmps.getD 15 undef = .pointer (some ⟨g, 0, none⟩) ∧ act.tmps.getD 16 undef = .pointer (some ⟨g + 1, 0, none⟩) ∧ act.defers = []) (fun x => x.tmps.getD 10 undef = .pointer (some ⟨w.heap.size + 1, 0, none⟩) ∧ x.tmps.getD 11 undef = .pointer (some ⟨w.heap.size + 1 + 1, 0, none⟩) ∧ x.defers = []) (fun _ w' => BSt w old (U8 q1) (U8 (nodeS q2 l)) w') ⟨rfl, rfl, rfl, rfl, rfl, rfl, rfl⟩ (fun f => ⟨out_of (by decide) rfl, out_of (by decide) rfl, (puts_defers _ _ _).trans rfl⟩) ?_ ?_
  · rintro x f w' ⟨x1, x2, xd⟩ S
    apply_assumption
    exact wp_ret (S.ret x1 x2 xd)
  rintro act Q' ⟨a1, a10, a11, a13, a15, a16, ad⟩ HQ
  refine wp_region_inv [56, 57, 58, 59] (fun δ f w' => (δ 0 = true → f 56 = .agg (arr 32 (U8 q1))) ∧ (δ 1 = true → f 57 = .agg (arr 32 (U8 q2))) ∧ (δ 2 = true → f 58 = .agg (arr 32 (U8 l))) ∧ (δ 3 = true → f 59 = .agg (arr 32 (U8 (nodeS q2 l)))) ∧
    Row w' z 24 32 (U8 l) ∧ Row w' g 24 32 (U8 q1) ∧ Row w' (g + 1) 24 32 (U8 q2) ∧
    BSt w old (sel (δ 4) (U8 q1) fun _ => .int .u8 0) (sel (δ 5) (U8 (nodeS q2 l)) fun _ => .int .u8 0) w') (by kernel_rfl) (by kernel_rfl) ?_ ?_ ?_
  · exact ⟨fun e => Bool.noConfusion e, fun e => Bool.noConfusion e, fun e => Bool.noConfusion e, fun e => Bool.noConfusion e, RL, RA, RB, S5.drew⟩
  · refine ⟨?_, ?_, ?_, ?_, ?_, ?_, trivial⟩
    · rintro δ f w' ⟨h0, h1, h2, h3, R1, R2, R3, S⟩ hd ha
      refine wpList_load_h rfl (.tmp 15) rfl g 0 (eval_out (by decide) a15) q1 (row_range R2) ?_
      exact ⟨_, puts_put _ 56 _ _ f (by decide), fun _ => rfl, h1, h2, h3, R1, R2, R3, S⟩
    · rintro δ f w' ⟨h0, h1, h2, h3, R1, R2, R3, S⟩ hd ha
      refine wpList_load_h rfl (.tmp 16) rfl (g + 1) 0 (eval_out (by decide) a16) q2 (row_range R3) ?_
      exact ⟨_, puts_put _ 57 _ _ f (by decide), h0, fun _ => rfl, h2, h3, R1, R2, R3, S⟩
    · rintro δ f w' ⟨h0, h1, h2, h3, R1, R2, R3, S⟩ hd ha
      refine wpList_load_h rfl (.tmp 13) rfl z 0 (eval_out (by decide) a13) l (row_range R1) ?_
      exact ⟨_, puts_put _ 58 _ _ f (by decide), h0, h1, fun _ => rfl, h3, R1, R2, R3, S⟩
    · rintro δ f w' ⟨h0, h1, h2, h3, R1, R2, R3, S⟩ hd ha
      refine wpList_refnode rfl (.tmp 57) (.tmp 58) rfl (eval_in (by rw [a1]; decide) (by decide) (h1 (ha.1 rfl))) (eval_in (by rw [a1]; decide) (by decide) (h2 (ha.2.1 rfl))) ?_
      intro w'' hb
      exact ⟨_, puts_put _ 59 _ _ f (by decide), h0, h1, h2, fun _ => rfl, R1.belowAll hb, R2.belowAll hb, R3.belowAll hb, S.below hb⟩
    · rintro δ f w' ⟨h0, h1, h2, h3, R1, R2, R3, S⟩ hd ha
      refine wpList_store_is rfl 24 (.tmp 10) (.tmp 56) rfl (w.heap.size + 1) 32 (U8 q1) _ (eval_out (by decide) a10) (eval_in (by rw [a1]; decide) (by decide) (h0 (ha.1 rfl))) 24 S.r1 (by kernel_rfl) (fun _ _ => rfl) ?_
      exact ⟨f, puts_none _ _ _ _, h0, h1, h2, h3, R1.farRow (by omega) _, R2.farRow (by omega) _, R3.farRow (by omega) _, S.set1 (U8 q1)⟩
    · rintro δ f w' ⟨h0, h1, h2, h3, R1, R2, R3, S⟩ hd ha
      refine wpList_store_is rfl 24 (.tmp 11) (.tmp 59) rfl (w.heap.size + 1 + 1) 32 (U8 (nodeS q2 l)) _ (eval_out (by decide) a11) (eval_in (by rw [a1]; decide) (by decide) (h3 (ha.1 rfl))) 24 S.r2 (by kernel_rfl) (fun _ _ => rfl) ?_
      exact ⟨f, puts_none _ _ _ _, h0, h1, h2, h3, R1.farRow (by omega) _, R2.farRow (by omega) _, R3.farRow (by omega) _, S.set2 (U8 (nodeS q2 l))⟩
  · rintro δ f w' hall ⟨-, -, -, -, -, -, -, S⟩
    have h4 := hall 4 (by decide)
    have h5 := hall 5 (by decide)
    rw [h4, h5] at S
    exact HQ f w' S
end
end Go.Proofs.Ytijhdfllffkfjaa
