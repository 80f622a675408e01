/- Growth that is checked: the walking closure, its other half. -/
import Derived.Test.YtijhdfllffkfjaaTrO
namespace Go.Proofs.Ytijhdfllffkfjaa
open Go.RowKit
section
variable {w : World} {br bp ba bk bt bw : Nat} {a : Option Addr} {cap : Nat} {H : List HF} {root : HF} {t t1 : Nat} {q1 q2 : HF}
set_option maxHeartbeats 8000000 in
set_option maxRecDepth 100000 in
theorem cwalk_hi {n m k : Nat} {whole : Bool} (h : CkSt w br bp ba bk bt bw a cap H root t) (h2 : 2 ≤ n) (hn : n ≤ 9223372036854775807) (hk : halfN n = k) (hm : k < m) (hmn : m < n)
    (h1 : ∀ W, CkSt W br bp ba bk bt bw a cap H root t → Calls Try.prog 59 #[.int .i64 ((n : Int) - (k : Int)), .int .i64 ((m : Int) - (k : Int)), .bool false, .pointer (some ⟨br, 0, none⟩), .pointer (some ⟨bt, 0, none⟩), .pointer (some ⟨bw, 0, none⟩)] W (WEnd W br bp ba bk bt bw a cap H root t1 (q1, q2))) :
    Calls Try.prog 59 #[.int .i64 (n : Int), .int .i64 (m : Int), .bool whole, .pointer (some ⟨br, 0, none⟩), .pointer (some ⟨bt, 0, none⟩), .pointer (some ⟨bw, 0, none⟩)] w (WEnd w br bp ba bk bt bw a cap H root (t1 + 1) (nodeS (hg H t1) q1, nodeS (hg H t1) q2)) := by
  obtain ⟨k1, k2, k3⟩ := halfN_lt h2
  rw [hk] at k1 k2 k3
  have HK := Lib.hid hk
  have n0 : ((m : Int) == (n : Int)) = false := by simp; omega
  have n4 : decide ((m : Int) ≤ (k : Int)) = false := decide_eq_false (by omega)
  have n5 : decide (m ≤ k) = false := decide_eq_false (by omega)
  obtain ⟨w0, hw0, S0⟩ := h.start
  clear h hk
  have H1 := Lib.hid h1
  clear h1
  have hfw := S0.st.fw
  have S0 := Lib.hid S0
  unfold wFn at hfw
  go_enter Try.func59, Try.ntmps59
  go_upto_region 1 with ((with_reducible refine wpList_alloc_is ?_ 24 ?_ 32 (.int .u8 0) ?_ ?_); rfl; rfl; kernel_rfl; (try simp only [World.size_alloc]))
  rw [hw0]
  clear hw0
  go_wp2_with fail
  refine (half_any h2 (by omega)).mono ?_
  rintro e w1 ⟨rfl, hw⟩
  obtain rfl := hw.symm
  rw [HK.out]
  clear n0 hw
  go_wp2_with fail
  refine (H1.out _ S0.out.st).mono ?_
  rintro e w2 he
  have S2 := S0.out.moved he.2.1.tk he.2.2
  obtain ⟨rfl, -, -⟩ := he
  clear S0 H1 hfw
  have r9 := S2.r1
  have r10 := (S2.set1 (U8 q1)).r2
  have S3 := Lib.hid ((S2.set1 (U8 q1)).set2 (U8 q2))
  clear S2
  go_upto_region 11 with (first | ((with_reducible refine wpList_store_is ?_ 24 (.tmp 9) (.tmp 51) ?_ w.heap.size 32 (U8 q1) _ ?_ ?_ 24 r9 ?_ ?_ ?_); rfl; rfl; rfl; rfl; kernel_rfl; exact fun _ _ => rfl) | ((with_reducible refine wpList_store_is ?_ 24 (.tmp 10) (.tmp 52) ?_ (w.heap.size + 1) 32 (U8 q2) _ ?_ ?_ 24 r10 ?_ ?_ ?_); rfl; rfl; rfl; rfl; kernel_rfl; exact fun _ _ => rfl))
  clear r9 r10 n4 n5
  replace S3 := S3.out
  generalize (w2.setRow w.heap.size (arr 32 (U8 q1))).setRow (w.heap.size + 1) (arr 32 (U8 q2)) = w3 at *
  have hlt : bw < w.heap.size := S3.lt
  have hft := S3.st.ft
  unfold tFn at hft
  have S3 := Lib.hid S3
  go_wp2_with fail
  refine (take_any S3.out.st.tk).mono ?_
  rintro e w4 ⟨rfl, hT, hK⟩
  have S4 := S3.out.moved hT hK
  clear S3 hft hT hK
  generalize hg H t1 = y at *
  have S5 := S4.below ((Below.refl _ _).alloc (Nat.le_refl _) (.cells (arr 32 fun _ => .int .u8 0) 24))
  have r5 := Row.newArr w4 24 32 (fun _ => .int .u8 0)
  have S6 := S5.far S4.size (arr 32 (U8 y))
  have r6 := r5.setRow (U8 y)
  have hz := S4.size
  clear S4 S5
  have S6 := Lib.hid S6
  have r6 := Lib.hid r6
  go_upto_region 12 with (first | ((with_reducible refine wpList_alloc_is ?_ 24 ?_ 32 (.int .u8 0) ?_ ?_); rfl; rfl; kernel_rfl) | ((with_reducible refine wpList_store_is ?_ 24 (.tmp 13) (.tmp 54) ?_ w4.heap.size 32 (U8 y) _ ?_ ?_ 24 r5 ?_ ?_ ?_); rfl; rfl; rfl; rfl; kernel_rfl; exact fun _ _ => rfl))
  clear r5
  generalize ((w4.alloc (.cells (arr 32 fun _ => .int .u8 0) 24)).setRow w4.heap.size (arr 32 (U8 y))) = w5 at *
  replace S6 := S6.out
  replace r6 := r6.out
  generalize w4.heap.size = g at *
  refine wp_forget3 [55, 56, 57, 58, 59, 60] (fun act => act.tmps.size = 61 ∧ act.tmps.getD 9 undef = .pointer (some ⟨w.heap.size, 0, none⟩) ∧ act.tmps.getD 10 undef = .pointer (some ⟨w.heap.size + 1, 0, none⟩) ∧ act.tmps.getD 13 undef = .pointer (some ⟨g, 0, none⟩) ∧ act.defers = []) (fun x => x.tmps.getD 9 undef = .pointer (some ⟨w.heap.size, 0, none⟩) ∧ x.tmps.getD 10 undef = .pointer (some ⟨w.heap.size + 1, 0, none⟩) ∧ x.defers = []) (fun _ w' => WSt w br bp ba bk bt bw a cap H root (t1 + 1) (U8 (nodeS y q1)) (U8 (nodeS y q2)) w') ⟨rfl, rfl, rfl, rfl, rfl⟩ (fun f => ⟨out_of (by decide) rfl, out_of (by decide) rfl, (puts_defers _ _ _).trans rfl⟩) ?_ ?_
  · rintro x f w' ⟨x1, x2, xd⟩ S
    apply_assumption
    exact wp_ret (S.ret x1 x2 xd)
  rintro act Q' ⟨a1, a9, a10, a13, ad⟩ HQ
  refine wp_region_inv [55, 56, 57, 58, 59, 60] (fun δ f w' => (δ 0 = true → f 55 = .agg (arr 32 (U8 y))) ∧ (δ 1 = true → f 56 = .agg (arr 32 (U8 q1))) ∧ (δ 2 = true → f 57 = .agg (arr 32 (U8 (nodeS y q1)))) ∧ (δ 3 = true → f 58 = .agg (arr 32 (U8 y))) ∧ (δ 4 = true → f 59 = .agg (arr 32 (U8 q2))) ∧ (δ 5 = true → f 60 = .agg (arr 32 (U8 (nodeS y q2)))) ∧
    (δ 2 = true → δ 1 = true) ∧ (δ 6 = true → δ 2 = true) ∧ (δ 5 = true → δ 4 = true) ∧ (δ 7 = true → δ 5 = true) ∧ Row w' g 24 32 (U8 y) ∧
    WSt w br bp ba bk bt bw a cap H root (t1 + 1) (sel (δ 6) (U8 (nodeS y q1)) (U8 q1)) (sel (δ 7) (U8 (nodeS y q2)) (U8 q2)) w') (by kernel_rfl) (by kernel_rfl) ?_ ?_ ?_
  · exact ⟨fun e => Bool.noConfusion e, fun e => Bool.noConfusion e, fun e => Bool.noConfusion e, fun e => Bool.noConfusion e, fun e => Bool.noConfusion e, fun e => Bool.noConfusion e, fun e => Bool.noConfusion e, fun e => Bool.noConfusion e, fun e => Bool.noConfusion e, fun e => Bool.noConfusion e, r6, S6.drew⟩
  · refine ⟨?_, ?_, ?_, ?_, ?_, ?_, ?_, ?_, trivial⟩
    · rintro δ f w' ⟨h0, h1, h2, h3, h4, h5, i1, i2, i3, i4, hr, S⟩ hd -
      refine wpList_load_h rfl (.tmp 13) rfl g 0 (eval_out (by decide) a13) y (row_range hr) ?_
      exact ⟨_, puts_put _ 55 _ _ f (by decide), fun _ => rfl, h1, h2, h3, h4, h5, i1, i2, i3, i4, hr, S⟩
    · rintro δ f w' ⟨h0, h1, h2, h3, h4, h5, i1, i2, i3, i4, hr, S⟩ hd -
      have hd6 : δ 6 = false := by cases h : δ 6 with | false => rfl | true => rw [i1 (i2 h)] at hd; cases hd
      have S' := S
      rw [hd6] at S'
      refine wpList_load_h rfl (.tmp 9) rfl w.heap.size 0 (eval_out (by decide) a9) q1 (row_range S'.r1) ?_
      exact ⟨_, puts_put _ 56 _ _ f (by decide), h0, fun _ => rfl, h2, h3, h4, h5, fun _ => rfl, i2, i3, i4, hr, S⟩
    · rintro δ f w' ⟨h0, h1, h2, h3, h4, h5, i1, i2, i3, i4, hr, S⟩ hd ha
      refine wpList_node rfl (.tmp 55) (.tmp 56) rfl (eval_in (by rw [a1]; decide) (by decide) (h0 (ha.1 rfl))) (eval_in (by rw [a1]; decide) (by decide) (h1 (ha.2.1 rfl))) ?_
      intro w'' hb
      exact ⟨_, puts_put _ 57 _ _ f (by decide), h0, h1, fun _ => rfl, h3, h4, h5, fun _ => ha.2.1 rfl, fun _ => rfl, i3, i4, hr.belowAll hb, S.below hb⟩
    · rintro δ f w' ⟨h0, h1, h2, h3, h4, h5, i1, i2, i3, i4, hr, S⟩ hd ha
      refine wpList_load_h rfl (.tmp 13) rfl g 0 (eval_out (by decide) a13) y (row_range hr) ?_
      exact ⟨_, puts_put _ 58 _ _ f (by decide), h0, h1, h2, fun _ => rfl, h4, h5, i1, i2, i3, i4, hr, S⟩
    · rintro δ f w' ⟨h0, h1, h2, h3, h4, h5, i1, i2, i3, i4, hr, S⟩ hd ha
      have hd7 : δ 7 = false := by cases h : δ 7 with | false => rfl | true => rw [i3 (i4 h)] at hd; cases hd
      have S' := S
      rw [hd7] at S'
      refine wpList_load_h rfl (.tmp 10) rfl (w.heap.size + 1) 0 (eval_out (by decide) a10) q2 (row_range S'.r2) ?_
      exact ⟨_, puts_put _ 59 _ _ f (by decide), h0, h1, h2, h3, fun _ => rfl, h5, i1, i2, fun _ => rfl, i4, hr, S⟩
    · rintro δ f w' ⟨h0, h1, h2, h3, h4, h5, i1, i2, i3, i4, hr, S⟩ hd ha
      have q3 : f 58 = .agg (arr 32 (U8 y)) := h3 (ha.1 rfl)
      have q4 : δ 4 = true := ha.2.1 rfl
      refine wpList_node rfl (.tmp 58) (.tmp 59) rfl (eval_in (by rw [a1]; decide) (by decide) q3) (eval_in (by rw [a1]; decide) (by decide) (h4 q4)) ?_
      intro w'' hb
      exact ⟨_, puts_put _ 60 _ _ f (by decide), h0, h1, h2, h3, h4, fun _ => rfl, i1, i2, fun _ => q4, fun _ => rfl, hr.belowAll hb, S.below hb⟩
    · rintro δ f w' ⟨h0, h1, h2, h3, h4, h5, i1, i2, i3, i4, hr, S⟩ hd ha
      refine wpList_store_is rfl 24 (.tmp 9) (.tmp 57) rfl w.heap.size 32 (U8 (nodeS y q1)) _ (eval_out (by decide) a9) (eval_in (by rw [a1]; decide) (by decide) (h2 (ha.1 rfl))) 24 S.r1 (by kernel_rfl) (fun _ _ => rfl) ?_
      exact ⟨f, puts_none _ _ _ _, h0, h1, h2, h3, h4, h5, i1, fun _ => ha.1 rfl, i3, i4, hr.farRow (by omega) _, S.set1 (U8 (nodeS y q1))⟩
    · rintro δ f w' ⟨h0, h1, h2, h3, h4, h5, i1, i2, i3, i4, hr, S⟩ hd ha
      refine wpList_store_is rfl 24 (.tmp 10) (.tmp 60) rfl (w.heap.size + 1) 32 (U8 (nodeS y q2)) _ (eval_out (by decide) a10) (eval_in (by rw [a1]; decide) (by decide) (h5 (ha.1 rfl))) 24 S.r2 (by kernel_rfl) (fun _ _ => rfl) ?_
      exact ⟨f, puts_none _ _ _ _, h0, h1, h2, h3, h4, h5, i1, i2, i3, fun _ => ha.1 rfl, hr.farRow (by omega) _, S.set2 (U8 (nodeS y q2))⟩
  · rintro δ f w' hall ⟨-, -, -, -, -, -, -, -, -, -, -, S⟩
    have h6 := hall 6 (by decide)
    have h7 := hall 7 (by decide)
    rw [h6, h7] at S
    exact HQ f w' S
end
end Go.Proofs.Ytijhdfllffkfjaa
