/- TreeBent returns true for all numbers, and its arguments read behind the call as before. No condition. -/
import Derived.Test.YtijhdfllffkfjaaTw2
namespace Go.Proofs.Ytijhdfllffkfjaa
open Go.ChangeShapes Go.WideShapes Go.ChangeAt Go.RowKit
attribute [local go_sem] bareOp

theorem open_five {P : Program} {w : World} {r : Reach} {b0 : Nat} {t e : TypeId} {v : Value} (ht : P.underlying t = some (.array 5 e)) (he : P.underlying e = some (.int .i64)) (hc : P.cellsOf t = 5) (hk : P.cellTypes P.depth t = some [e, e, e, e, e])
    (hval : Value.okWide P w r b0 t v) : ∃ a b c d f : Int, v = .agg #[.int .i64 a, .int .i64 b, .int .i64 c, .int .i64 d, .int .i64 f] ∧ In64 a ∧ In64 b ∧ In64 c ∧ In64 d ∧ In64 f := by
  obtain ⟨f, rfl, h⟩ := open_nums ht he hc hk hval
  exact ⟨f 0, f 1, f 2, f 3, f 4, rfl, has64 (h 0 (by omega)), has64 (h 1 (by omega)), has64 (h 2 (by omega)), has64 (h 3 (by omega)), has64 (h 4 (by omega))⟩
def Box5 (w : World) (g : Nat) (a b c d e : Int) : Prop := w.heap[g]? = some (.cells #[.int .i64 a, .int .i64 b, .int .i64 c, .int .i64 d, .int .i64 e] 56 (0, 0))
theorem Box5.at_ {B : Nat} {w w' : World} {g : Nat} {a b c d e : Int} (h : Box5 w g a b c d e) (hb : Below B w w') (hg : g < B) : Box5 w' g a b c d e := (hb.block g hg).trans h
theorem Box5.lt {w : World} {g : Nat} {a b c d e : Int} (h : Box5 w g a b c d e) : g < w.heap.size := (Array.getElem?_eq_some_iff.1 h).1
theorem Box5.below {w w' : World} {g : Nat} {a b c d e : Int} (h : Box5 w g a b c d e) (hb : Below w.heap.size w w') : Box5 w' g a b c d e := h.at_ hb h.lt
theorem Box5.cells {w : World} {g : Nat} {a b c d e : Int} (h : Box5 w g a b c d e) : w.cell? ⟨g, 0, none⟩ = some (.int .i64 a) ∧ w.cell? ⟨g, 1, none⟩ = some (.int .i64 b) ∧ w.cell? ⟨g, 2, none⟩ = some (.int .i64 c) ∧ w.cell? ⟨g, 3, none⟩ = some (.int .i64 d) ∧ w.cell? ⟨g, 4, none⟩ = some (.int .i64 e) :=
  ⟨by rw [cell_of_row w g 0 _ _ (0, 0) h]; rfl, by rw [cell_of_row w g 1 _ _ (0, 0) h]; rfl, by rw [cell_of_row w g 2 _ _ (0, 0) h]; rfl, by rw [cell_of_row w g 3 _ _ (0, 0) h]; rfl, by rw [cell_of_row w g 4 _ _ (0, 0) h]; rfl⟩
theorem heads_made (w : World) (n : Int) (f : HF) (m : Int) (g : HF) : ∃ w', (((w.alloc (.cells (hd 0 fun _ => 0) 36)).alloc (.cells (hd 0 fun _ => 0) 36)).setRow w.heap.size (hd n f)).setRow (w.heap.size + 1) (hd m g) = w' ∧
    HeadAt w' w.heap.size n f ∧ HeadAt w' (w.heap.size + 1) m g ∧ Below w.heap.size w w' ∧ w'.heap.size = w.heap.size + 2 := by
  have h0 : ((w.alloc (.cells (hd 0 fun _ => 0) 36)).alloc (.cells (hd 0 fun _ => 0) 36)).heap[w.heap.size]? = some (.cells (hd 0 fun _ => 0) 36 (0, 0)) := by
    rw [Below.heap_alloc _ _ _ (by simp)]; exact heap_alloc_new _ _
  have h1 : ((w.alloc (.cells (hd 0 fun _ => 0) 36)).alloc (.cells (hd 0 fun _ => 0) 36)).heap[w.heap.size + 1]? = some (.cells (hd 0 fun _ => 0) 36 (0, 0)) := by
    rw [show w.heap.size + 1 = (w.alloc (.cells (hd 0 fun _ => 0) 36)).heap.size by simp]; exact heap_alloc_new _ _
  refine ⟨_, rfl, (HeadAt.set h0).farRow (by omega) _, HeadAt.set (t := 36) (m := 0) (g := fun _ => 0) (by rw [setRow_other _ _ _ _ (by omega)]; exact h1), ?_, by simp⟩
  exact Below.setRow (Below.setRow (((Below.refl _ _).alloc (Nat.le_refl _) _).alloc (by simp) _) (Nat.le_refl _) _) (by omega) _
theorem ptr_inj {g g' : Nat} (h : (Value.pointer (some ⟨g, 0, none⟩)) = .pointer (some ⟨g', 0, none⟩)) : g = g' := by
  injection h with h
  injection h with h
  injection h
/-- one answer of the program and of the reference -/
theorem agree_two {w : World} {a b : Int} {f g : HF} {v : Value} {H : List HF} (hb : b ≤ 9223372036854775807) (hH : HSlice w v H) : ∃ c : Bool, ∀ e : Ext w, (Calls Try.prog 32 #[.agg (hd a f), .agg (hd b g), v] e.at fun x w' => x = .returned (.bool c) ∧ Below e.at.heap.size e.at w') ∧
    (Calls Try.prog 35 #[.agg (hd a f), .agg (hd b g), v] e.at fun x w' => x = .returned (.bool c) ∧ Below e.at.heap.size e.at w') :=
  ⟨_, fun e => ⟨grows_any hb (hH.below e.below), refgrows_any hb (hH.below e.below)⟩⟩
theorem two_made (w : World) (z : PT) : ∃ w', (w.alloc (.cells (two 0 (fun _ => 0) 0 fun _ => 0) 57)).setRow w.heap.size (tw z) = w' ∧ w'.rangeAt w.heap.size 0 (hd z.1 z.2.1).toList ∧ w'.rangeAt w.heap.size 33 (hd z.2.2.1 z.2.2.2).toList ∧ Below w.heap.size w w' ∧ w.heap.size < w'.heap.size := by
  have hset : ((w.alloc (.cells (two 0 (fun _ => 0) 0 fun _ => 0) 57)).setRow w.heap.size (tw z)).heap[w.heap.size]? = some (.cells (tw z) 57 (0, 0)) := setRow_heap _ _ _ _ _ _ (heap_alloc_new w _)
  obtain ⟨r1, r2⟩ := two_heads hset
  exact ⟨_, rfl, r1, r2, Below.setRow ((Below.refl _ _).alloc (Nat.le_refl _) _) (Nat.le_refl _) _, (Array.getElem?_eq_some_iff.1 hset).1⟩
theorem wpList_store_two0 {ops : Array Oper} {rest : List Oper} {o : Oper} {a : Act} {w : World} {Q : Exit → Act → World → Prop} (hgd : o.guard = none) (x y : Operand) (ho : o.op = .store 57 x y) (g : Nat) (z : PT) (t : TypeId) (hx : a.eval x = .pointer (some ⟨g, 0, none⟩)) (hy : a.eval y = .agg (tw z)) (hg : w.heap[g]? = some (.cells (two 0 (fun _ => 0) 0 fun _ => 0) t (0, 0)))
    (h : wpList Try.prog ops Q rest (a.put o.dst undef) (w.setRow g (tw z))) : wpList Try.prog ops Q (o :: rest) a w := wpList_store_two hgd x y ho g z t hx hy (0, (fun _ => 0), 0, fun _ => 0) hg h
def zf : HF := fun _ => 0
theorem put_no (a : Act) (v : Value) : a.put none v = a := rfl
set_option maxHeartbeats 8000000 in
set_option maxRecDepth 100000 in
theorem bentlaw_walk {v : Value} {l : List UInt8} {w : World} (hv0 : BSlice w v l) (x : UInt8) (q0 q1 q2 q3 q4 : Int) (_i0 : In64 q0) (_i1 : In64 q1) (_i2 : In64 q2) (_i3 : In64 q3) (_i4 : In64 q4) :
    Calls Try.prog 9 #[v, .int .u8 (ub x), .agg #[.int .i64 q0, .int .i64 q1, .int .i64 q2, .int .i64 q3, .int .i64 q4]] w (Said true w) := by
  obtain ⟨L, hLe⟩ : ∃ L, strS l = L := ⟨_, rfl⟩
  have hL20 : L.length ≤ 20 := by rw [← hLe, strS_length]; omega
  have hf : Fits L := by rw [← hLe]; exact strS_fits l
  have HV := Lib.hid hv0
  have HLE := Lib.hid hLe
  clear hv0 hLe
  unfold In64 at _i2 _i3
  have ux0 := ub_nonneg x
  have ux1 := ub_lt x
  have X0 : Box5 (w.alloc (.cells #[.int .i64 q0, .int .i64 q1, .int .i64 q2, .int .i64 q3, .int .i64 q4] 56)) w.heap.size q0 q1 q2 q3 q4 := heap_alloc_new _ _
  have hB0 := (Below.refl w.heap.size w).alloc (Nat.le_refl _) (.cells #[.int .i64 q0, .int .i64 q1, .int .i64 q2, .int .i64 q3, .int .i64 q4] 56)
  obtain ⟨len, hlen⟩ : ∃ len, L.length = len := ⟨_, rfl⟩
  rw [hlen] at hL20
  obtain ⟨k, hk, hkx, hkt⟩ := ub_mod x (len + 1) (by omega)
  rw [show ((len + 1 : Nat) : Int) = (len : Int) + 1 by omega] at hkx hkt
  obtain ⟨ra, hra⟩ : ∃ ra, rootS L = ra := ⟨_, rfl⟩
  obtain ⟨rk, hrk⟩ : ∃ rk, rootS (L.take k) = rk := ⟨_, rfl⟩
  obtain ⟨m2, hm2⟩ : ∃ m2, IntKind.i64.wrap ((k : Int) + q2) = m2 := ⟨_, rfl⟩
  have hm2w : wrap64 ((k : Int) + q2) = m2 := by rw [← hm2, IntKind.wrap_i64]; unfold wrap64; omega
  obtain ⟨m3, hm3⟩ : ∃ m3, IntKind.i64.wrap ((len : Int) + q3) = m3 := ⟨_, rfl⟩
  have hm3w : wrap64 ((len : Int) + q3) = m3 := by rw [← hm3, IntKind.wrap_i64]; unfold wrap64; omega
  have hm3b : m3 ≤ 9223372036854775807 := by rw [← hm3, IntKind.wrap_i64]; omega
  have P2 : Hid (∀ W v, SSlice W v L → Calls Try.prog 31 #[v, .int .i64 (k : Int)] W (ListB W (growthS L k) true)) := fun W v hs => by
    have := refgrowth_list (n := (k : Int)) hf (by omega) hs
    rwa [growL_nat (by omega), growO_nat (by omega)] at this
  have GB : Hid ((growthS L k).length ≤ 1000) := by
    refine Lib.hid ?_
    unfold growthS
    split
    · exact Nat.zero_le _
    · rw [growS_len _ L k true (Nat.le_refl _)]
      have := manyS_64 (m := k) (n := L.length) (whole := true) (by omega)
      omega
  have HH1 : Hid (∀ W a cap, SSlice W (.slice a len cap) L → Calls Try.prog 22 #[.slice a k cap] W (HeadEnd W (k : Int) rk)) := fun W a cap hs => by
    have := headof_any (sslice_cut hs hlen k (by omega)) (hf.take k)
    rwa [show (L.take k).length = k by rw [List.length_take]; omega, hrk] at this
  have HH2 : Hid (∀ W v, SSlice W v L → Calls Try.prog 22 #[v] W (HeadEnd W (len : Int) ra)) := fun W v hs => by
    have := headof_any hs hf
    rwa [hlen, hra] at this
  have HN := Lib.hid hlen
  replace X0 := Lib.hid X0
  have M2 := Lib.hid hm2
  have M2w := Lib.hid hm2w
  have M3 := Lib.hid hm3
  have M3w := Lib.hid hm3w
  clear hlen hra hrk hm2 hm2w hm3 hm3w
  generalize growthS L k = GL at *
  go_enter Try.func9, Try.ntmps9
  go_wp2_with fail
  refine sanity_any.mono ?_
  rintro e w1 ⟨rfl, hb1⟩
  have X1 := Lib.hid (X0.out.below hb1)
  have hB1 := hB0.trans (hb1.mono hB0.size)
  have HV1 := Lib.hid (HV.out.below hB1)
  clear X0 hB0 hb1 HV
  go_wp2_with fail
  refine (strings_any HV1.out).mono ?_
  rintro e w2 ⟨s, rfl, hs, hb2⟩
  rw [HLE.out] at hs
  have hB2 := hB1.trans (hb2.mono hB1.size)
  have hs2 := hs.slice
  obtain ⟨a, cap, hse, c1, c2, -⟩ := sslice_form hs2
  rw [HN.out] at hse c1
  rw [hse] at hs2 ⊢
  have HS := Lib.hid hs2
  have X2 := Lib.hid (X1.out.below hb2)
  clear hs hb2 hse hs2 hB1 X1 HV1
  go_wp2_with fail
  refine (P2.out _ _ HS.out).mono ?_
  rintro e w3 ⟨p, rfl, hpp, hb3⟩
  have HS3 := Lib.hid (HS.out.below hb3)
  have HP := Lib.hid hpp
  have X3 := Lib.hid (X2.out.below hb3)
  have hB3 := hB2.trans (hb3.mono hB2.size)
  obtain ⟨pa, pc, hpe, -⟩ := hpp.form
  rw [hpe] at HP ⊢
  clear HS X2 hB2 hb3 hpp hpe P2
  go_wp2_with fail
  refine (HH1.out _ _ _ HS3.out).mono ?_
  rintro e w4 ⟨rfl, hb4⟩
  have HS4 := Lib.hid (HS3.out.below hb4)
  replace HP := Lib.hid (HP.out.below hb4)
  have X4 := Lib.hid (X3.out.below hb4)
  have hB4 := hB3.trans (hb4.mono hB3.size)
  clear HS3 X3 hB3 hb4 HH1
  go_wp2_with fail
  refine (HH2.out _ _ HS4.out).mono ?_
  rintro e w5 ⟨rfl, hb5⟩
  obtain ⟨v5, hv5, K12, K13, hk5, z5⟩ := heads_made w5 (k : Int) rk (len : Int) ra
  have E5 := hb5.trans (hk5.mono hb5.size)
  replace HP := Lib.hid (HP.out.below E5)
  have X5 := Lib.hid (X4.out.below E5)
  have hB5 := hB4.trans (E5.mono hB4.size)
  have hh0 : ((w5.alloc (.cells (hd 0 fun _ => 0) 36)).alloc (.cells (hd 0 fun _ => 0) 36)).heap[w5.heap.size]? = some (.cells (hd 0 fun _ => 0) 36 (0, 0)) := by
    rw [Below.heap_alloc _ _ _ (by simp)]; exact heap_alloc_new _ _
  have hh1 : (((w5.alloc (.cells (hd 0 fun _ => 0) 36)).alloc (.cells (hd 0 fun _ => 0) 36)).setRow w5.heap.size (hd (k : Int) rk)).heap[w5.heap.size + 1]? = some (.cells (hd 0 fun _ => 0) 36 (0, 0)) := by
    rw [setRow_other _ _ _ _ (by omega), show w5.heap.size + 1 = (w5.alloc (.cells (hd 0 fun _ => 0) 36)).heap.size by simp]; exact heap_alloc_new _ _
  replace K12 := Lib.hid K12
  replace K13 := Lib.hid K13
  replace hh0 := Lib.hid hh0
  replace hh1 := Lib.hid hh1
  go_upto_region 6 with (first | (refine wpList_alloc_cs rfl 36 rfl _ Try.infoHead ?_; (try simp only [World.size_alloc])) | ((with_reducible refine wpList_store_head ?_ (.tmp 12) (.tmp 39) ?_ w5.heap.size (k : Int) 0 rk _ 36 ?_ ?_ hh0.out ?_); rfl; rfl; rfl; rfl) | ((with_reducible refine wpList_store_head ?_ (.tmp 13) (.tmp 41) ?_ (w5.heap.size + 1) (len : Int) 0 ra _ 36 ?_ ?_ hh1.out ?_); rfl; rfl; rfl; rfl))
  rw [hv5]
  obtain ⟨g13, hg13⟩ : ∃ g, w5.heap.size + 1 = g := ⟨_, rfl⟩
  have l12 : w5.heap.size < v5.heap.size := by omega
  have l13 : g13 < v5.heap.size := by omega
  have h1213 : w5.heap.size ≠ g13 := by omega
  replace K13 := K13.out
  rw [hg13] at K13 ⊢
  replace K13 := Lib.hid K13
  clear HS4 X4 hB4 hb5 hk5 hv5 hh0 hh1 E5 z5 hg13 HH2
  generalize w5.heap.size = g12 at *
  generalize v5 = w6 at *
  refine wp_forget5 [42, 43, 44, 14, 15, 16] (fun act => act.tmps.size = 125 ∧ act.tmps.getD 12 undef = .pointer (some ⟨g12, 0, none⟩) ∧ act.tmps.getD 13 undef = .pointer (some ⟨g13, 0, none⟩)) (fun f w' => ∃ g14 g15 g16 : Nat, f 14 = .pointer (some ⟨g14, 0, none⟩) ∧ f 15 = .pointer (some ⟨g15, 0, none⟩) ∧ f 16 = .pointer (some ⟨g16, 0, none⟩) ∧ g14 ≠ g15 ∧ g14 ≠ g16 ∧ g15 ≠ g16 ∧ w6.heap.size ≤ g14 ∧ w6.heap.size ≤ g15 ∧ w6.heap.size ≤ g16 ∧ HeadAt w' g14 (k : Int) rk ∧ HeadAt w' g15 (len : Int) ra ∧ HeadAt w' g16 (k : Int) rk ∧ Below w6.heap.size w6 w') ⟨rfl, rfl, rfl⟩ ?_ ?_
  · rintro act Q' ⟨a1, a12, a13⟩ HQ
    refine wp_region_inv [42, 43, 44, 14, 15, 16] (fun δ f w' => (δ 0 = true → f 42 = .agg (hd (k : Int) rk)) ∧ (δ 1 = true → f 43 = .agg (hd (len : Int) ra)) ∧ (δ 2 = true → f 44 = .agg (hd (k : Int) rk)) ∧
      (δ 3 = true → ∃ g, f 14 = .pointer (some ⟨g, 0, none⟩) ∧ w6.heap.size ≤ g ∧ HeadAt w' g (bif δ 6 then (k : Int) else 0) (bif δ 6 then rk else zf)) ∧ (δ 4 = true → ∃ g, f 15 = .pointer (some ⟨g, 0, none⟩) ∧ w6.heap.size ≤ g ∧ HeadAt w' g (bif δ 7 then (len : Int) else 0) (bif δ 7 then ra else zf)) ∧ (δ 5 = true → ∃ g, f 16 = .pointer (some ⟨g, 0, none⟩) ∧ w6.heap.size ≤ g ∧ HeadAt w' g (bif δ 8 then (k : Int) else 0) (bif δ 8 then rk else zf)) ∧
      (δ 3 = true → δ 4 = true → f 14 ≠ f 15) ∧ (δ 3 = true → δ 5 = true → f 14 ≠ f 16) ∧ (δ 4 = true → δ 5 = true → f 15 ≠ f 16) ∧ (δ 6 = true → δ 3 = true) ∧ (δ 7 = true → δ 4 = true) ∧ (δ 8 = true → δ 5 = true) ∧ Below w6.heap.size w6 w') (by kernel_rfl) (by kernel_rfl) ?_ ?_ ?_
    · exact ⟨fun e => Bool.noConfusion e, fun e => Bool.noConfusion e, fun e => Bool.noConfusion e, fun e => Bool.noConfusion e, fun e => Bool.noConfusion e, fun e => Bool.noConfusion e, fun e => Bool.noConfusion e, fun e => Bool.noConfusion e, fun e => Bool.noConfusion e, fun e => Bool.noConfusion e, fun e => Bool.noConfusion e, fun e => Bool.noConfusion e, (Below.refl _ _).drew⟩
    · refine ⟨?_, ?_, ?_, ?_, ?_, ?_, ?_, ?_, ?_, trivial⟩
      · rintro δ f w' ⟨h0, h1, h2, t3, t4, t5, d34, d35, d45, i6, i7, i8, hb⟩ hd' ha
        refine wpList_load_head rfl (.tmp 12) rfl g12 (eval_out (by decide) a12) (k : Int) rk (K12.out.at_ hb l12) ?_
        exact ⟨_, puts_put _ 42 _ _ f (by decide), fun _ => rfl, h1, h2, t3, t4, t5, d34, d35, d45, i6, i7, i8, hb⟩
      · rintro δ f w' ⟨h0, h1, h2, t3, t4, t5, d34, d35, d45, i6, i7, i8, hb⟩ hd' ha
        refine wpList_load_head rfl (.tmp 13) rfl g13 (eval_out (by decide) a13) (len : Int) ra (K13.out.at_ hb l13) ?_
        exact ⟨_, puts_put _ 43 _ _ f (by decide), h0, fun _ => rfl, h2, t3, t4, t5, d34, d35, d45, i6, i7, i8, hb⟩
      · rintro δ f w' ⟨h0, h1, h2, t3, t4, t5, d34, d35, d45, i6, i7, i8, hb⟩ hd' ha
        refine wpList_load_head rfl (.tmp 12) rfl g12 (eval_out (by decide) a12) (k : Int) rk (K12.out.at_ hb l12) ?_
        exact ⟨_, puts_put _ 44 _ _ f (by decide), h0, h1, fun _ => rfl, t3, t4, t5, d34, d35, d45, i6, i7, i8, hb⟩
      · rintro δ f w' ⟨h0, h1, h2, t3, t4, t5, d34, d35, d45, i6, i7, i8, hb⟩ hd' ha
        have n8 : δ 6 = false := by cases h : δ 6 with | false => rfl | true => rw [i6 h] at hd'; cases hd'
        refine wpList_alloc_cs rfl 36 rfl _ Try.infoHead ?_
        refine ⟨_, puts_put _ 14 _ _ f (by decide), h0, h1, h2, fun _ => ⟨w'.heap.size, rfl, hb.size, ?_⟩, fun e => ?_, fun e => ?_, fun _ e => ?_, fun _ e => ?_, d45, fun _ => rfl, i7, i8, hb.alloc hb.size _⟩
        · show HeadAt _ _ (bif δ 6 then (k : Int) else 0) (bif δ 6 then rk else zf)
          rw [n8]; exact HeadAt.new w' 0 zf _
        · obtain ⟨g, e1, e2, e3⟩ := t4 e
          exact ⟨g, e1, e2, e3.alloc _⟩
        · obtain ⟨g, e1, e2, e3⟩ := t5 e
          exact ⟨g, e1, e2, e3.alloc _⟩
        · obtain ⟨g, e1, e2, e3⟩ := t4 e
          have hne := e3.lt
          intro e4
          have := ptr_inj (g := w'.heap.size) (g' := g) (e4.trans e1)
          omega
        · obtain ⟨g, e1, e2, e3⟩ := t5 e
          have hne := e3.lt
          intro e4
          have := ptr_inj (g := w'.heap.size) (g' := g) (e4.trans e1)
          omega
      · rintro δ f w' ⟨h0, h1, h2, t3, t4, t5, d34, d35, d45, i6, i7, i8, hb⟩ hd' ha
        have n8 : δ 7 = false := by cases h : δ 7 with | false => rfl | true => rw [i7 h] at hd'; cases hd'
        refine wpList_alloc_cs rfl 36 rfl _ Try.infoHead ?_
        refine ⟨_, puts_put _ 15 _ _ f (by decide), h0, h1, h2, fun e => ?_, fun _ => ⟨w'.heap.size, rfl, hb.size, ?_⟩, fun e => ?_, fun e _ => ?_, d35, fun _ e => ?_, i6, fun _ => rfl, i8, hb.alloc hb.size _⟩
        · obtain ⟨g, e1, e2, e3⟩ := t3 e
          exact ⟨g, e1, e2, e3.alloc _⟩
        · show HeadAt _ _ (bif δ 7 then (len : Int) else 0) (bif δ 7 then ra else zf)
          rw [n8]; exact HeadAt.new w' 0 zf _
        · obtain ⟨g, e1, e2, e3⟩ := t5 e
          exact ⟨g, e1, e2, e3.alloc _⟩
        · obtain ⟨g, e1, e2, e3⟩ := t3 e
          have hne := e3.lt
          intro e4
          have := ptr_inj (g := g) (g' := w'.heap.size) (e1.symm.trans e4)
          omega
        · obtain ⟨g, e1, e2, e3⟩ := t5 e
          have hne := e3.lt
          intro e4
          have := ptr_inj (g := w'.heap.size) (g' := g) (e4.trans e1)
          omega
      · rintro δ f w' ⟨h0, h1, h2, t3, t4, t5, d34, d35, d45, i6, i7, i8, hb⟩ hd' ha
        have n8 : δ 8 = false := by cases h : δ 8 with | false => rfl | true => rw [i8 h] at hd'; cases hd'
        refine wpList_alloc_cs rfl 36 rfl _ Try.infoHead ?_
        refine ⟨_, puts_put _ 16 _ _ f (by decide), h0, h1, h2, fun e => ?_, fun e => ?_, fun _ => ⟨w'.heap.size, rfl, hb.size, ?_⟩, d34, fun e _ => ?_, fun e _ => ?_, i6, i7, fun _ => rfl, hb.alloc hb.size _⟩
        · obtain ⟨g, e1, e2, e3⟩ := t3 e
          exact ⟨g, e1, e2, e3.alloc _⟩
        · obtain ⟨g, e1, e2, e3⟩ := t4 e
          exact ⟨g, e1, e2, e3.alloc _⟩
        · show HeadAt _ _ (bif δ 8 then (k : Int) else 0) (bif δ 8 then rk else zf)
          rw [n8]; exact HeadAt.new w' 0 zf _
        · obtain ⟨g, e1, e2, e3⟩ := t3 e
          have hne := e3.lt
          intro e4
          have := ptr_inj (g := g) (g' := w'.heap.size) (e1.symm.trans e4)
          omega
        · obtain ⟨g, e1, e2, e3⟩ := t4 e
          have hne := e3.lt
          intro e4
          have := ptr_inj (g := g) (g' := w'.heap.size) (e1.symm.trans e4)
          omega
      · rintro δ f w' ⟨h0, h1, h2, t3, t4, t5, d34, d35, d45, i6, i7, i8, hb⟩ hd' ha
        have dd := ha.1 rfl
        obtain ⟨g, e1, e2, t, hh⟩ := t3 dd
        refine wpList_store_head rfl (.tmp 14) (.tmp 42) rfl g (k : Int) _ rk _ t (eval_in (by rw [a1]; decide) (by decide) e1) (eval_in (by rw [a1]; decide) (by decide) (h0 (ha.2.1 rfl))) hh ?_
        refine ⟨f, puts_none _ _ _ _, h0, h1, h2, fun _ => ⟨g, e1, e2, HeadAt.set hh⟩, fun e => ?_, fun e => ?_, d34, d35, d45, fun _ => dd, i7, i8, Below.setRow hb e2 _⟩
        · obtain ⟨g', e4, e5, e6⟩ := t4 e
          exact ⟨g', e4, e5, e6.farRow (fun hgg => d34 dd e (e1.trans (by rw [← hgg]; exact e4.symm))) _⟩
        · obtain ⟨g', e4, e5, e6⟩ := t5 e
          exact ⟨g', e4, e5, e6.farRow (fun hgg => d35 dd e (e1.trans (by rw [← hgg]; exact e4.symm))) _⟩
      · rintro δ f w' ⟨h0, h1, h2, t3, t4, t5, d34, d35, d45, i6, i7, i8, hb⟩ hd' ha
        have dd := ha.1 rfl
        obtain ⟨g, e1, e2, t, hh⟩ := t4 dd
        refine wpList_store_head rfl (.tmp 15) (.tmp 43) rfl g (len : Int) _ ra _ t (eval_in (by rw [a1]; decide) (by decide) e1) (eval_in (by rw [a1]; decide) (by decide) (h1 (ha.2.1 rfl))) hh ?_
        refine ⟨f, puts_none _ _ _ _, h0, h1, h2, fun e => ?_, fun _ => ⟨g, e1, e2, HeadAt.set hh⟩, fun e => ?_, d34, d35, d45, i6, fun _ => dd, i8, Below.setRow hb e2 _⟩
        · obtain ⟨g', e4, e5, e6⟩ := t3 e
          exact ⟨g', e4, e5, e6.farRow (fun hgg => d34 e dd (e4.trans (by rw [hgg]; exact e1.symm))) _⟩
        · obtain ⟨g', e4, e5, e6⟩ := t5 e
          exact ⟨g', e4, e5, e6.farRow (fun hgg => d45 dd e (e1.trans (by rw [← hgg]; exact e4.symm))) _⟩
      · rintro δ f w' ⟨h0, h1, h2, t3, t4, t5, d34, d35, d45, i6, i7, i8, hb⟩ hd' ha
        have dd := ha.1 rfl
        obtain ⟨g, e1, e2, t, hh⟩ := t5 dd
        refine wpList_store_head rfl (.tmp 16) (.tmp 44) rfl g (k : Int) _ rk _ t (eval_in (by rw [a1]; decide) (by decide) e1) (eval_in (by rw [a1]; decide) (by decide) (h2 (ha.2.1 rfl))) hh ?_
        refine ⟨f, puts_none _ _ _ _, h0, h1, h2, fun e => ?_, fun e => ?_, fun _ => ⟨g, e1, e2, HeadAt.set hh⟩, d34, d35, d45, i6, i7, fun _ => dd, Below.setRow hb e2 _⟩
        · obtain ⟨g', e4, e5, e6⟩ := t3 e
          exact ⟨g', e4, e5, e6.farRow (fun hgg => d35 e dd (e4.trans (by rw [hgg]; exact e1.symm))) _⟩
        · obtain ⟨g', e4, e5, e6⟩ := t4 e
          exact ⟨g', e4, e5, e6.farRow (fun hgg => d45 e dd (e4.trans (by rw [hgg]; exact e1.symm))) _⟩
    · rintro δ f w' hall ⟨-, -, -, t3, t4, t5, d34, d35, d45, -, -, -, hb⟩
      obtain ⟨g14, a1, a2, a3⟩ := t3 (hall 3 (by decide))
      obtain ⟨g15, b1, b2, b3⟩ := t4 (hall 4 (by decide))
      obtain ⟨g16, c1, c2, c3⟩ := t5 (hall 5 (by decide))
      rw [hall 6 (by decide)] at a3
      rw [hall 7 (by decide)] at b3
      rw [hall 8 (by decide)] at c3
      exact HQ f w' ⟨g14, g15, g16, a1, b1, c1, fun h => d34 (hall 3 (by decide)) (hall 4 (by decide)) (a1.trans (by rw [h]; exact b1.symm)), fun h => d35 (hall 3 (by decide)) (hall 5 (by decide)) (a1.trans (by rw [h]; exact c1.symm)), fun h => d45 (hall 4 (by decide)) (hall 5 (by decide)) (b1.trans (by rw [h]; exact c1.symm)), a2, b2, c2, a3, b3, c3, hb⟩
  rintro f w7 ⟨g14, g15, g16, e14, e15, e16, n45, n46, n56, b14, b15, b16, K14, K15, K16, hb7⟩
  rw [show puts _ [42, 43, 44, 14, 15, 16] f = putsR _ [16, 15, 14, 44, 43, 42] f from puts_R _ _ _]
  simp only [putsR, put_no, put_lit, List.set_cons_succ, List.set_cons_zero, e14, e15, e16]
  generalize f 42 = u42
  generalize f 43 = u43
  generalize f 44 = u44
  clear e14 e15 e16
  have HB7 := Lib.hid hb7
  have X7 := Lib.hid (X5.out.below hb7)
  replace K12 := Lib.hid (K12.out.at_ hb7 l12)
  replace K13 := Lib.hid (K13.out.at_ hb7 l13)
  have hB7 := hB5.trans (hb7.mono hB5.size)
  have sB := X5.out.lt
  clear X5 hB5 hb7
  obtain ⟨x0, x1, x2, x3, x4⟩ := X7.out.cells
  have hm2 := M2.out
  have hm2w := M2w.out
  have c14 := K14.size
  have f14 := K14.frozen (o := 0)
  have n14s : w.heap.size ≠ g14 := by omega
  replace K14 := Lib.hid (K14.resize (m := m2))
  replace K15 := K15.farCell (p := ⟨g14, 0, none⟩) (v := .int .i64 m2) (o := 0) (by show g15 ≠ g14; omega) rfl
  replace K16 := K16.farCell (p := ⟨g14, 0, none⟩) (v := .int .i64 m2) (o := 0) (by show g16 ≠ g14; omega) rfl
  have hB8 : Below w6.heap.size w7 (w7.setCell ⟨g14, 0, none⟩ (.int .i64 m2)) := (Below.refl _ _).setCell (p := ⟨g14, 0, none⟩) (by show _ ≤ g14; omega) _
  have hz8 := hB8.size
  go_upto_region 8 with fail
  clear c14 f14 hm2 hm2w x0 x1 x2 x3 x4
  have X8 := Lib.hid (X7.out.at_ hB8 (by omega))
  generalize w7.setCell ⟨g14, 0, none⟩ (.int .i64 m2) = w8 at *
  obtain ⟨x0, x1, x2, x3, x4⟩ := X8.out.cells
  have hm3 := M3.out
  have hm3w := M3w.out
  have c15 := K15.size
  have f15 := K15.frozen (o := 0)
  replace K14 := Lib.hid (K14.out.farCell (p := ⟨g15, 0, none⟩) (v := .int .i64 m3) (o := 0) (by show g14 ≠ g15; omega) rfl)
  replace K15 := Lib.hid (K15.resize (m := m3))
  replace K16 := K16.farCell (p := ⟨g15, 0, none⟩) (v := .int .i64 m3) (o := 0) (by show g16 ≠ g15; omega) rfl
  have hB9 : Below w6.heap.size w7 (w8.setCell ⟨g15, 0, none⟩ (.int .i64 m3)) := hB8.setCell (p := ⟨g15, 0, none⟩) (by show _ ≤ g15; omega) _
  go_upto_region 9 with fail
  clear c15 f15 hm3 hm3w x0 x1 x2 x3 x4 hB8 hz8
  have X9 := Lib.hid (X7.out.at_ hB9 (by omega))
  generalize w8.setCell ⟨g15, 0, none⟩ (.int .i64 m3) = w9 at *
  obtain ⟨x0, x1, x2, x3, x4⟩ := X9.out.cells
  obtain ⟨r, j, hj, hr, b1, b2, e1, e2⟩ : ∃ (r : Int) (j : Nat), j < 32 ∧ q4.tmod 32 = r ∧ -32 < r ∧ r < 32 ∧ (r + 32) % 32 = (j : Int) ∧ (r + 32).tmod 32 = (j : Int) := place q4 32 (by decide)
  obtain ⟨c, hcx⟩ := bits_u8_any .xor (ub (rk j)) 1
  have c16 : w9.cell? ⟨g16, 1 + j, none⟩ = some (.int .u8 (ub (rk j))) := K16.root j _ (hc_get rk j hj)
  have f16 := K16.frozen (o := 1 + j)
  replace K14 := Lib.hid (K14.out.told.farCell (p := ⟨g16, 1 + j, none⟩) (v := .int .u8 (ub c)) (by show g14 ≠ g16; omega))
  replace K15 := Lib.hid (K15.out.told.farCell (p := ⟨g16, 1 + j, none⟩) (v := .int .u8 (ub c)) (by show g15 ≠ g16; omega))
  replace K16 := K16.byte hj c
  obtain ⟨rc, hrc⟩ : ∃ rc : HF, (fun t => if t = j then c else rk t) = rc := ⟨_, rfl⟩
  rw [hrc] at K16
  replace K16 := Lib.hid K16
  have hB10 : Below w6.heap.size w7 (w9.setCell ⟨g16, 1 + j, none⟩ (.int .u8 (ub c))) := hB9.setCell (p := ⟨g16, 1 + j, none⟩) (by show _ ≤ g16; omega) _
  have hj0 : (0 : Int) ≤ (j : Int) := by omega
  have hjl : (j : Int) < 32 := by omega
  go_upto_region 10 with fail
  clear c16 f16 hcx hr b1 b2 e1 e2 hj0 hjl x0 x1 x2 x3 x4 hB9
  have X10 := Lib.hid (X7.out.at_ hB10 (by omega))
  have HP10 := Lib.hid (HP.out.below (HB7.out.trans hB10))
  replace K12 := Lib.hid (K12.out.told.at_ hB10 (by have := HB7.out.size; omega))
  replace K13 := Lib.hid (K13.out.told.at_ hB10 (by have := HB7.out.size; omega))
  have hBw := hB7.trans (hB10.mono (by omega))
  generalize w9.setCell ⟨g16, 1 + j, none⟩ (.int .u8 (ub c)) = w10 at *
  clear hB10 X7 X8 X9 HB7 HP hB7 M2 M2w M3 M3w hrc
  obtain ⟨x0, x1, x2, x3, x4⟩ := X10.out.cells
  go_wp2_with fail
  refine (bent_any HP10.out GB.out).mono ?_
  rintro e w11 ⟨u, J, rfl, hJ, hJl, hb11⟩
  have hBw := hBw.trans (hb11.mono hBw.size)
  obtain ⟨ua, uc, hue, -⟩ := hJ.form
  rw [hue] at hJ ⊢
  clear hue x0 x1 x2 x3 x4
  go_wp2_with fail
  have hb12 := (Below.refl w11.heap.size w11).alloc (Nat.le_refl _) (.cells #[.slice pa GL.length pc, .slice ua J.length uc] 38)
  have hh : (w11.alloc (.cells #[.slice pa GL.length pc, .slice ua J.length uc] 38)).heap[w11.heap.size]? = some (.cells #[.slice pa GL.length pc, .slice ua J.length uc] 38 (0, 0)) := heap_alloc_new _ _
  have hS2 : ∀ i, i < 2 → ∃ (va : Option Addr) (vn vc : Nat) (V : List HF), (w11.alloc (.cells #[.slice pa GL.length pc, .slice ua J.length uc] 38)).cell? ⟨w11.heap.size, i, none⟩ = some (.slice va vn vc) ∧ HSlice (w11.alloc (.cells #[.slice pa GL.length pc, .slice ua J.length uc] 38)) (.slice va vn vc) V := fun i hi => by
    rcases (by omega : i = 0 ∨ i = 1) with rfl | rfl
    · exact ⟨pa, _, pc, GL, by rw [cell_of_row _ _ 0 _ _ (0, 0) hh]; rfl, (HP10.out.below hb11).below hb12⟩
    · exact ⟨ua, _, uc, J, by rw [cell_of_row _ _ 1 _ _ (0, 0) hh]; rfl, hJ.below hb12⟩
  have hyl : w11.heap.size < (w11.alloc (.cells #[.slice pa GL.length pc, .slice ua J.length uc] 38)).heap.size := by simp
  have E12 := hb11.trans (hb12.mono hb11.size)
  have K12 := Lib.hid (K12.out.below E12)
  have K13 := Lib.hid (K13.out.below E12)
  have K14 := Lib.hid (K14.out.below E12)
  have K15 := Lib.hid (K15.out.below E12)
  have K16 := Lib.hid (K16.out.below E12)
  have hBw := hBw.trans (hb12.mono hBw.size)
  have HS2 := Lib.hid hS2
  have HB12 := Lib.hid hBw
  clear hS2 hh hb12 hJ hJl hb11 E12 HP10 X10 hBw GB
  generalize w11.heap.size = gy at *
  generalize (w11.alloc (.cells #[.slice pa GL.length pc, .slice ua J.length uc] 38)) = w12 at *
  have HR0 := Lib.hid (Below.refl w12.heap.size w12)
  go_loopw [78] (fun i wr => ∃ i0 : Nat, i0 ≤ 2 ∧ i = .int .i64 i0 ∧ Hid (Below w12.heap.size w12 wr)) (fun i _ => 2 - (intOf i).toNat)
  case atStart => exact ⟨0, by omega, rfl, HR0⟩
  case round =>
    clear HR0
    obtain ⟨i, hi, rfl, hB⟩ := hrel
    by_cases hlt : i < 2
    · obtain ⟨va, vn, vc, V, hv, hV⟩ := HS2.out i hlt
      rw [← hB.out.cell (p := ⟨gy, i, none⟩) hyl] at hv
      have HVV := Lib.hid (hV.below hB.out)
      have k12 := K12.out.below hB.out
      have k13 := K13.out.below hB.out
      have k14 := K14.out.below hB.out
      have k15 := K15.out.below hB.out
      have k16 := K16.out.below hB.out
      have hi2 : (i : Int) < 2 := by omega
      have hi0 : (0 : Int) ≤ (i : Int) := by omega
      clear hV
      go_upto_region 13 with (fail)
      go_wp2_with ((with_reducible refine wpList_load_hdAt ?_ (.tmp 12) ?_ g12 ?_ (k : Int) rk k12 ?_); rfl; rfl; rfl; simp only [put_lit, List.set_cons_succ, List.set_cons_zero]; refine wpList_load_hdAt rfl (.tmp 13) rfl g13 rfl (len : Int) ra k13 ?_; simp only [put_lit, List.set_cons_succ, List.set_cons_zero]; refine wpList_build_two rfl (.tmp 82) (.tmp 83) rfl (k : Int) rk (len : Int) ra rfl rfl ?_; simp only [put_lit, List.set_cons_succ, List.set_cons_zero]; refine wpList_load_hdAt rfl (.tmp 14) rfl g14 rfl m2 rk k14 ?_; simp only [put_lit, List.set_cons_succ, List.set_cons_zero]; refine wpList_load_hdAt rfl (.tmp 13) rfl g13 rfl (len : Int) ra k13 ?_; simp only [put_lit, List.set_cons_succ, List.set_cons_zero]; refine wpList_build_two rfl (.tmp 85) (.tmp 86) rfl m2 rk (len : Int) ra rfl rfl ?_; simp only [put_lit, List.set_cons_succ, List.set_cons_zero]; refine wpList_load_hdAt rfl (.tmp 12) rfl g12 rfl (k : Int) rk k12 ?_; simp only [put_lit, List.set_cons_succ, List.set_cons_zero]; refine wpList_load_hdAt rfl (.tmp 15) rfl g15 rfl m3 ra k15 ?_; simp only [put_lit, List.set_cons_succ, List.set_cons_zero]; refine wpList_build_two rfl (.tmp 88) (.tmp 89) rfl (k : Int) rk m3 ra rfl rfl ?_; simp only [put_lit, List.set_cons_succ, List.set_cons_zero]; refine wpList_load_hdAt rfl (.tmp 16) rfl g16 rfl (k : Int) rc k16 ?_; simp only [put_lit, List.set_cons_succ, List.set_cons_zero]; refine wpList_load_hdAt rfl (.tmp 13) rfl g13 rfl (len : Int) ra k13 ?_; simp only [put_lit, List.set_cons_succ, List.set_cons_zero]; refine wpList_build_two rfl (.tmp 91) (.tmp 92) rfl (k : Int) rc (len : Int) ra rfl rfl ?_; simp only [put_lit, List.set_cons_succ, List.set_cons_zero]; refine wpList_load_hdAt rfl (.tmp 13) rfl g13 rfl (len : Int) ra k13 ?_; simp only [put_lit, List.set_cons_succ, List.set_cons_zero]; refine wpList_load_hdAt rfl (.tmp 12) rfl g12 rfl (k : Int) rk k12 ?_; simp only [put_lit, List.set_cons_succ, List.set_cons_zero]; refine wpList_build_two rfl (.tmp 94) (.tmp 95) rfl (len : Int) ra (k : Int) rk rfl rfl ?_; simp only [put_lit, List.set_cons_succ, List.set_cons_zero]; refine wpList_load_hdAt rfl (.tmp 13) rfl g13 rfl (len : Int) ra k13 ?_; simp only [put_lit, List.set_cons_succ, List.set_cons_zero]; refine wpList_load_hdAt rfl (.tmp 13) rfl g13 rfl (len : Int) ra k13 ?_; simp only [put_lit, List.set_cons_succ, List.set_cons_zero]; refine wpList_build_two rfl (.tmp 97) (.tmp 98) rfl (len : Int) ra (len : Int) ra rfl rfl ?_; simp only [put_lit, List.set_cons_succ, List.set_cons_zero]; refine wpList_load_hdAt rfl (.tmp 14) rfl g14 rfl m2 rk k14 ?_; simp only [put_lit, List.set_cons_succ, List.set_cons_zero]; refine wpList_load_hdAt rfl (.tmp 15) rfl g15 rfl m3 ra k15 ?_; simp only [put_lit, List.set_cons_succ, List.set_cons_zero]; refine wpList_build_two rfl (.tmp 100) (.tmp 101) rfl m2 rk m3 ra rfl rfl ?_; simp only [put_lit, List.set_cons_succ, List.set_cons_zero]; refine wpList_seven rfl (.tmp 84) (.tmp 87) (.tmp 90) (.tmp 93) (.tmp 96) (.tmp 99) (.tmp 102) rfl ((k : Int), rk, (len : Int), ra) (m2, rk, (len : Int), ra) ((k : Int), rk, m3, ra) ((k : Int), rc, (len : Int), ra) ((len : Int), ra, (k : Int), rk) ((len : Int), ra, (len : Int), ra) (m2, rk, m3, ra) rfl rfl rfl rfl rfl rfl rfl ?_; rintro w14 hb14 hget hlt14; simp only [put_lit, List.set_cons_succ, List.set_cons_zero])
      have HG := Lib.hid hget
      have hB14 := Lib.hid (hB.out.trans (hb14.mono hB.out.size))
      have HV14 := Lib.hid (HVV.out.below hb14)
      generalize wr.heap.size = gb at *
      clear hget hb14 HVV k12 k13 k14 k15 k16 hv hB
      have HR1 := Lib.hid (Below.refl w14.heap.size w14)
      go_loopw [105] (fun i wr => ∃ i1 : Nat, i1 ≤ 7 ∧ i = .int .i64 i1 ∧ Hid (Below w14.heap.size w14 wr)) (fun i _ => 7 - (intOf i).toNat)
      case atStart => exact ⟨0, by omega, rfl, HR1⟩
      case round =>
        clear HR1
        obtain ⟨y, hy, rfl, hC⟩ := hrel
        by_cases hly : y < 7
        · have hg1 := HG.out y hly
          obtain ⟨z, hz, hzb⟩ : ∃ z : PT, ([((k : Int), rk, (len : Int), ra), (m2, rk, (len : Int), ra), ((k : Int), rk, m3, ra), ((k : Int), rc, (len : Int), ra), ((len : Int), ra, (k : Int), rk), ((len : Int), ra, (len : Int), ra), (m2, rk, m3, ra)] : List PT).getD y ((k : Int), rk, (len : Int), ra) = z ∧ z.2.2.1 ≤ 9223372036854775807 := by
            refine ⟨_, rfl, ?_⟩
            rcases (by omega : y = 0 ∨ y = 1 ∨ y = 2 ∨ y = 3 ∨ y = 4 ∨ y = 5 ∨ y = 6) with rfl | rfl | rfl | rfl | rfl | rfl | rfl
            · show (len : Int) ≤ _; omega
            · show (len : Int) ≤ _; omega
            · show m3 ≤ _; omega
            · show (len : Int) ≤ _; omega
            · show (k : Int) ≤ _; omega
            · show (len : Int) ≤ _; omega
            · show m3 ≤ _; omega
          rw [hz] at hg1
          have hg2 := range_below hg1 hC.out hlt14
          have hy7 : (y : Int) < 7 := by omega
          have hy0 : (0 : Int) ≤ (y : Int) := by omega
          obtain ⟨v15, hv15, r1, r2, hbz, hl2⟩ := two_made wr z
          obtain ⟨bb, G⟩ := agree_two (a := z.1) (b := z.2.2.1) (f := z.2.1) (g := z.2.2.2) hzb ((HV14.out.below hC.out).below hbz)
          have G := Lib.hid G
          have hC2 := Lib.hid (hC.out.trans (hbz.mono hC.out.size))
          have HV15 := Lib.hid hv15
          clear hbz hg1 hz hv15
          go_upto_region 16 with (first | ((with_reducible refine wpList_load_two ?_ (.tmp 107) ?_ gb (y * 66) ?_ z hg2 ?_); rfl; rfl; rfl) | ((with_reducible refine wpList_alloc_cs ?_ 57 ?_ _ Try.infoTwoZ ?_); rfl; rfl) | ((with_reducible refine wpList_store_two0 ?_ (.tmp 20) (.tmp 108) ?_ wr.heap.size z _ ?_ ?_ (heap_alloc_new wr _) ?_); rfl; rfl; rfl; rfl))
          rw [HV15.out]
          clear HV15 hg2
          generalize wr.heap.size = g20 at *
          simp only [put_no, put_lit, List.set_cons_succ, List.set_cons_zero]
          refine wp_region_ext (by kernel_rfl) (by kernel_rfl) ?_
          repeat (first | go_big_quiet_step ((first | (go_at_call 32; with_reducible exact ext_call (G.out _).1) | (go_at_call 35; with_reducible exact ext_call (G.out _).2))) | (go_big_quiet_want; (first | ((with_reducible refine quiet_load_hd (.tmp 109) ?_ g20 0 ?_ z.1 z.2.1 hl2 r1 ?_); rfl; rfl) | ((with_reducible refine quiet_load_hd (.tmp 111) ?_ g20 33 ?_ z.2.2.1 z.2.2.2 hl2 r2 ?_); rfl; rfl) | ((with_reducible refine quiet_load_hd (.tmp 115) ?_ g20 0 ?_ z.1 z.2.1 hl2 r1 ?_); rfl; rfl) | ((with_reducible refine quiet_load_hd (.tmp 117) ?_ g20 33 ?_ z.2.2.1 z.2.2.2 hl2 r2 ?_); rfl; rfl)); go_simp; go_big_quiet_on))
          refine wpQuiet_nil ?_
          rintro _ ⟨e, rfl⟩
          have hC3 := Lib.hid (hC2.out.trans (e.below.mono hC2.out.size))
          clear r1 r2 G hl2 hC2
          go_wp2_with fail
          go_roundw
          case rel => first | exact ⟨y + 1, by omega, by go_num, hC3⟩ | exact ⟨y + 1, by omega, by omega⟩
          case measure => simp [intOf]; omega
        · have t1 : decide (y < 7) = false := decide_eq_false hly
          have t2 : decide ((y : Int) < 7) = false := decide_eq_false (by omega)
          have hBo := Lib.hid (hB14.out.trans (hC.out.mono hB14.out.size))
          go_wp2_with fail
          go_roundw
          case rel => first | exact ⟨i + 1, by omega, by go_num, hBo⟩ | exact ⟨i + 1, by omega, by omega⟩
          case measure => simp [intOf]; omega
    · have t1 : decide (i < 2) = false := decide_eq_false hlt
      have t2 : decide ((i : Int) < 2) = false := decide_eq_false (by omega)
      go_wp2_with fail
      go_ret
      exact ⟨rfl, HB12.out.trans (hB.out.mono HB12.out.size)⟩


set_option maxRecDepth 100000 in
theorem bentlaw_lifted (os : Os) (started : os.Started) (H : Type) (enc : TypeId × Value → H) :
    ReturnsInHanded {} Try.checked os 9 .any (Rows.treeBentSpec.pre6 enc Try.prog Try.f9 Rows.treeBentRow.domain false) (Rows.treeBentSpec.post enc Try.prog Try.f9 false true false false) := by
  refine returnsInHanded_of_change (C := Try.checked) own started (by kernel_rfl) Try.func9
    (ChangeSpec.witness6 (enc := enc) (C := Try.checked) false ⟨#[], #[.slice none 0 0, .int .u8 0, .agg #[.int .i64 0, .int .i64 0, .int .i64 0, .int .i64 0, .int .i64 0]], []⟩ 8 (by kernel_rfl) (by kernel_rfl) (by kernel_rfl) (by kernel_rfl)) ?_
  intro W base args ds gs before hval0 hW hcnd _
  have hval : ∀ (j : Nat) t v, Try.f9.params[j]? = some t → args[j]? = some v → Value.okWide Try.prog W .any base t v := hval0
  obtain ⟨p, q, hA0, hV, -, -, -⟩ := id hW
  have hA : DataW.TrodAll enc Try.prog W 0 (fun _ => true) true Try.f9.params.toList args.toList ds p := hA0
  rw [Try.params9] at hA hval
  obtain ⟨v0, vs0, d0, ds0, p0, q0, hargs, rfl, rfl, h0, r0⟩ := trodAll_cons hA
  obtain ⟨v1, vs1, d1, ds1, p1, q1, rfl, rfl, rfl, h1, r1⟩ := trodAll_cons r0
  obtain ⟨v2, vs2, d2, ds2, p2, q2, rfl, rfl, rfl, h2, r2⟩ := trodAll_cons r1
  obtain ⟨rfl, rfl, rfl⟩ := trodAll_nil r2
  obtain rfl : args = #[v0, v1, v2] := by cases args; simp_all
  obtain ⟨rfl, -⟩ := trodVars_none hV
  obtain ⟨a0, hs0⟩ := open_bslice Try.underlying30 Try.underlying5 (by kernel_rfl) (hval 0 30 v0 rfl rfl) h0
  obtain ⟨a1, rfl⟩ := open_u8 Try.underlying5 (hval 1 5 v1 rfl rfl)
  obtain ⟨a2, b2, c2, e2, f2, rfl, wa2, wb2, wc2, wd2, we2⟩ := open_five (e := 3) Try.underlying56 Try.underlying3 (by kernel_rfl) (by kernel_rfl) (hval 2 56 v2 rfl rfl)
  refine (bentlaw_walk hs0 _ _ _ _ _ _ wa2 wb2 wc2 wd2 we2).mono fun e W' ⟨he, hg⟩ => ?_
  subst he
  exact ⟨_, rfl, law_post (tb := 4) laidOut (by decide +kernel) rfl Try.underlying4 rfl hW rfl hg⟩

theorem bentlaw_proved : Rows.TreeBentSaid :=
  OpenClaim.holds_of_wide 9 Try.f9 rfl rfl rfl rfl rfl rfl rfl ⟨rfl, rfl, rfl, rfl, rfl⟩ rfl rfl rfl rfl rfl (by kernel_rfl) Try.func9 (by kernel_rfl)
    (of_decide_eq_true (by kernel_rfl)) (by unfold Func.isWrapper; first | (rw [if_pos (by decide +kernel)]; kernel_rfl) | (rw [if_neg (by decide +kernel)]; exact ⟨rfl, rfl⟩))
    (fun os started H enc _ => bentlaw_lifted os started H enc)
#print axioms bentlaw_proved

end Go.Proofs.Ytijhdfllffkfjaa
