/- TreeChecks returns true for all numbers, and its arguments read behind the call as before. No condition. -/
import Derived.Test.YtijhdfllffkfjaaBent
namespace Go.Proofs.Ytijhdfllffkfjaa
open Go.ChangeShapes Go.WideShapes Go.ChangeAt Go.RowKit
attribute [local go_sem] bareOp

theorem HeadAt.frozen {w : World} {b o : Nat} {n : Int} {f : HF} (h : HeadAt w b n f) : w.frozen? ⟨b, o, none⟩ = false := by
  obtain ⟨t, h⟩ := h
  exact frozen_of_row w b o _ t h
theorem HeadAt.resize {w : World} {b : Nat} {n m : Int} {f : HF} (h : HeadAt w b n f) : HeadAt (w.setCell ⟨b, 0, none⟩ (.int .i64 m)) b m f := by
  obtain ⟨t, h⟩ := h
  refine ⟨t, ?_⟩
  simp [World.setCell, Array.getElem?_modify, h, hd]
theorem open_four {P : Program} {w : World} {r : Reach} {b0 : Nat} {t e : TypeId} {v : Value} (ht : P.underlying t = some (.array 4 e)) (he : P.underlying e = some (.int .i64)) (hc : P.cellsOf t = 4) (hk : P.cellTypes P.depth t = some [e, e, e, e])
    (hval : Value.okWide P w r b0 t v) : ∃ a b c d : Int, v = .agg #[.int .i64 a, .int .i64 b, .int .i64 c, .int .i64 d] ∧ In64 a ∧ In64 b ∧ In64 c ∧ In64 d := by
  obtain ⟨f, rfl, h⟩ := open_nums ht he hc hk hval
  exact ⟨f 0, f 1, f 2, f 3, rfl, has64 (h 0 (by omega)), has64 (h 1 (by omega)), has64 (h 2 (by omega)), has64 (h 3 (by omega))⟩
/-- one answer of the program and of the reference -/
def Agree (w : World) (args : Array Value) : Prop := ∃ b : Bool, ∀ e : Ext w, (Calls Try.prog 21 args e.at fun x w' => x = .returned (.bool b) ∧ Below e.at.heap.size e.at w') ∧
  (Calls Try.prog 30 args e.at fun x w' => x = .returned (.bool b) ∧ Below e.at.heap.size e.at w')
theorem agree_any {w : World} {size n : Int} {root : HF} {leaf : List UInt8} {v : Value} {H : List HF} (hs : size ≤ 9223372036854775807) (hlf : leaf.length ≤ 140737488351232) (hH : HSlice w v H) : Agree w #[.agg (hd size root), .int .i64 n, .string (bs leaf), v] :=
  ⟨fitB size root n leaf H, fun e => ⟨fits_any hs hlf (hH.below e.below), reffits_any hs hlf (hH.below e.below)⟩⟩
/-- the box of the numbers -/
def Box4 (w : World) (g : Nat) (a b c d : Int) : Prop := w.heap[g]? = some (.cells #[.int .i64 a, .int .i64 b, .int .i64 c, .int .i64 d] 51 (0, 0))
theorem Box4.below {w w' : World} {g : Nat} {a b c d : Int} (h : Box4 w g a b c d) (hb : Below w.heap.size w w') : Box4 w' g a b c d := (hb.block g (Array.getElem?_eq_some_iff.1 h).1).trans h
theorem Box4.cells {w : World} {g : Nat} {a b c d : Int} (h : Box4 w g a b c d) : w.cell? ⟨g, 0, none⟩ = some (.int .i64 a) ∧ w.cell? ⟨g, 1, none⟩ = some (.int .i64 b) ∧ w.cell? ⟨g, 2, none⟩ = some (.int .i64 c) ∧ w.cell? ⟨g, 3, none⟩ = some (.int .i64 d) :=
  ⟨by rw [cell_of_row w g 0 _ _ (0, 0) h]; rfl, by rw [cell_of_row w g 1 _ _ (0, 0) h]; rfl, by rw [cell_of_row w g 2 _ _ (0, 0) h]; rfl, by rw [cell_of_row w g 3 _ _ (0, 0) h]; rfl⟩
theorem strS_two (l : List UInt8) (i : Nat) : ((strS l).getD i []).length ≤ 2 := by
  unfold strS strTo
  rw [List.getD_eq_getElem?_getD, List.getElem?_map]
  cases h : (List.range (min l.length 20))[i]? <;> simp
set_option maxHeartbeats 8000000 in
set_option maxRecDepth 100000 in
theorem checks_neg {v : Value} {l : List UInt8} {w : World} (hv0 : BSlice w v l) (n : Int) (_h0 : -9223372036854775808 ≤ n) (_h1 : n ≤ 9223372036854775807) (q0 q1 q2 q3 : Int) (_i2 : In64 q2) (_i3 : In64 q3) (hp : (strS l).length = 0) (hsg : n < 0) :
    Calls Try.prog 6 #[v, .int .i64 n, .agg #[.int .i64 q0, .int .i64 q1, .int .i64 q2, .int .i64 q3]] w (Said true w) := by
  obtain ⟨L, hLe⟩ : ∃ L, strS l = L := ⟨_, rfl⟩
  rw [hLe] at hp
  have hL20 : L.length ≤ 20 := by rw [← hLe, strS_length]; omega
  have hf : Fits L := by rw [← hLe]; exact strS_fits l
  have HV := Lib.hid hv0
  have HLE := Lib.hid hLe
  clear hv0 hLe
  unfold In64 at _i2 _i3
  have X0 : Box4 (w.alloc (.cells #[.int .i64 q0, .int .i64 q1, .int .i64 q2, .int .i64 q3] 51)) w.heap.size q0 q1 q2 q3 := heap_alloc_new _ _
  have hB0 := (Below.refl w.heap.size w).alloc (Nat.le_refl _) (.cells #[.int .i64 q0, .int .i64 q1, .int .i64 q2, .int .i64 q3] 51)
  obtain ⟨len, hlen⟩ : ∃ len, L.length = len := ⟨_, rfl⟩
  rw [hlen] at hL20 hp
  obtain ⟨ra, hra⟩ : ∃ ra, rootS L = ra := ⟨_, rfl⟩
  obtain ⟨m2, hm2⟩ : ∃ m2, IntKind.i64.wrap ((len : Int) + q2) = m2 := ⟨_, rfl⟩
  have hm2b : m2 ≤ 9223372036854775807 := by rw [← hm2, IntKind.wrap_i64]; omega
  have hm2w : wrap64 ((len : Int) + q2) = m2 := by rw [← hm2, IntKind.wrap_i64]; unfold wrap64; omega
  have HN := Lib.hid hlen
  have HRA := Lib.hid hra
  have X0 := Lib.hid X0
  have M2 := Lib.hid hm2
  have M2w := Lib.hid hm2w
  clear hlen hra hm2 hm2w
  have P1 : Hid (∀ W v, SSlice W v L → Calls Try.prog 23 #[v, .int .i64 n] W (ListB W (pathL L n) (pathO L n))) := fun W v hs => refpath_list hf (by rw [HN.out]; omega) hs
  have PLB : Hid ((pathL L n).length ≤ 1000) := by
    refine Lib.hid ?_
    unfold pathL
    split
    · have := pathS_len _ L n.toNat (Nat.le_refl _)
      rw [HN.out] at this
      omega
    · exact Nat.zero_le _
  generalize pathL L n = PL at *
  generalize pathO L n = po at *
  have t1 : decide (0 < len) = false := decide_eq_false (by omega)
  have t2 : decide ((0 : Int) < (len : Int)) = false := decide_eq_false (by omega)
  have t3 : decide (0 ≤ n) = false := decide_eq_false (by omega)
  have t4 : decide (n ≥ 0) = false := decide_eq_false (by omega)
  obtain ⟨y, hy⟩ : ∃ y : List UInt8, y = [] := ⟨_, rfl⟩
  have hyl : y.length ≤ 1000 := by rw [hy]; simp
  have hyb : (.string ⟨#[]⟩ : Value) = .string (bs y) := by rw [hy]; rfl
  have HYB := Lib.hid hyb
  clear hp hy hyb
  go_enter Try.func6, Try.ntmps6
  go_wp2_with fail
  refine sanity_any.mono ?_
  rintro e w1 ⟨rfl, hb1⟩
  have X1 := Lib.hid (X0.out.below hb1)
  have hB1 := hB0.trans (hb1.mono hB0.size)
  have hv1 := HV.out.below hB1
  clear X0 hB0 hb1
  have HV1 := Lib.hid hv1
  clear hv1
  go_wp2_with fail
  refine (strings_any HV1.out).mono ?_
  rintro e w2 ⟨s, rfl, hs, hb2⟩
  rw [HLE.out] at hs
  have hB2 := hB1.trans (hb2.mono hB1.size)
  have hs2 := hs.slice
  obtain ⟨a, cap, hse, c1, c2, -⟩ := sslice_form hs2
  rw [HN.out] at hse c1
  rw [hse] at hs2 ⊢
  have HS := Lib.hid hs2
  have X2 := Lib.hid (X1.out.below hb2)
  clear hs hb2 hse hs2 hB1 X1
  go_wp2_with fail
  refine (headof_any HS.out hf).mono ?_
  rintro e w3 ⟨rfl, hb3⟩
  rw [HN.out, HRA.out]
  obtain ⟨v3, hv3, K1, hk3, z3⟩ := head_made w3 (len : Int) ra
  have K1 := Lib.hid K1
  have hB3 := (hB2.trans (hb3.mono hB2.size)).trans (hk3.mono (hB2.trans (hb3.mono hB2.size)).size)
  have HS3 := Lib.hid ((HS.out.below hb3).below hk3)
  have X3 := Lib.hid ((X2.out.below hb3).below hk3)
  go_upto_region 4 with (first | (refine wpList_alloc_cs rfl 36 rfl _ Try.infoHead ?_) | (refine wpList_store_head rfl (.tmp 9) (.tmp 22) rfl w3.heap.size (len : Int) 0 ra _ 36 rfl rfl (heap_alloc_new w3 _) ?_))
  rw [hv3]
  clear HS hB2 hb3 hk3 hv3 X2
  generalize w3.heap.size = g9 at *
  go_wp2_with fail
  refine (P1.out _ _ HS3.out).mono ?_
  rintro e w4 ⟨p, rfl, hpp, hb4⟩
  have HS4 := Lib.hid (HS3.out.below hb4)
  have HP := Lib.hid hpp
  have K1 := Lib.hid (K1.out.below hb4)
  have X4 := Lib.hid (X3.out.below hb4)
  have hB4 := hB3.trans (hb4.mono hB3.size)
  clear HS3 X3 hB3 hb4 hpp z3
  go_upto_region 10 with fail
  rw [HYB.out]
  clear HYB t1 t2
  obtain ⟨v5, hv5, K5, hk5, z5⟩ := head_made w4 (len : Int) ra
  have k1 := K1.out
  have X5 := X4.out.below hk5
  go_upto_region 11 with (first | ((with_reducible refine wpList_load_head ?_ (.tmp 9) ?_ g9 ?_ (len : Int) ra k1 ?_); rfl; rfl; rfl) | (refine wpList_alloc_cs rfl 36 rfl _ Try.infoHead ?_) | (refine wpList_store_head rfl (.tmp 13) (.tmp 54) rfl w4.heap.size (len : Int) 0 ra _ 36 rfl rfl (heap_alloc_new w4 _) ?_))
  rw [hv5]
  clear hv5 k1
  have hb6 : Below w4.heap.size w4 (v5.setCell ⟨w4.heap.size, 0, none⟩ (.int .i64 m2)) := hk5.setCell (p := ⟨w4.heap.size, 0, none⟩) (Nat.le_refl _) _
  have K6 := Lib.hid (K5.resize (m := m2))
  have K1 := Lib.hid (K1.out.below hb6)
  have HP6 := HP.out.below hb6
  have X6 := Lib.hid (X4.out.below hb6)
  have hB6 := hB4.trans (hb6.mono hB4.size)
  have c0 := K5.size
  have f0 := K5.frozen (o := 0)
  obtain ⟨x0, x1, x2, x3⟩ := X5.cells
  have hm2w := M2w.out
  have hm2 := M2.out
  obtain ⟨pa, pc, hpe, -⟩ := HP6.form
  rw [hpe] at HP6 ⊢
  have HP6 := Lib.hid HP6
  generalize w4.heap.size = g13 at *
  clear K5 HP X4 hB4 hpe hb6 hk5 z5 X5
  go_upto_region 12 with fail
  clear c0 f0 x0 x1 x2 x3 hm2w hm2 M2 M2w
  generalize v5.setCell ⟨g13, 0, none⟩ (.int .i64 m2) = w6 at *
  go_wp2_with fail
  have hb7 := (Below.refl w6.heap.size w6).alloc (Nat.le_refl _) (.cells #[.string (bs y), .string (bs (y ++ [120]))] 9)
  have hh : (w6.alloc (.cells #[.string (bs y), .string (bs (y ++ [120]))] 9)).heap[w6.heap.size]? = some (.cells #[.string (bs y), .string (bs (y ++ [120]))] 9 (0, 0)) := heap_alloc_new _ _
  have hS : ∀ k, k < 2 → ∃ z : List UInt8, (w6.alloc (.cells #[.string (bs y), .string (bs (y ++ [120]))] 9)).cell? ⟨w6.heap.size, k, none⟩ = some (.string (bs z)) ∧ z.length ≤ 2000 := fun k hk => by
    rcases (by omega : k = 0 ∨ k = 1) with rfl | rfl
    · exact ⟨y, by rw [cell_of_row _ _ 0 _ _ (0, 0) hh]; rfl, by omega⟩
    · exact ⟨y ++ [120], by rw [cell_of_row _ _ 1 _ _ (0, 0) hh]; rfl, by rw [List.length_append]; show _ + 1 ≤ _; omega⟩
  have hxl : w6.heap.size < (w6.alloc (.cells #[.string (bs y), .string (bs (y ++ [120]))] 9)).heap.size := by simp
  have K1 := Lib.hid (K1.out.below hb7)
  have K6 := Lib.hid (K6.out.below hb7)
  have HP7 := Lib.hid (HP6.out.below hb7)
  have X7 := Lib.hid (X6.out.below hb7)
  have hB7 := hB6.trans (hb7.mono hB6.size)
  have HS := Lib.hid hS
  generalize w6.heap.size = gx at *
  generalize (w6.alloc (.cells #[.string (bs y), .string (bs (y ++ [120]))] 9)) = w7 at *
  clear HP6 X6 hB6 hh hb7 hS hyl
  go_loopw [66] (fun i wr => ∃ k : Nat, k ≤ 2 ∧ i = .int .i64 k ∧ Below w7.heap.size w7 wr) (fun i _ => 2 - (intOf i).toNat)
  case atStart => exact ⟨0, by omega, rfl, Below.refl _ _⟩
  case round =>
    obtain ⟨k, hk, rfl, hB⟩ := hrel
    by_cases hlt : k < 2
    · obtain ⟨z, hz, hzl⟩ := HS.out k hlt
      rw [← hB.cell (p := ⟨gx, k, none⟩) hxl] at hz
      obtain ⟨x0, x1, -, -⟩ := (X7.out.below hB).cells
      have hk2 : (k : Int) < 2 := by omega
      have hk0 : (0 : Int) ≤ (k : Int) := by omega
      go_wp2_with fail
      refine (bent_any (HP7.out.below hB) PLB.out).mono ?_
      rintro e w8 ⟨u, J, rfl, hJ, hJl, hb8⟩
      have hB8 := hB.trans (hb8.mono hB.size)
      obtain ⟨ua, uc, hue, -⟩ := hJ.form
      rw [hue] at hJ ⊢
      clear hue x0 x1 hz hb8
      go_wp2_with fail
      have hb9 := (Below.refl w8.heap.size w8).alloc (Nat.le_refl _) (.cells #[.slice pa PL.length pc, .slice ua J.length uc] 38)
      have hh : (w8.alloc (.cells #[.slice pa PL.length pc, .slice ua J.length uc] 38)).heap[w8.heap.size]? = some (.cells #[.slice pa PL.length pc, .slice ua J.length uc] 38 (0, 0)) := heap_alloc_new _ _
      have hS2 : ∀ j, j < 2 → ∃ (va : Option Addr) (vn vc : Nat) (V : List HF), (w8.alloc (.cells #[.slice pa PL.length pc, .slice ua J.length uc] 38)).cell? ⟨w8.heap.size, j, none⟩ = some (.slice va vn vc) ∧ HSlice (w8.alloc (.cells #[.slice pa PL.length pc, .slice ua J.length uc] 38)) (.slice va vn vc) V := fun j hj => by
        rcases (by omega : j = 0 ∨ j = 1) with rfl | rfl
        · exact ⟨pa, _, pc, PL, by rw [cell_of_row _ _ 0 _ _ (0, 0) hh]; rfl, (HP7.out.below hB8).below hb9⟩
        · exact ⟨ua, _, uc, J, by rw [cell_of_row _ _ 1 _ _ (0, 0) hh]; rfl, hJ.below hb9⟩
      have hyl2 : w8.heap.size < (w8.alloc (.cells #[.slice pa PL.length pc, .slice ua J.length uc] 38)).heap.size := by simp
      have K1q := Lib.hid ((K1.out.below hB8).below hb9)
      have K6q := Lib.hid ((K6.out.below hB8).below hb9)
      have Xq := Lib.hid ((X7.out.below hB8).below hb9)
      have hB9 := hB8.trans (hb9.mono hB8.size)
      have HS2 := Lib.hid hS2
      generalize w8.heap.size = gy at *
      generalize (w8.alloc (.cells #[.slice pa PL.length pc, .slice ua J.length uc] 38)) = w9 at *
      clear hS2 hh hb9 hJ hB8 hJl
      go_loopw [80] (fun i wr => ∃ j : Nat, j ≤ 2 ∧ i = .int .i64 j ∧ Below w9.heap.size w9 wr) (fun i _ => 2 - (intOf i).toNat)
      case atStart => exact ⟨0, by omega, rfl, Below.refl _ _⟩
      case round =>
        obtain ⟨j, hj, rfl, hBi⟩ := hrel
        by_cases hlj : j < 2
        · obtain ⟨va, vn, vc, V, hv, hV⟩ := HS2.out j hlj
          rw [← hBi.cell (p := ⟨gy, j, none⟩) hyl2] at hv
          have hV := hV.below hBi
          have k1 := K1q.out.below hBi
          have k6 := K6q.out.below hBi
          obtain ⟨-, -, -, x3⟩ := (Xq.out.below hBi).cells
          have hj2 : (j : Int) < 2 := by omega
          have hj0 : (0 : Int) ≤ (j : Int) := by omega
          obtain ⟨m3, hm3⟩ : ∃ m3, IntKind.i64.wrap (n + q3) = m3 := ⟨_, rfl⟩
          obtain ⟨b1, G1⟩ := agree_any (size := (len : Int)) (n := n) (root := ra) (leaf := z) (by omega) (by omega) hV
          obtain ⟨b2, G2⟩ := agree_any (size := m2) (n := n) (root := ra) (leaf := z) hm2b (by omega) hV
          obtain ⟨b3, G3⟩ := agree_any (size := (len : Int)) (n := m3) (root := ra) (leaf := z) (by omega) (by omega) hV
          have hx3 := ext_cell x3
          have d1 : (b1 != b1) = false := by cases b1 <;> rfl
          have d2 : (b2 != b2) = false := by cases b2 <;> rfl
          have d3 : (b3 != b3) = false := by cases b3 <;> rfl
          have G1 := Lib.hid G1
          have G2 := Lib.hid G2
          have G3 := Lib.hid G3
          go_wp2_with fail
          clear d1 d2 d3 x3 hv hV hj2 hj0
          refine wp_region_ext (by kernel_rfl) (by kernel_rfl) ?_
          repeat (first | go_big_quiet_step ((first | (go_at_call 21; with_reducible exact ext_call (G1.out _).1) | (go_at_call 21; with_reducible exact ext_call (G2.out _).1) | (go_at_call 21; with_reducible exact ext_call (G3.out _).1) | (go_at_call 30; with_reducible exact ext_call (G1.out _).2) | (go_at_call 30; with_reducible exact ext_call (G2.out _).2) | (go_at_call 30; with_reducible exact ext_call (G3.out _).2))) | (go_big_quiet_want; (first | ((with_reducible refine quiet_load_head (.tmp 9) ?_ g9 ?_ (len : Int) ra k1 ?_); rfl; rfl) | ((with_reducible refine quiet_load_head (.tmp 13) ?_ g13 ?_ m2 ra k6 ?_); rfl; rfl)); go_simp; go_big_quiet_on))
          refine wpQuiet_nil ?_
          rintro _ ⟨e, rfl⟩
          have hBe := hBi.trans (e.below.mono hBi.size)
          go_wp2_with fail
          go_roundw
          case rel => exact ⟨j + 1, by omega, by go_num, hBe⟩
          case measure => simp [intOf]; omega
        · have t1 : decide (j < 2) = false := decide_eq_false hlj
          have t2 : decide ((j : Int) < 2) = false := decide_eq_false (by omega)
          have hBo := hB9.trans (hBi.mono hB9.size)
          go_wp2_with fail
          go_roundw
          case rel => exact ⟨k + 1, by omega, by go_num, hBo⟩
          case measure => simp [intOf]; omega
    · have t1 : decide (k < 2) = false := decide_eq_false hlt
      have t2 : decide ((k : Int) < 2) = false := decide_eq_false (by omega)
      go_wp2_with fail
      go_ret
      exact ⟨rfl, hB7.trans (hB.mono hB7.size)⟩
set_option maxHeartbeats 8000000 in
set_option maxRecDepth 100000 in
theorem checks_zero {v : Value} {l : List UInt8} {w : World} (hv0 : BSlice w v l) (n : Int) (_h0 : -9223372036854775808 ≤ n) (_h1 : n ≤ 9223372036854775807) (q0 q1 q2 q3 : Int) (_i2 : In64 q2) (_i3 : In64 q3) (hp : (strS l).length = 0) (hsg : 0 ≤ n) :
    Calls Try.prog 6 #[v, .int .i64 n, .agg #[.int .i64 q0, .int .i64 q1, .int .i64 q2, .int .i64 q3]] w (Said true w) := by
  obtain ⟨L, hLe⟩ : ∃ L, strS l = L := ⟨_, rfl⟩
  rw [hLe] at hp
  have hL20 : L.length ≤ 20 := by rw [← hLe, strS_length]; omega
  have hf : Fits L := by rw [← hLe]; exact strS_fits l
  have HV := Lib.hid hv0
  have HLE := Lib.hid hLe
  clear hv0 hLe
  unfold In64 at _i2 _i3
  have X0 : Box4 (w.alloc (.cells #[.int .i64 q0, .int .i64 q1, .int .i64 q2, .int .i64 q3] 51)) w.heap.size q0 q1 q2 q3 := heap_alloc_new _ _
  have hB0 := (Below.refl w.heap.size w).alloc (Nat.le_refl _) (.cells #[.int .i64 q0, .int .i64 q1, .int .i64 q2, .int .i64 q3] 51)
  obtain ⟨len, hlen⟩ : ∃ len, L.length = len := ⟨_, rfl⟩
  rw [hlen] at hL20 hp
  obtain ⟨ra, hra⟩ : ∃ ra, rootS L = ra := ⟨_, rfl⟩
  obtain ⟨m2, hm2⟩ : ∃ m2, IntKind.i64.wrap ((len : Int) + q2) = m2 := ⟨_, rfl⟩
  have hm2b : m2 ≤ 9223372036854775807 := by rw [← hm2, IntKind.wrap_i64]; omega
  have hm2w : wrap64 ((len : Int) + q2) = m2 := by rw [← hm2, IntKind.wrap_i64]; unfold wrap64; omega
  have HN := Lib.hid hlen
  have HRA := Lib.hid hra
  have X0 := Lib.hid X0
  have M2 := Lib.hid hm2
  have M2w := Lib.hid hm2w
  clear hlen hra hm2 hm2w
  have P1 : Hid (∀ W v, SSlice W v L → Calls Try.prog 23 #[v, .int .i64 n] W (ListB W (pathL L n) (pathO L n))) := fun W v hs => refpath_list hf (by rw [HN.out]; omega) hs
  have PLB : Hid ((pathL L n).length ≤ 1000) := by
    refine Lib.hid ?_
    unfold pathL
    split
    · have := pathS_len _ L n.toNat (Nat.le_refl _)
      rw [HN.out] at this
      omega
    · exact Nat.zero_le _
  generalize pathL L n = PL at *
  generalize pathO L n = po at *
  have t1 : decide (0 < len) = false := decide_eq_false (by omega)
  have t2 : decide ((0 : Int) < (len : Int)) = false := decide_eq_false (by omega)
  have t3 : decide (0 ≤ n) = true := decide_eq_true (by omega)
  have t4 : decide (n ≥ 0) = true := decide_eq_true (by omega)
  have t5 : decide (n < (len : Int)) = false := decide_eq_false (by omega)
  obtain ⟨y, hy⟩ : ∃ y : List UInt8, y = [] := ⟨_, rfl⟩
  have hyl : y.length ≤ 1000 := by rw [hy]; simp
  have hyb : (.string ⟨#[]⟩ : Value) = .string (bs y) := by rw [hy]; rfl
  have HYB := Lib.hid hyb
  clear hp hy hyb
  go_enter Try.func6, Try.ntmps6
  go_wp2_with fail
  refine sanity_any.mono ?_
  rintro e w1 ⟨rfl, hb1⟩
  have X1 := Lib.hid (X0.out.below hb1)
  have hB1 := hB0.trans (hb1.mono hB0.size)
  have hv1 := HV.out.below hB1
  clear X0 hB0 hb1
  have HV1 := Lib.hid hv1
  clear hv1
  go_wp2_with fail
  refine (strings_any HV1.out).mono ?_
  rintro e w2 ⟨s, rfl, hs, hb2⟩
  rw [HLE.out] at hs
  have hB2 := hB1.trans (hb2.mono hB1.size)
  have hs2 := hs.slice
  obtain ⟨a, cap, hse, c1, c2, -⟩ := sslice_form hs2
  rw [HN.out] at hse c1
  rw [hse] at hs2 ⊢
  have HS := Lib.hid hs2
  have X2 := Lib.hid (X1.out.below hb2)
  clear hs hb2 hse hs2 hB1 X1
  go_wp2_with fail
  refine (headof_any HS.out hf).mono ?_
  rintro e w3 ⟨rfl, hb3⟩
  rw [HN.out, HRA.out]
  obtain ⟨v3, hv3, K1, hk3, z3⟩ := head_made w3 (len : Int) ra
  have K1 := Lib.hid K1
  have hB3 := (hB2.trans (hb3.mono hB2.size)).trans (hk3.mono (hB2.trans (hb3.mono hB2.size)).size)
  have HS3 := Lib.hid ((HS.out.below hb3).below hk3)
  have X3 := Lib.hid ((X2.out.below hb3).below hk3)
  go_upto_region 4 with (first | (refine wpList_alloc_cs rfl 36 rfl _ Try.infoHead ?_) | (refine wpList_store_head rfl (.tmp 9) (.tmp 22) rfl w3.heap.size (len : Int) 0 ra _ 36 rfl rfl (heap_alloc_new w3 _) ?_))
  rw [hv3]
  clear HS hB2 hb3 hk3 hv3 X2
  generalize w3.heap.size = g9 at *
  go_wp2_with fail
  refine (P1.out _ _ HS3.out).mono ?_
  rintro e w4 ⟨p, rfl, hpp, hb4⟩
  have HS4 := Lib.hid (HS3.out.below hb4)
  have HP := Lib.hid hpp
  have K1 := Lib.hid (K1.out.below hb4)
  have X4 := Lib.hid (X3.out.below hb4)
  have hB4 := hB3.trans (hb4.mono hB3.size)
  clear HS3 X3 hB3 hb4 hpp z3
  go_upto_region 10 with fail
  rw [HYB.out]
  clear HYB t1 t2
  obtain ⟨v5, hv5, K5, hk5, z5⟩ := head_made w4 (len : Int) ra
  have k1 := K1.out
  have X5 := X4.out.below hk5
  go_upto_region 11 with (first | ((with_reducible refine wpList_load_head ?_ (.tmp 9) ?_ g9 ?_ (len : Int) ra k1 ?_); rfl; rfl; rfl) | (refine wpList_alloc_cs rfl 36 rfl _ Try.infoHead ?_) | (refine wpList_store_head rfl (.tmp 13) (.tmp 54) rfl w4.heap.size (len : Int) 0 ra _ 36 rfl rfl (heap_alloc_new w4 _) ?_))
  rw [hv5]
  clear hv5 k1
  have hb6 : Below w4.heap.size w4 (v5.setCell ⟨w4.heap.size, 0, none⟩ (.int .i64 m2)) := hk5.setCell (p := ⟨w4.heap.size, 0, none⟩) (Nat.le_refl _) _
  have K6 := Lib.hid (K5.resize (m := m2))
  have K1 := Lib.hid (K1.out.below hb6)
  have HP6 := HP.out.below hb6
  have X6 := Lib.hid (X4.out.below hb6)
  have hB6 := hB4.trans (hb6.mono hB4.size)
  have c0 := K5.size
  have f0 := K5.frozen (o := 0)
  obtain ⟨x0, x1, x2, x3⟩ := X5.cells
  have hm2w := M2w.out
  have hm2 := M2.out
  obtain ⟨pa, pc, hpe, -⟩ := HP6.form
  rw [hpe] at HP6 ⊢
  have HP6 := Lib.hid HP6
  generalize w4.heap.size = g13 at *
  clear K5 HP X4 hB4 hpe hb6 hk5 z5 X5
  go_upto_region 12 with fail
  clear c0 f0 x0 x1 x2 x3 hm2w hm2 M2 M2w
  generalize v5.setCell ⟨g13, 0, none⟩ (.int .i64 m2) = w6 at *
  go_wp2_with fail
  have hb7 := (Below.refl w6.heap.size w6).alloc (Nat.le_refl _) (.cells #[.string (bs y), .string (bs (y ++ [120]))] 9)
  have hh : (w6.alloc (.cells #[.string (bs y), .string (bs (y ++ [120]))] 9)).heap[w6.heap.size]? = some (.cells #[.string (bs y), .string (bs (y ++ [120]))] 9 (0, 0)) := heap_alloc_new _ _
  have hS : ∀ k, k < 2 → ∃ z : List UInt8, (w6.alloc (.cells #[.string (bs y), .string (bs (y ++ [120]))] 9)).cell? ⟨w6.heap.size, k, none⟩ = some (.string (bs z)) ∧ z.length ≤ 2000 := fun k hk => by
    rcases (by omega : k = 0 ∨ k = 1) with rfl | rfl
    · exact ⟨y, by rw [cell_of_row _ _ 0 _ _ (0, 0) hh]; rfl, by omega⟩
    · exact ⟨y ++ [120], by rw [cell_of_row _ _ 1 _ _ (0, 0) hh]; rfl, by rw [List.length_append]; show _ + 1 ≤ _; omega⟩
  have hxl : w6.heap.size < (w6.alloc (.cells #[.string (bs y), .string (bs (y ++ [120]))] 9)).heap.size := by simp
  have K1 := Lib.hid (K1.out.below hb7)
  have K6 := Lib.hid (K6.out.below hb7)
  have HP7 := Lib.hid (HP6.out.below hb7)
  have X7 := Lib.hid (X6.out.below hb7)
  have hB7 := hB6.trans (hb7.mono hB6.size)
  have HS := Lib.hid hS
  generalize w6.heap.size = gx at *
  generalize (w6.alloc (.cells #[.string (bs y), .string (bs (y ++ [120]))] 9)) = w7 at *
  clear HP6 X6 hB6 hh hb7 hS hyl
  go_loopw [66] (fun i wr => ∃ k : Nat, k ≤ 2 ∧ i = .int .i64 k ∧ Below w7.heap.size w7 wr) (fun i _ => 2 - (intOf i).toNat)
  case atStart => exact ⟨0, by omega, rfl, Below.refl _ _⟩
  case round =>
    obtain ⟨k, hk, rfl, hB⟩ := hrel
    by_cases hlt : k < 2
    · obtain ⟨z, hz, hzl⟩ := HS.out k hlt
      rw [← hB.cell (p := ⟨gx, k, none⟩) hxl] at hz
      obtain ⟨x0, x1, -, -⟩ := (X7.out.below hB).cells
      have hk2 : (k : Int) < 2 := by omega
      have hk0 : (0 : Int) ≤ (k : Int) := by omega
      go_wp2_with fail
      refine (bent_any (HP7.out.below hB) PLB.out).mono ?_
      rintro e w8 ⟨u, J, rfl, hJ, hJl, hb8⟩
      have hB8 := hB.trans (hb8.mono hB.size)
      obtain ⟨ua, uc, hue, -⟩ := hJ.form
      rw [hue] at hJ ⊢
      clear hue x0 x1 hz hb8
      go_wp2_with fail
      have hb9 := (Below.refl w8.heap.size w8).alloc (Nat.le_refl _) (.cells #[.slice pa PL.length pc, .slice ua J.length uc] 38)
      have hh : (w8.alloc (.cells #[.slice pa PL.length pc, .slice ua J.length uc] 38)).heap[w8.heap.size]? = some (.cells #[.slice pa PL.length pc, .slice ua J.length uc] 38 (0, 0)) := heap_alloc_new _ _
      have hS2 : ∀ j, j < 2 → ∃ (va : Option Addr) (vn vc : Nat) (V : List HF), (w8.alloc (.cells #[.slice pa PL.length pc, .slice ua J.length uc] 38)).cell? ⟨w8.heap.size, j, none⟩ = some (.slice va vn vc) ∧ HSlice (w8.alloc (.cells #[.slice pa PL.length pc, .slice ua J.length uc] 38)) (.slice va vn vc) V := fun j hj => by
        rcases (by omega : j = 0 ∨ j = 1) with rfl | rfl
        · exact ⟨pa, _, pc, PL, by rw [cell_of_row _ _ 0 _ _ (0, 0) hh]; rfl, (HP7.out.below hB8).below hb9⟩
        · exact ⟨ua, _, uc, J, by rw [cell_of_row _ _ 1 _ _ (0, 0) hh]; rfl, hJ.below hb9⟩
      have hyl2 : w8.heap.size < (w8.alloc (.cells #[.slice pa PL.length pc, .slice ua J.length uc] 38)).heap.size := by simp
      have K1q := Lib.hid ((K1.out.below hB8).below hb9)
      have K6q := Lib.hid ((K6.out.below hB8).below hb9)
      have Xq := Lib.hid ((X7.out.below hB8).below hb9)
      have hB9 := hB8.trans (hb9.mono hB8.size)
      have HS2 := Lib.hid hS2
      generalize w8.heap.size = gy at *
      generalize (w8.alloc (.cells #[.slice pa PL.length pc, .slice ua J.length uc] 38)) = w9 at *
      clear hS2 hh hb9 hJ hB8 hJl
      go_loopw [80] (fun i wr => ∃ j : Nat, j ≤ 2 ∧ i = .int .i64 j ∧ Below w9.heap.size w9 wr) (fun i _ => 2 - (intOf i).toNat)
      case atStart => exact ⟨0, by omega, rfl, Below.refl _ _⟩
      case round =>
        obtain ⟨j, hj, rfl, hBi⟩ := hrel
        by_cases hlj : j < 2
        · obtain ⟨va, vn, vc, V, hv, hV⟩ := HS2.out j hlj
          rw [← hBi.cell (p := ⟨gy, j, none⟩) hyl2] at hv
          have hV := hV.below hBi
          have k1 := K1q.out.below hBi
          have k6 := K6q.out.below hBi
          obtain ⟨-, -, -, x3⟩ := (Xq.out.below hBi).cells
          have hj2 : (j : Int) < 2 := by omega
          have hj0 : (0 : Int) ≤ (j : Int) := by omega
          obtain ⟨m3, hm3⟩ : ∃ m3, IntKind.i64.wrap (n + q3) = m3 := ⟨_, rfl⟩
          obtain ⟨b1, G1⟩ := agree_any (size := (len : Int)) (n := n) (root := ra) (leaf := z) (by omega) (by omega) hV
          obtain ⟨b2, G2⟩ := agree_any (size := m2) (n := n) (root := ra) (leaf := z) hm2b (by omega) hV
          obtain ⟨b3, G3⟩ := agree_any (size := (len : Int)) (n := m3) (root := ra) (leaf := z) (by omega) (by omega) hV
          have hx3 := ext_cell x3
          have d1 : (b1 != b1) = false := by cases b1 <;> rfl
          have d2 : (b2 != b2) = false := by cases b2 <;> rfl
          have d3 : (b3 != b3) = false := by cases b3 <;> rfl
          have G1 := Lib.hid G1
          have G2 := Lib.hid G2
          have G3 := Lib.hid G3
          go_wp2_with fail
          clear d1 d2 d3 x3 hv hV hj2 hj0
          refine wp_region_ext (by kernel_rfl) (by kernel_rfl) ?_
          repeat (first | go_big_quiet_step ((first | (go_at_call 21; with_reducible exact ext_call (G1.out _).1) | (go_at_call 21; with_reducible exact ext_call (G2.out _).1) | (go_at_call 21; with_reducible exact ext_call (G3.out _).1) | (go_at_call 30; with_reducible exact ext_call (G1.out _).2) | (go_at_call 30; with_reducible exact ext_call (G2.out _).2) | (go_at_call 30; with_reducible exact ext_call (G3.out _).2))) | (go_big_quiet_want; (first | ((with_reducible refine quiet_load_head (.tmp 9) ?_ g9 ?_ (len : Int) ra k1 ?_); rfl; rfl) | ((with_reducible refine quiet_load_head (.tmp 13) ?_ g13 ?_ m2 ra k6 ?_); rfl; rfl)); go_simp; go_big_quiet_on))
          refine wpQuiet_nil ?_
          rintro _ ⟨e, rfl⟩
          have hBe := hBi.trans (e.below.mono hBi.size)
          go_wp2_with fail
          go_roundw
          case rel => exact ⟨j + 1, by omega, by go_num, hBe⟩
          case measure => simp [intOf]; omega
        · have t1 : decide (j < 2) = false := decide_eq_false hlj
          have t2 : decide ((j : Int) < 2) = false := decide_eq_false (by omega)
          have hBo := hB9.trans (hBi.mono hB9.size)
          go_wp2_with fail
          go_roundw
          case rel => exact ⟨k + 1, by omega, by go_num, hBo⟩
          case measure => simp [intOf]; omega
    · have t1 : decide (k < 2) = false := decide_eq_false hlt
      have t2 : decide ((k : Int) < 2) = false := decide_eq_false (by omega)
      go_wp2_with fail
      go_ret
      exact ⟨rfl, hB7.trans (hB.mono hB7.size)⟩
set_option maxHeartbeats 8000000 in
set_option maxRecDepth 100000 in
theorem checks_some {v : Value} {l : List UInt8} {w : World} (hv0 : BSlice w v l) (n : Int) (_h0 : -9223372036854775808 ≤ n) (_h1 : n ≤ 9223372036854775807) (q0 q1 q2 q3 : Int) (_i2 : In64 q2) (_i3 : In64 q3) (hp : 0 < (strS l).length) :
    Calls Try.prog 6 #[v, .int .i64 n, .agg #[.int .i64 q0, .int .i64 q1, .int .i64 q2, .int .i64 q3]] w (Said true w) := by
  obtain ⟨L, hLe⟩ : ∃ L, strS l = L := ⟨_, rfl⟩
  rw [hLe] at hp
  have hL20 : L.length ≤ 20 := by rw [← hLe, strS_length]; omega
  have hf : Fits L := by rw [← hLe]; exact strS_fits l
  have HV := Lib.hid hv0
  have HLE := Lib.hid hLe
  clear hv0 hLe
  unfold In64 at _i2 _i3
  have X0 : Box4 (w.alloc (.cells #[.int .i64 q0, .int .i64 q1, .int .i64 q2, .int .i64 q3] 51)) w.heap.size q0 q1 q2 q3 := heap_alloc_new _ _
  have hB0 := (Below.refl w.heap.size w).alloc (Nat.le_refl _) (.cells #[.int .i64 q0, .int .i64 q1, .int .i64 q2, .int .i64 q3] 51)
  obtain ⟨len, hlen⟩ : ∃ len, L.length = len := ⟨_, rfl⟩
  rw [hlen] at hL20 hp
  obtain ⟨ra, hra⟩ : ∃ ra, rootS L = ra := ⟨_, rfl⟩
  obtain ⟨m2, hm2⟩ : ∃ m2, IntKind.i64.wrap ((len : Int) + q2) = m2 := ⟨_, rfl⟩
  have hm2b : m2 ≤ 9223372036854775807 := by rw [← hm2, IntKind.wrap_i64]; omega
  have hm2w : wrap64 ((len : Int) + q2) = m2 := by rw [← hm2, IntKind.wrap_i64]; unfold wrap64; omega
  have HN := Lib.hid hlen
  have HRA := Lib.hid hra
  have X0 := Lib.hid X0
  have M2 := Lib.hid hm2
  have M2w := Lib.hid hm2w
  clear hlen hra hm2 hm2w
  obtain ⟨r, n1, hn1, hr, b1, b2, e1, e2⟩ := place n len hp
  have P1 : Hid (∀ W v, SSlice W v L → Calls Try.prog 23 #[v, .int .i64 (n1 : Int)] W (ListB W (pathL L n1) (pathO L n1))) := fun W v hs => refpath_list hf (by rw [HN.out]; omega) hs
  have PLB : Hid ((pathL L n1).length ≤ 1000) := by
    refine Lib.hid ?_
    unfold pathL
    split
    · have := pathS_len _ L (n1 : Int).toNat (Nat.le_refl _)
      rw [HN.out] at this
      omega
    · exact Nat.zero_le _
  generalize pathL L (n1 : Int) = PL at *
  generalize pathO L (n1 : Int) = po at *
  go_enter Try.func6, Try.ntmps6
  go_wp2_with fail
  refine sanity_any.mono ?_
  rintro e w1 ⟨rfl, hb1⟩
  have X1 := Lib.hid (X0.out.below hb1)
  have hB1 := hB0.trans (hb1.mono hB0.size)
  have hv1 := HV.out.below hB1
  clear X0 hB0 hb1
  have HV1 := Lib.hid hv1
  clear hv1
  go_wp2_with fail
  refine (strings_any HV1.out).mono ?_
  rintro e w2 ⟨s, rfl, hs, hb2⟩
  rw [HLE.out] at hs
  have hB2 := hB1.trans (hb2.mono hB1.size)
  have hs2 := hs.slice
  obtain ⟨a, cap, hse, c1, c2, -⟩ := sslice_form hs2
  rw [HN.out] at hse c1
  rw [hse] at hs2 ⊢
  have HS := Lib.hid hs2
  have X2 := Lib.hid (X1.out.below hb2)
  clear hs hb2 hse hs2 hB1 X1
  go_wp2_with fail
  refine (headof_any HS.out hf).mono ?_
  rintro e w3 ⟨rfl, hb3⟩
  rw [HN.out, HRA.out]
  obtain ⟨v3, hv3, K1, hk3, z3⟩ := head_made w3 (len : Int) ra
  have K1 := Lib.hid K1
  have hB3 := (hB2.trans (hb3.mono hB2.size)).trans (hk3.mono (hB2.trans (hb3.mono hB2.size)).size)
  have HS3 := Lib.hid ((HS.out.below hb3).below hk3)
  have X3 := Lib.hid ((X2.out.below hb3).below hk3)
  go_upto_region 4 with (first | (refine wpList_alloc_cs rfl 36 rfl _ Try.infoHead ?_) | (refine wpList_store_head rfl (.tmp 9) (.tmp 22) rfl w3.heap.size (len : Int) 0 ra _ 36 rfl rfl (heap_alloc_new w3 _) ?_))
  rw [hv3]
  clear HS hB2 hb3 hk3 hv3 X2
  generalize w3.heap.size = g9 at *
  go_wp2_with fail
  refine (P1.out _ _ HS3.out).mono ?_
  rintro e w4 ⟨p, rfl, hpp, hb4⟩
  have HS4 := Lib.hid (HS3.out.below hb4)
  have HP := Lib.hid hpp
  have K1 := Lib.hid (K1.out.below hb4)
  have X4 := Lib.hid (X3.out.below hb4)
  have hB4 := hB3.trans (hb4.mono hB3.size)
  clear HS3 X3 hB3 hb4 hpp z3
  obtain ⟨b, off, ha, hrow⟩ : ∃ b off : Nat, a = some ⟨b, off, none⟩ ∧ SRow w4 b off L := by
    obtain ⟨a', c', h1, -, -, h4⟩ := sslice_form HS4.out
    injection h1 with h1 _ _
    obtain ⟨b, off, h5, h6⟩ := h4 (by rw [HN.out]; omega)
    exact ⟨b, off, h1.trans h5, h6⟩
  subst ha
  have hcell := hrow n1 (by rw [HN.out]; exact hn1)
  obtain ⟨y, hy⟩ : ∃ y, L.getD n1 [] = y := ⟨_, rfl⟩
  have hyl : y.length ≤ 1000 := by
    rw [← hy, ← HLE.out]
    have := strS_two l n1
    omega
  rw [hy] at hcell
  clear hy hrow
  go_upto_region 10 with fail
  clear hcell
  obtain ⟨v5, hv5, K5, hk5, z5⟩ := head_made w4 (len : Int) ra
  have k1 := K1.out
  have X5 := X4.out.below hk5
  go_upto_region 11 with (first | ((with_reducible refine wpList_load_head ?_ (.tmp 9) ?_ g9 ?_ (len : Int) ra k1 ?_); rfl; rfl; rfl) | (refine wpList_alloc_cs rfl 36 rfl _ Try.infoHead ?_) | (refine wpList_store_head rfl (.tmp 13) (.tmp 54) rfl w4.heap.size (len : Int) 0 ra _ 36 rfl rfl (heap_alloc_new w4 _) ?_))
  rw [hv5]
  clear hv5 k1
  have hb6 : Below w4.heap.size w4 (v5.setCell ⟨w4.heap.size, 0, none⟩ (.int .i64 m2)) := hk5.setCell (p := ⟨w4.heap.size, 0, none⟩) (Nat.le_refl _) _
  have K6 := Lib.hid (K5.resize (m := m2))
  have K1 := Lib.hid (K1.out.below hb6)
  have HP6 := HP.out.below hb6
  have X6 := Lib.hid (X4.out.below hb6)
  have hB6 := hB4.trans (hb6.mono hB4.size)
  have c0 := K5.size
  have f0 := K5.frozen (o := 0)
  obtain ⟨x0, x1, x2, x3⟩ := X5.cells
  have hm2w := M2w.out
  have hm2 := M2.out
  obtain ⟨pa, pc, hpe, -⟩ := HP6.form
  rw [hpe] at HP6 ⊢
  have HP6 := Lib.hid HP6
  generalize w4.heap.size = g13 at *
  clear K5 HP X4 hB4 hpe hb6 hk5 z5 X5
  go_upto_region 12 with fail
  clear c0 f0 x0 x1 x2 x3 hm2w hm2 M2 M2w
  generalize v5.setCell ⟨g13, 0, none⟩ (.int .i64 m2) = w6 at *
  go_wp2_with fail
  have hb7 := (Below.refl w6.heap.size w6).alloc (Nat.le_refl _) (.cells #[.string (bs y), .string (bs (y ++ [120]))] 9)
  have hh : (w6.alloc (.cells #[.string (bs y), .string (bs (y ++ [120]))] 9)).heap[w6.heap.size]? = some (.cells #[.string (bs y), .string (bs (y ++ [120]))] 9 (0, 0)) := heap_alloc_new _ _
  have hS : ∀ k, k < 2 → ∃ z : List UInt8, (w6.alloc (.cells #[.string (bs y), .string (bs (y ++ [120]))] 9)).cell? ⟨w6.heap.size, k, none⟩ = some (.string (bs z)) ∧ z.length ≤ 2000 := fun k hk => by
    rcases (by omega : k = 0 ∨ k = 1) with rfl | rfl
    · exact ⟨y, by rw [cell_of_row _ _ 0 _ _ (0, 0) hh]; rfl, by omega⟩
    · exact ⟨y ++ [120], by rw [cell_of_row _ _ 1 _ _ (0, 0) hh]; rfl, by rw [List.length_append]; show _ + 1 ≤ _; omega⟩
  have hxl : w6.heap.size < (w6.alloc (.cells #[.string (bs y), .string (bs (y ++ [120]))] 9)).heap.size := by simp
  have K1 := Lib.hid (K1.out.below hb7)
  have K6 := Lib.hid (K6.out.below hb7)
  have HP7 := Lib.hid (HP6.out.below hb7)
  have X7 := Lib.hid (X6.out.below hb7)
  have hB7 := hB6.trans (hb7.mono hB6.size)
  have HS := Lib.hid hS
  generalize w6.heap.size = gx at *
  generalize (w6.alloc (.cells #[.string (bs y), .string (bs (y ++ [120]))] 9)) = w7 at *
  clear HP6 X6 hB6 hh hb7 hS hyl
  go_loopw [66] (fun i wr => ∃ k : Nat, k ≤ 2 ∧ i = .int .i64 k ∧ Below w7.heap.size w7 wr) (fun i _ => 2 - (intOf i).toNat)
  case atStart => exact ⟨0, by omega, rfl, Below.refl _ _⟩
  case round =>
    obtain ⟨k, hk, rfl, hB⟩ := hrel
    by_cases hlt : k < 2
    · obtain ⟨z, hz, hzl⟩ := HS.out k hlt
      rw [← hB.cell (p := ⟨gx, k, none⟩) hxl] at hz
      obtain ⟨x0, x1, -, -⟩ := (X7.out.below hB).cells
      have hk2 : (k : Int) < 2 := by omega
      have hk0 : (0 : Int) ≤ (k : Int) := by omega
      go_wp2_with fail
      refine (bent_any (HP7.out.below hB) PLB.out).mono ?_
      rintro e w8 ⟨u, J, rfl, hJ, hJl, hb8⟩
      have hB8 := hB.trans (hb8.mono hB.size)
      obtain ⟨ua, uc, hue, -⟩ := hJ.form
      rw [hue] at hJ ⊢
      clear hue x0 x1 hz hb8
      go_wp2_with fail
      have hb9 := (Below.refl w8.heap.size w8).alloc (Nat.le_refl _) (.cells #[.slice pa PL.length pc, .slice ua J.length uc] 38)
      have hh : (w8.alloc (.cells #[.slice pa PL.length pc, .slice ua J.length uc] 38)).heap[w8.heap.size]? = some (.cells #[.slice pa PL.length pc, .slice ua J.length uc] 38 (0, 0)) := heap_alloc_new _ _
      have hS2 : ∀ j, j < 2 → ∃ (va : Option Addr) (vn vc : Nat) (V : List HF), (w8.alloc (.cells #[.slice pa PL.length pc, .slice ua J.length uc] 38)).cell? ⟨w8.heap.size, j, none⟩ = some (.slice va vn vc) ∧ HSlice (w8.alloc (.cells #[.slice pa PL.length pc, .slice ua J.length uc] 38)) (.slice va vn vc) V := fun j hj => by
        rcases (by omega : j = 0 ∨ j = 1) with rfl | rfl
        · exact ⟨pa, _, pc, PL, by rw [cell_of_row _ _ 0 _ _ (0, 0) hh]; rfl, (HP7.out.below hB8).below hb9⟩
        · exact ⟨ua, _, uc, J, by rw [cell_of_row _ _ 1 _ _ (0, 0) hh]; rfl, hJ.below hb9⟩
      have hyl2 : w8.heap.size < (w8.alloc (.cells #[.slice pa PL.length pc, .slice ua J.length uc] 38)).heap.size := by simp
      have K1q := Lib.hid ((K1.out.below hB8).below hb9)
      have K6q := Lib.hid ((K6.out.below hB8).below hb9)
      have Xq := Lib.hid ((X7.out.below hB8).below hb9)
      have hB9 := hB8.trans (hb9.mono hB8.size)
      have HS2 := Lib.hid hS2
      generalize w8.heap.size = gy at *
      generalize (w8.alloc (.cells #[.slice pa PL.length pc, .slice ua J.length uc] 38)) = w9 at *
      clear hS2 hh hb9 hJ hB8 hJl
      go_loopw [80] (fun i wr => ∃ j : Nat, j ≤ 2 ∧ i = .int .i64 j ∧ Below w9.heap.size w9 wr) (fun i _ => 2 - (intOf i).toNat)
      case atStart => exact ⟨0, by omega, rfl, Below.refl _ _⟩
      case round =>
        obtain ⟨j, hj, rfl, hBi⟩ := hrel
        by_cases hlj : j < 2
        · obtain ⟨va, vn, vc, V, hv, hV⟩ := HS2.out j hlj
          rw [← hBi.cell (p := ⟨gy, j, none⟩) hyl2] at hv
          have hV := hV.below hBi
          have k1 := K1q.out.below hBi
          have k6 := K6q.out.below hBi
          obtain ⟨-, -, -, x3⟩ := (Xq.out.below hBi).cells
          have hj2 : (j : Int) < 2 := by omega
          have hj0 : (0 : Int) ≤ (j : Int) := by omega
          obtain ⟨m3, hm3⟩ : ∃ m3, IntKind.i64.wrap ((n1 : Int) + q3) = m3 := ⟨_, rfl⟩
          obtain ⟨b1, G1⟩ := agree_any (size := (len : Int)) (n := (n1 : Int)) (root := ra) (leaf := z) (by omega) (by omega) hV
          obtain ⟨b2, G2⟩ := agree_any (size := m2) (n := (n1 : Int)) (root := ra) (leaf := z) hm2b (by omega) hV
          obtain ⟨b3, G3⟩ := agree_any (size := (len : Int)) (n := m3) (root := ra) (leaf := z) (by omega) (by omega) hV
          have hx3 := ext_cell x3
          have d1 : (b1 != b1) = false := by cases b1 <;> rfl
          have d2 : (b2 != b2) = false := by cases b2 <;> rfl
          have d3 : (b3 != b3) = false := by cases b3 <;> rfl
          have G1 := Lib.hid G1
          have G2 := Lib.hid G2
          have G3 := Lib.hid G3
          go_wp2_with fail
          clear d1 d2 d3 x3 hv hV hj2 hj0
          refine wp_region_ext (by kernel_rfl) (by kernel_rfl) ?_
          repeat (first | go_big_quiet_step ((first | (go_at_call 21; with_reducible exact ext_call (G1.out _).1) | (go_at_call 21; with_reducible exact ext_call (G2.out _).1) | (go_at_call 21; with_reducible exact ext_call (G3.out _).1) | (go_at_call 30; with_reducible exact ext_call (G1.out _).2) | (go_at_call 30; with_reducible exact ext_call (G2.out _).2) | (go_at_call 30; with_reducible exact ext_call (G3.out _).2))) | (go_big_quiet_want; (first | ((with_reducible refine quiet_load_head (.tmp 9) ?_ g9 ?_ (len : Int) ra k1 ?_); rfl; rfl) | ((with_reducible refine quiet_load_head (.tmp 13) ?_ g13 ?_ m2 ra k6 ?_); rfl; rfl)); go_simp; go_big_quiet_on))
          refine wpQuiet_nil ?_
          rintro _ ⟨e, rfl⟩
          have hBe := hBi.trans (e.below.mono hBi.size)
          go_wp2_with fail
          go_roundw
          case rel => exact ⟨j + 1, by omega, by go_num, hBe⟩
          case measure => simp [intOf]; omega
        · have t1 : decide (j < 2) = false := decide_eq_false hlj
          have t2 : decide ((j : Int) < 2) = false := decide_eq_false (by omega)
          have hBo := hB9.trans (hBi.mono hB9.size)
          go_wp2_with fail
          go_roundw
          case rel => exact ⟨k + 1, by omega, by go_num, hBo⟩
          case measure => simp [intOf]; omega
    · have t1 : decide (k < 2) = false := decide_eq_false hlt
      have t2 : decide ((k : Int) < 2) = false := decide_eq_false (by omega)
      go_wp2_with fail
      go_ret
      exact ⟨rfl, hB7.trans (hB.mono hB7.size)⟩
theorem checks_walk {v : Value} {l : List UInt8} {w : World} (hv0 : BSlice w v l) (n : Int) (h0 : -9223372036854775808 ≤ n) (h1 : n ≤ 9223372036854775807) (q0 q1 q2 q3 : Int) (_i0 : In64 q0) (_i1 : In64 q1) (i2 : In64 q2) (i3 : In64 q3) :
    Calls Try.prog 6 #[v, .int .i64 n, .agg #[.int .i64 q0, .int .i64 q1, .int .i64 q2, .int .i64 q3]] w (Said true w) := by
  by_cases hp : 0 < (strS l).length
  · exact checks_some hv0 n h0 h1 q0 q1 q2 q3 i2 i3 hp
  · by_cases hn : n < 0
    · exact checks_neg hv0 n h0 h1 q0 q1 q2 q3 i2 i3 (by omega) hn
    · exact checks_zero hv0 n h0 h1 q0 q1 q2 q3 i2 i3 (by omega) (by omega)

set_option maxRecDepth 100000 in
theorem checks_lifted (os : Os) (started : os.Started) (H : Type) (enc : TypeId × Value → H) :
    ReturnsInHanded {} Try.checked os 6 .any (Rows.treeChecksSpec.pre6 enc Try.prog Try.f6 Rows.treeChecksRow.domain false) (Rows.treeChecksSpec.post enc Try.prog Try.f6 false true false false) := by
  refine returnsInHanded_of_change (C := Try.checked) own started (by kernel_rfl) Try.func6
    (ChangeSpec.witness6 (enc := enc) (C := Try.checked) false ⟨#[], #[.slice none 0 0, .int .i64 0, .agg #[.int .i64 0, .int .i64 0, .int .i64 0, .int .i64 0]], []⟩ 8 (by kernel_rfl) (by kernel_rfl) (by kernel_rfl) (by kernel_rfl)) ?_
  intro W base args ds gs before hval0 hW hcnd _
  have hval : ∀ (j : Nat) t v, Try.f6.params[j]? = some t → args[j]? = some v → Value.okWide Try.prog W .any base t v := hval0
  obtain ⟨p, q, hA0, hV, -, -, -⟩ := id hW
  have hA : DataW.TrodAll enc Try.prog W 0 (fun _ => true) true Try.f6.params.toList args.toList ds p := hA0
  rw [Try.params6] at hA hval
  obtain ⟨v0, vs0, d0, ds0, p0, q0, hargs, rfl, rfl, h0, r0⟩ := trodAll_cons hA
  obtain ⟨v1, vs1, d1, ds1, p1, q1, rfl, rfl, rfl, h1, r1⟩ := trodAll_cons r0
  obtain ⟨v2, vs2, d2, ds2, p2, q2, rfl, rfl, rfl, h2, r2⟩ := trodAll_cons r1
  obtain ⟨rfl, rfl, rfl⟩ := trodAll_nil r2
  obtain rfl : args = #[v0, v1, v2] := by cases args; simp_all
  obtain ⟨rfl, -⟩ := trodVars_none hV
  obtain ⟨a0, hs0⟩ := open_bslice Try.underlying30 Try.underlying5 (by kernel_rfl) (hval 0 30 v0 rfl rfl) h0
  obtain ⟨a1, rfl, wl1, wh1⟩ := open_i64 Try.underlying3 (hval 1 3 v1 rfl rfl)
  obtain ⟨a2, b2, c2, e2, rfl, wa2, wb2, wc2, wd2⟩ := open_four (e := 3) Try.underlying51 Try.underlying3 (by kernel_rfl) (by kernel_rfl) (hval 2 51 v2 rfl rfl)
  refine (checks_walk hs0 _ wl1 wh1 _ _ _ _ wa2 wb2 wc2 wd2).mono fun e W' ⟨he, hg⟩ => ?_
  subst he
  exact ⟨_, rfl, law_post (tb := 4) laidOut (by decide +kernel) rfl Try.underlying4 rfl hW rfl hg⟩

theorem checks_proved : Rows.TreeChecksSaid :=
  OpenClaim.holds_of_wide 6 Try.f6 rfl rfl rfl rfl rfl rfl rfl ⟨rfl, rfl, rfl, rfl, rfl⟩ rfl rfl rfl rfl rfl (by kernel_rfl) Try.func6 (by kernel_rfl)
    (of_decide_eq_true (by kernel_rfl)) (by unfold Func.isWrapper; first | (rw [if_pos (by decide +kernel)]; kernel_rfl) | (rw [if_neg (by decide +kernel)]; exact ⟨rfl, rfl⟩))
    (fun os started H enc _ => checks_lifted os started H enc)
#print axioms checks_proved

end Go.Proofs.Ytijhdfllffkfjaa
