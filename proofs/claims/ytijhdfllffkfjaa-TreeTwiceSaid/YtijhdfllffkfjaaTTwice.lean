/- TreeTwice returns true for all numbers, and its arguments read behind the call as before. No condition. -/
import Derived.Test.YtijhdfllffkfjaaTrY
namespace Go.Proofs.Ytijhdfllffkfjaa
open Go.ChangeShapes Go.WideShapes Go.ChangeAt Go.RowKit
attribute [local go_sem] bareOp

set_option maxHeartbeats 8000000 in
set_option maxRecDepth 100000 in
theorem twice_walk {v : Value} {l : List UInt8} {w : World} (hv0 : BSlice w v l) (x y : UInt8) :
    Calls Try.prog 11 #[v, .int .u8 (ub x), .int .u8 (ub y)] w (Said true w) := by
  obtain ⟨L, hLe⟩ : ∃ L, strS l = L := ⟨_, rfl⟩
  have hL20 : L.length ≤ 20 := by rw [← hLe, strS_length]; omega
  have hf : Fits L := by rw [← hLe]; exact strS_fits l
  have HV := Lib.hid hv0
  have HLE := Lib.hid hLe
  clear hv0 hLe
  have ux0 := ub_nonneg x
  have ux1 := ub_lt x
  have uy0 := ub_nonneg y
  have uy1 := ub_lt y
  obtain ⟨len, hlen⟩ : ∃ len, L.length = len := ⟨_, rfl⟩
  rw [hlen] at hL20
  obtain ⟨m, hm, hmx, hmt⟩ := ub_mod x (len + 1) (by omega)
  obtain ⟨n, hn, hnx, hnt⟩ := ub_mod y (m + 1) (by omega)
  rw [show ((len + 1 : Nat) : Int) = (len : Int) + 1 by omega] at hmx hmt
  rw [show ((m + 1 : Nat) : Int) = (m : Int) + 1 by omega] at hnx hnt
  have HN := Lib.hid hlen
  obtain ⟨rn, hrn⟩ : ∃ rn, rootS (L.take n) = rn := ⟨_, rfl⟩
  obtain ⟨rm, hrm⟩ : ∃ rm, rootS (L.take m) = rm := ⟨_, rfl⟩
  obtain ⟨ra, hra⟩ : ∃ ra, rootS L = ra := ⟨_, rfl⟩
  have ltm : (L.take m).length = m := by rw [List.length_take]; omega
  have ltn : (L.take m).take n = L.take n := by rw [List.take_take, show min n m = n by omega]
  have R1 : Hid (∀ W v, SSlice W v (L.take n) → Calls Try.prog 16 #[v] W fun e w' => e = .returned (.agg (arr 32 (U8 rn))) ∧ Below W.heap.size W w') := fun W v h => by rw [← hrn]; exact root_any h (hf.take n)
  have R2 : Hid (∀ W v, SSlice W v (L.take m) → Calls Try.prog 16 #[v] W fun e w' => e = .returned (.agg (arr 32 (U8 rm))) ∧ Below W.heap.size W w') := fun W v h => by rw [← hrm]; exact root_any h (hf.take m)
  have R3 : Hid (∀ W v, SSlice W v L → Calls Try.prog 16 #[v] W fun e w' => e = .returned (.agg (arr 32 (U8 ra))) ∧ Below W.heap.size W w') := fun W v h => by rw [← hra]; exact root_any h hf
  have Q1 : Hid (∀ W v, SSlice W v (L.take m) → Calls Try.prog 34 #[v, .int .i64 (n : Int)] W (ListB W (growthS (L.take m) n) true)) := fun W v h => by have := growth_list (n := (n : Int)) (hf.take m) h; rwa [growL_nat (by rw [ltm]; omega), growO_nat (by rw [ltm]; omega)] at this
  have Q2 : Hid (∀ W v, SSlice W v L → Calls Try.prog 34 #[v, .int .i64 (m : Int)] W (ListB W (growthS L m) true)) := fun W v h => by have := growth_list (n := (m : Int)) hf h; rwa [growL_nat (by omega), growO_nat (by omega)] at this
  have Q3 : Hid (∀ W v, SSlice W v L → Calls Try.prog 34 #[v, .int .i64 (n : Int)] W (ListB W (growthS L n) true)) := fun W v h => by have := growth_list (n := (n : Int)) hf h; rwa [growL_nat (by omega), growO_nat (by omega)] at this
  have T1 : Hid (∀ W v, HSlice W v (growthS (L.take m) n) → Calls Try.prog 32 #[.agg (hd (n : Int) rn), .agg (hd (m : Int) rm), v] W (Said true W)) := fun W v h => by
    have := grows_true (L := L.take m) (k := n) (by rw [ltm]; omega) (by rw [ltm]; omega) h
    rwa [ltm, ltn, hrn, hrm] at this
  have T2 : Hid (∀ W v, HSlice W v (growthS L m) → Calls Try.prog 32 #[.agg (hd (m : Int) rm), .agg (hd (len : Int) ra), v] W (Said true W)) := fun W v h => by
    have := grows_true (L := L) (k := m) (by omega) (by omega) h
    rwa [hlen, hrm, hra] at this
  have T3 : Hid (∀ W v, HSlice W v (growthS L n) → Calls Try.prog 32 #[.agg (hd (n : Int) rn), .agg (hd (len : Int) ra), v] W (Said true W)) := fun W v h => by
    have := grows_true (L := L) (k := n) (by omega) (by omega) h
    rwa [hlen, hrn, hra] at this
  have P1 : Hid (0 < n → ∀ W v, SSlice W v (L.take m) → Calls Try.prog 28 #[v, .int .i64 ((n : Int) - 1)] W (ListB W (pathS (L.take m) (n - 1)) true)) := fun hn0 W v h => by
    have := path_list (n := ((n - 1 : Nat) : Int)) (hf.take m) (by rw [ltm]; omega) h
    rwa [pathL_nat (by rw [ltm]; omega), pathO_nat (by rw [ltm]; omega), show ((n - 1 : Nat) : Int) = (n : Int) - 1 by omega] at this
  have P2 : Hid (0 < n → ∀ W v, SSlice W v L → Calls Try.prog 28 #[v, .int .i64 ((n : Int) - 1)] W (ListB W (pathS L (n - 1)) true)) := fun hn0 W v h => by
    have := path_list (n := ((n - 1 : Nat) : Int)) hf (by omega) h
    rwa [pathL_nat (by omega), pathO_nat (by omega), show ((n - 1 : Nat) : Int) = (n : Int) - 1 by omega] at this
  obtain ⟨st, hst⟩ : ∃ st, L.getD (n - 1) [] = st := ⟨_, rfl⟩
  have F1 : Hid (0 < n → ∀ W v, HSlice W v (pathS (L.take m) (n - 1)) → Calls Try.prog 21 #[.agg (hd (m : Int) rm), .int .i64 ((n : Int) - 1), .string (bs st), v] W (Said true W)) := fun hn0 W v h => by
    have := fits_true (L := L.take m) (k := n - 1) (by rw [ltm]; omega) (by rw [ltm]; omega) (hf.take m) h
    have e : (L.take m).getD (n - 1) [] = st := by rw [← hst, List.getD_eq_getElem?_getD, List.getD_eq_getElem?_getD, List.getElem?_take, if_pos (by omega)]
    rwa [ltm, e, hrm, show ((n - 1 : Nat) : Int) = (n : Int) - 1 by omega] at this
  have F2 : Hid (0 < n → ∀ W v, HSlice W v (pathS L (n - 1)) → Calls Try.prog 21 #[.agg (hd (len : Int) ra), .int .i64 ((n : Int) - 1), .string (bs st), v] W (Said true W)) := fun hn0 W v h => by
    have := fits_true (L := L) (k := n - 1) (by omega) (by omega) hf h
    rwa [hlen, hst, hra, show ((n - 1 : Nat) : Int) = (n : Int) - 1 by omega] at this
  have D1 : Hid (0 < n → (pathS (L.take m) (n - 1)).length ≤ (pathS L (n - 1)).length ∧ (pathS L (n - 1)).length ≤ 5) := fun hn0 => by
    rw [pathS_way _ (L.take m) (n - 1) (Nat.le_refl _) (by rw [ltm]; omega), pathS_way _ L (n - 1) (Nat.le_refl _) (by omega), ltm]
    exact ⟨way_mono _ (n - 1) m L.length (Nat.le_refl _) (by omega) (by omega), wayS_len 5 (n - 1) L.length (by omega)⟩
  have HST := Lib.hid hst
  clear hlen hrn hrm hra ltm ltn hst
  generalize growthS (L.take m) n = H1 at *
  generalize growthS L m = H2 at *
  generalize growthS L n = H3 at *
  generalize pathS (L.take m) (n - 1) = J1 at *
  generalize pathS L (n - 1) = J2 at *
  go_enter Try.func11, Try.ntmps11
  go_wp2_with fail
  refine sanity_any.mono ?_
  rintro e w1 ⟨rfl, hb1⟩
  go_wp2_with fail
  refine (strings_any (HV.out.below hb1)).mono ?_
  rintro e w2 ⟨s, rfl, hs, hb2⟩
  rw [HLE.out] at hs
  have hB2 := hb1.trans (hb2.mono hb1.size)
  have hs2 := hs.slice
  obtain ⟨a, cap, hse, c1, c2, -⟩ := sslice_form hs2
  rw [HN.out] at hse c1
  rw [hse] at hs2 ⊢
  have HS := Lib.hid hs2
  clear hs hb1 hb2 hse hs2
  go_wp2_with fail
  refine (R1.out _ _ (sslice_cut HS.out HN.out n (by omega))).mono ?_
  rintro e w3 ⟨rfl, hb3⟩
  obtain ⟨v3, hv3, K1, hk3, z3⟩ := head_made w3 (n : Int) rn
  have K1 := Lib.hid K1
  have hB3 := (hB2.trans (hb3.mono hB2.size)).trans (hk3.mono (hB2.trans (hb3.mono hB2.size)).size)
  have HS3 := Lib.hid ((HS.out.below hb3).below hk3)
  go_upto_region 6 with (first | (refine wpList_build_head rfl (.tmp 38) (.tmp 42) rfl (n : Int) rn rfl rfl ?_) | (refine wpList_alloc_cs rfl 36 rfl _ Try.infoHead ?_) | (refine wpList_store_head rfl (.tmp 11) (.tmp 43) rfl w3.heap.size (n : Int) 0 rn _ 36 rfl rfl (heap_alloc_new w3 _) ?_))
  rw [hv3]
  clear HS hB2 R1 hb3 hk3 hv3
  go_wp2_with fail
  refine (R2.out _ _ (sslice_cut HS3.out HN.out m (by omega))).mono ?_
  rintro e w4 ⟨rfl, hb4⟩
  obtain ⟨v4, hv4, K2, hk4, z4⟩ := head_made w4 (m : Int) rm
  have K2 := Lib.hid K2
  have K1 := Lib.hid ((K1.out.below hb4).below hk4)
  have hB4 := (hB3.trans (hb4.mono hB3.size)).trans (hk4.mono (hB3.trans (hb4.mono hB3.size)).size)
  have HS4 := Lib.hid ((HS3.out.below hb4).below hk4)
  go_upto_region 7 with (first | (refine wpList_build_head rfl (.tmp 44) (.tmp 48) rfl (m : Int) rm rfl rfl ?_) | (refine wpList_alloc_cs rfl 36 rfl _ Try.infoHead ?_) | (refine wpList_store_head rfl (.tmp 12) (.tmp 49) rfl w4.heap.size (m : Int) 0 rm _ 36 rfl rfl (heap_alloc_new w4 _) ?_))
  rw [hv4]
  clear HS3 hB3 R2 hb4 hk4 hv4
  go_wp2_with fail
  refine (R3.out _ _ HS4.out).mono ?_
  rintro e w5 ⟨rfl, hb5⟩
  obtain ⟨v5, hv5, K3, hk5, z5⟩ := head_made w5 (len : Int) ra
  have K3 := Lib.hid K3
  have K1 := Lib.hid ((K1.out.below hb5).below hk5)
  have K2 := Lib.hid ((K2.out.below hb5).below hk5)
  have hB5 := (hB4.trans (hb5.mono hB4.size)).trans (hk5.mono (hB4.trans (hb5.mono hB4.size)).size)
  have HS5 := Lib.hid ((HS4.out.below hb5).below hk5)
  go_upto_region 8 with (first | (refine wpList_build_head rfl (.tmp 51) (.tmp 53) rfl (len : Int) ra rfl rfl ?_) | (refine wpList_alloc_cs rfl 36 rfl _ Try.infoHead ?_) | (refine wpList_store_head rfl (.tmp 13) (.tmp 54) rfl w5.heap.size (len : Int) 0 ra _ 36 rfl rfl (heap_alloc_new w5 _) ?_))
  rw [hv5]
  clear HS4 hB4 R3 hb5 hk5 hv5
  generalize w3.heap.size = g1 at *
  generalize w4.heap.size = g2 at *
  generalize w5.heap.size = g3 at *
  go_wp2_with fail
  refine (Q1.out _ _ (sslice_cut HS5.out HN.out m (by omega))).mono ?_
  rintro e w6 ⟨p1, rfl, hp1, hb6⟩
  have E6 := Lib.hid hb6
  have HS6 := Lib.hid (HS5.out.below hb6)
  have M1 := Lib.hid hp1
  have hB6 := hB5.trans (hb6.mono hB5.size)
  clear Q1 HS5 hp1 hb6 hB5
  go_wp2_with fail
  refine (Q2.out _ _ HS6.out).mono ?_
  rintro e w7 ⟨p2, rfl, hp2, hb7⟩
  have E7 := Lib.hid (E6.out.trans (hb7.mono E6.out.size))
  have HS7 := Lib.hid (HS6.out.below hb7)
  have M1 := Lib.hid (M1.out.below hb7)
  have M2 := Lib.hid hp2
  have hB7 := hB6.trans (hb7.mono hB6.size)
  clear Q2 HS6 hp2 hb7 hB6 E6
  go_wp2_with fail
  refine (Q3.out _ _ HS7.out).mono ?_
  rintro e w8 ⟨p3, rfl, hp3, hb8⟩
  have E8 := E7.out.trans (hb8.mono E7.out.size)
  have HS8 := Lib.hid (HS7.out.below hb8)
  have M1 := Lib.hid (M1.out.below hb8)
  have M2 := Lib.hid (M2.out.below hb8)
  have M3 := Lib.hid hp3
  have hB8 := hB7.trans (hb8.mono hB7.size)
  have K1 := K1.out.below E8
  have K2 := K2.out.below E8
  have K3 := K3.out.below E8
  clear Q3 HS7 hp3 hb8 hB7 E7 E8
  go_wp2_with (first | ((with_reducible refine wpList_bare ?_ ?_); rfl; (with_reducible refine wpList_load_head ?_ (.tmp 11) ?_ g1 ?_ (n : Int) rn K1 ?_); rfl; rfl; rfl) | ((with_reducible refine wpList_bare ?_ ?_); rfl; (with_reducible refine wpList_load_head ?_ (.tmp 12) ?_ g2 ?_ (m : Int) rm K2 ?_); rfl; rfl; rfl) | ((with_reducible refine wpList_bare ?_ ?_); rfl; (with_reducible refine wpList_load_head ?_ (.tmp 13) ?_ g3 ?_ (len : Int) ra K3 ?_); rfl; rfl; rfl))
  refine (T1.out _ _ M1.out).mono ?_
  rintro e w9 ⟨rfl, hb9⟩
  have HS9 := Lib.hid (HS8.out.below hb9)
  have M2 := Lib.hid (M2.out.below hb9)
  have M3 := Lib.hid (M3.out.below hb9)
  have hB9 := hB8.trans (hb9.mono hB8.size)
  have K1 := K1.below hb9
  have K2 := K2.below hb9
  have K3 := K3.below hb9
  clear T1 HS8 M1 hb9 hB8
  go_wp2_with (first | ((with_reducible refine wpList_bare ?_ ?_); rfl; (with_reducible refine wpList_load_head ?_ (.tmp 11) ?_ g1 ?_ (n : Int) rn K1 ?_); rfl; rfl; rfl) | ((with_reducible refine wpList_bare ?_ ?_); rfl; (with_reducible refine wpList_load_head ?_ (.tmp 12) ?_ g2 ?_ (m : Int) rm K2 ?_); rfl; rfl; rfl) | ((with_reducible refine wpList_bare ?_ ?_); rfl; (with_reducible refine wpList_load_head ?_ (.tmp 13) ?_ g3 ?_ (len : Int) ra K3 ?_); rfl; rfl; rfl))
  refine (T2.out _ _ M2.out).mono ?_
  rintro e w10 ⟨rfl, hb10⟩
  have HS10 := Lib.hid (HS9.out.below hb10)
  have M3 := Lib.hid (M3.out.below hb10)
  have hB10 := hB9.trans (hb10.mono hB9.size)
  have K1 := K1.below hb10
  have K2 := K2.below hb10
  have K3 := K3.below hb10
  clear T2 HS9 M2 hb10 hB9
  go_wp2_with (first | ((with_reducible refine wpList_bare ?_ ?_); rfl; (with_reducible refine wpList_load_head ?_ (.tmp 11) ?_ g1 ?_ (n : Int) rn K1 ?_); rfl; rfl; rfl) | ((with_reducible refine wpList_bare ?_ ?_); rfl; (with_reducible refine wpList_load_head ?_ (.tmp 12) ?_ g2 ?_ (m : Int) rm K2 ?_); rfl; rfl; rfl) | ((with_reducible refine wpList_bare ?_ ?_); rfl; (with_reducible refine wpList_load_head ?_ (.tmp 13) ?_ g3 ?_ (len : Int) ra K3 ?_); rfl; rfl; rfl))
  refine (T3.out _ _ M3.out).mono ?_
  rintro e w11 ⟨rfl, hb11⟩
  have HS11 := Lib.hid (HS10.out.below hb11)
  have hB11 := hB10.trans (hb11.mono hB10.size)
  have K2 := Lib.hid (K2.below hb11)
  have K3 := Lib.hid (K3.below hb11)
  clear T3 HS10 M3 hb11 hB10 K1
  by_cases hn0 : n = 0
  · have t0 : ((n : Int) == 0) = true := by simp; omega
    clear hn0
    go_wp2_with fail
    go_ret
    exact ⟨rfl, hB11⟩
  · have t0 : ((n : Int) == 0) = false := by simp; omega
    have t1 : 1 ≤ (n : Int) := by omega
    obtain ⟨k, hk⟩ : ∃ k : Nat, n - 1 = k := ⟨_, rfl⟩
    have hk1 : (n : Int) - 1 = (k : Int) := by omega
    have P1 := P1.out (by omega)
    have P2 := P2.out (by omega)
    have F1 := F1.out (by omega)
    have F2 := F2.out (by omega)
    have D1 := Lib.hid (D1.out (by omega))
    rw [hk1] at P1 P2 F1 F2
    rw [hk] at HST
    have P1 := Lib.hid P1
    have P2 := Lib.hid P2
    have F1 := Lib.hid F1
    have F2 := Lib.hid F2
    have hkl : (k : Int) < (len : Int) := by omega
    have hkN : k < len := by omega
    clear hn0 hk
    go_wp2_with fail
    refine (P1.out _ _ (sslice_cut HS11.out HN.out m (by omega))).mono ?_
    rintro e w12 ⟨p4, rfl, hp4, hb12⟩
    have E12 := Lib.hid hb12
    have HS12 := Lib.hid (HS11.out.below hb12)
    have M4 := Lib.hid hp4
    have hB12 := hB11.trans (hb12.mono hB11.size)
    clear P1 HS11 hp4 hb12 hB11
    go_wp2_with fail
    refine (P2.out _ _ HS12.out).mono ?_
    rintro e w13 ⟨p5, rfl, hp5, hb13⟩
    have E13 := E12.out.trans (hb13.mono E12.out.size)
    have HS13 := HS12.out.below hb13
    have M4 := M4.out.below hb13
    have hB13 := hB12.trans (hb13.mono hB12.size)
    have K2 := K2.out.below E13
    have K3 := K3.out.below E13
    obtain ⟨a4, c4, he4, -⟩ := M4.form
    obtain ⟨a5, c5, he5, -⟩ := hp5.form
    subst he4
    subst he5
    obtain ⟨b, off, ha, hrow⟩ : ∃ b off : Nat, a = some ⟨b, off, none⟩ ∧ SRow w13 b off L := by
      obtain ⟨a', c', h1, -, -, h4⟩ := sslice_form HS13
      injection h1 with h1 _ _
      obtain ⟨b, off, h5, h6⟩ := h4 (by rw [HN.out]; omega)
      exact ⟨b, off, h1.trans h5, h6⟩
    subst ha
    have hcell := hrow k (by rw [HN.out]; omega)
    rw [HST.out] at hcell
    have hx : ∀ e : Ext w13, e.at.cell? ⟨b, off + k, none⟩ = some (.string (bs st)) := ext_cell hcell
    have G1 : Hid (∀ e : Ext w13, Calls Try.prog 21 #[.agg (hd (m : Int) rm), .int .i64 (k : Int), .string (bs st), .slice a4 J1.length c4] e.at fun x w' => x = .returned (.bool true) ∧ Below e.at.heap.size e.at w') := fun e => F1.out _ _ (M4.below e.below)
    have G2 : Hid (∀ e : Ext w13, Calls Try.prog 21 #[.agg (hd (len : Int) ra), .int .i64 (k : Int), .string (bs st), .slice a5 J2.length c5] e.at fun x w' => x = .returned (.bool true) ∧ Below e.at.heap.size e.at w') := fun e => F2.out _ _ (hp5.below e.below)
    have d1 := D1.out.1
    have d2 := D1.out.2
    generalize J1.length = j1 at *
    generalize J2.length = j2 at *
    have d3 : decide (j1 ≤ j2) = true := decide_eq_true d1
    have d4 : decide ((j1 : Int) ≤ (j2 : Int)) = true := decide_eq_true (by omega)
    have d5 : decide ((j2 : Int) ≤ 5) = true := decide_eq_true (by omega)
    have d6 : decide (j2 ≤ 5) = true := decide_eq_true d2
    clear hrow hcell M4 hp5 F1 F2 P2 D1 HS13 HS12 E13 E12 hb13 hB12 d1 d2 HST
    go_wp2_with fail
    have s1 : IntKind.i64.wrap ((n : Int) - 1) = (k : Int) := by rw [IntKind.wrap_i64]; omega
    refine wp_region_ext (by kernel_rfl) (by kernel_rfl) ?_
    repeat (first | go_big_quiet_step ((first | (go_at_call 21; with_reducible exact ext_call (G1.out _)) | (go_at_call 21; with_reducible exact ext_call (G2.out _)))) | (go_big_quiet_want; (first | ((with_reducible refine quiet_load_head (.tmp 12) ?_ g2 ?_ (m : Int) rm K2 ?_); rfl; rfl) | ((with_reducible refine quiet_load_head (.tmp 13) ?_ g3 ?_ (len : Int) ra K3 ?_); rfl; rfl)); go_simp; go_big_quiet_on))
    refine wpQuiet_nil ?_
    rintro _ ⟨e, rfl⟩
    go_wp2_with fail
    go_ret
    exact ⟨rfl, hB13.trans (e.below.mono hB13.size)⟩

set_option maxRecDepth 100000 in
theorem twice_lifted (os : Os) (started : os.Started) (H : Type) (enc : TypeId × Value → H) :
    ReturnsInHanded {} Try.checked os 11 .any (Rows.treeTwiceSpec.pre6 enc Try.prog Try.f11 Rows.treeTwiceRow.domain false) (Rows.treeTwiceSpec.post enc Try.prog Try.f11 false true false false) := by
  refine returnsInHanded_of_change (C := Try.checked) own started (by kernel_rfl) Try.func11
    (ChangeSpec.witness6 (enc := enc) (C := Try.checked) false ⟨#[], #[.slice none 0 0, .int .u8 0, .int .u8 0], []⟩ 8 (by kernel_rfl) (by kernel_rfl) (by kernel_rfl) (by kernel_rfl)) ?_
  intro W base args ds gs before hval0 hW hcnd _
  have hval : ∀ (j : Nat) t v, Try.f11.params[j]? = some t → args[j]? = some v → Value.okWide Try.prog W .any base t v := hval0
  obtain ⟨p, q, hA0, hV, -, -, -⟩ := id hW
  have hA : DataW.TrodAll enc Try.prog W 0 (fun _ => true) true Try.f11.params.toList args.toList ds p := hA0
  rw [Try.params11] at hA hval
  obtain ⟨v0, vs0, d0, ds0, p0, q0, hargs, rfl, rfl, h0, r0⟩ := trodAll_cons hA
  obtain ⟨v1, vs1, d1, ds1, p1, q1, rfl, rfl, rfl, h1, r1⟩ := trodAll_cons r0
  obtain ⟨v2, vs2, d2, ds2, p2, q2, rfl, rfl, rfl, h2, r2⟩ := trodAll_cons r1
  obtain ⟨rfl, rfl, rfl⟩ := trodAll_nil r2
  obtain rfl : args = #[v0, v1, v2] := by cases args; simp_all
  obtain ⟨rfl, -⟩ := trodVars_none hV
  obtain ⟨a0, hs0⟩ := open_bslice Try.underlying30 Try.underlying5 (by kernel_rfl) (hval 0 30 v0 rfl rfl) h0
  obtain ⟨a1, rfl⟩ := open_u8 Try.underlying5 (hval 1 5 v1 rfl rfl)
  obtain ⟨a2, rfl⟩ := open_u8 Try.underlying5 (hval 2 5 v2 rfl rfl)
  refine (twice_walk hs0 _ _).mono fun e W' ⟨he, hg⟩ => ?_
  subst he
  exact ⟨_, rfl, law_post (tb := 4) laidOut (by decide +kernel) rfl Try.underlying4 rfl hW rfl hg⟩

theorem twice_proved : Rows.TreeTwiceSaid :=
  OpenClaim.holds_of_wide 11 Try.f11 rfl rfl rfl rfl rfl rfl rfl ⟨rfl, rfl, rfl, rfl, rfl⟩ rfl rfl rfl rfl rfl (by kernel_rfl) Try.func11 (by kernel_rfl)
    (of_decide_eq_true (by kernel_rfl)) (by unfold Func.isWrapper; first | (rw [if_pos (by decide +kernel)]; kernel_rfl) | (rw [if_neg (by decide +kernel)]; exact ⟨rfl, rfl⟩))
    (fun os started H enc _ => twice_lifted os started H enc)
#print axioms twice_proved

end Go.Proofs.Ytijhdfllffkfjaa
