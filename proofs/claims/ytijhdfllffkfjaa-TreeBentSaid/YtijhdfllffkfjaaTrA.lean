/- Leaves, nodes, halves: both implementations. -/
import Derived.Test.YtijhdfllffkfjaaHash
import Derived.Deep.RegionWith
import Derived.ChangeAlike
import Derived.StillTailTactics
namespace Go.Proofs.Ytijhdfllffkfjaa
open Go.RowKit

def hv (f : Nat → UInt8) : Value := .agg (arr 32 (U8 f))
set_option maxHeartbeats 1000000 in
theorem half_any {n : Nat} {w : World} (h2 : 2 ≤ n) (hm : n ≤ 9223372036854775807) :
    Calls Try.prog 38 #[.int .i64 (n : Int)] w fun e w' => e = .returned (.int .i64 (halfN n : Int)) ∧ w' = w := by
  go_enter Try.func38, Try.ntmps38
  go_wp2_with fail
  go_loop [3, 4] (fun k i => ∃ j K : Nat, j ≤ 62 ∧ i = .int .i64 j ∧ k = .int .i64 K ∧ Hid (K = 2 ^ j) ∧ 1 ≤ K ∧ K < n) (fun _ i => 64 - (intOf i).toNat)
  case atStart => exact ⟨0, 1, by omega, rfl, rfl, rfl, by omega, by omega⟩
  case round =>
    obtain ⟨j, K, hj, rfl, rfl, hK, hK1, hKn⟩ := hrel
    have hlt : (j : Int) < 63 := by omega
    by_cases hex : n ≤ 2 * K
    · have ht : (n : Int) - (K : Int) ≤ (K : Int) := by omega
      have hh : halfN n = K := by
        rw [halfN_is (j := j) (by rw [← hK.out]; exact hKn) (by rw [Nat.pow_succ, ← hK.out]; omega), hK.out]
      have HH := Lib.hid hh
      clear hh
      go_wp2
      rw [← HH.out]
      go_ret
      exact ⟨rfl, rfl⟩
    · have ht : decide ((n : Int) - (K : Int) ≤ (K : Int)) = false := decide_eq_false (by omega)
      have hj2 : j + 1 ≤ 62 := by
        have h1 : 2 * K < 9223372036854775807 := by omega
        rw [hK.out] at h1
        rcases Nat.lt_or_ge j 62 with h | h
        · omega
        · have := Nat.pow_le_pow_right (show 2 > 0 by omega) h
          omega
      have hw : wrap64 ((K : Int) * 2) = (K : Int) * 2 := by unfold wrap64; omega
      have hK2 : Hid (2 * K = 2 ^ (j + 1)) := by show _ = _; rw [Nat.pow_succ, ← hK.out]; omega
      have hle : 2 * K < n := by omega
      have HL := Lib.hid hle
      clear hex hle
      go_wp2_with fail
      go_round
      case rel => exact ⟨j + 1, 2 * K, hj2, by go_num, by rw [Nat.mul_comm]; go_num, hK2, by omega, HL.out⟩
      case measure => simp [intOf]; omega
set_option maxHeartbeats 1000000 in
theorem refhalf_any {n : Nat} {w : World} (h2 : 2 ≤ n) (hm : n ≤ 9223372036854775807) :
    Calls Try.prog 39 #[.int .i64 (n : Int)] w fun e w' => e = .returned (.int .i64 (halfN n : Int)) ∧ w' = w := by
  go_enter Try.func39, Try.ntmps39
  go_wp2_with fail
  go_loop [3] (fun k => ∃ j K : Nat, j ≤ 62 ∧ k = .int .i64 K ∧ Hid (K = 2 ^ j) ∧ 1 ≤ K ∧ K < n) (fun k => n - (intOf k).toNat)
  case atStart => exact ⟨0, 1, by omega, rfl, rfl, by omega, by omega⟩
  case round =>
    obtain ⟨j, K, hj, rfl, hK, hK1, hKn⟩ := hrel
    by_cases hex : n ≤ 2 * K
    · have ht : decide ((K : Int) < (n : Int) - (K : Int)) = false := decide_eq_false (by omega)
      have hh : halfN n = K := by
        rw [halfN_is (j := j) (by rw [← hK.out]; exact hKn) (by rw [Nat.pow_succ, ← hK.out]; omega), hK.out]
      have HH := Lib.hid hh
      clear hh
      go_wp2
      rw [← HH.out]
      go_ret
      exact ⟨rfl, rfl⟩
    · have ht : (K : Int) < (n : Int) - (K : Int) := by omega
      have hj2 : j + 1 ≤ 62 := by
        have h1 : 2 * K < 9223372036854775807 := by omega
        rw [hK.out] at h1
        rcases Nat.lt_or_ge j 62 with h | h
        · omega
        · have := Nat.pow_le_pow_right (show 2 > 0 by omega) h
          omega
      have hw : wrap64 ((K : Int) * 2) = (K : Int) * 2 := by unfold wrap64; omega
      have hK2 : Hid (2 * K = 2 ^ (j + 1)) := by show _ = _; rw [Nat.pow_succ, ← hK.out]; omega
      have hle : 2 * K < n := by omega
      have HL := Lib.hid hle
      clear hex hle
      go_wp2_with fail
      go_round
      case rel => exact ⟨j + 1, 2 * K, hj2, by rw [Nat.mul_comm]; go_num, hK2, by omega, HL.out⟩
      case measure => simp [intOf]; omega
theorem hl_get (f : Nat → UInt8) (n j : Nat) (h : j < n) : (hl f n).getD j 0 = f j := by simp [hl, h]
/-- the string of a hash that lies in a block -/
theorem conv_row {w : World} {b : Nat} {f : Nat → UInt8} {t : TypeId} (h : Row w b t 32 (U8 f)) : (convert 30 9 (.slice (some ⟨b, 0, none⟩) 32 32)).run Try.prog w = .ok (.string (bs (hl f 32))) w :=
  run_conv_cells _ _ 5 Try.underlying30 Try.underlying5 Try.underlying9 w b 0 32 32 (hl f 32) (hl_length f 32).symm (fun j hj => by
    rw [hl_length] at hj
    rw [Nat.zero_add, h.cell hj, hl_get f 32 j hj]
    rfl)
/-- the hash of a string of a list -/
def leafS (s : List UInt8) : Nat → UInt8 := sb (0 :: s)
def nodeS (f g : Nat → UInt8) : Nat → UInt8 := sb (1 :: (hl f 32 ++ hl g 32))
set_option maxHeartbeats 1000000 in
theorem leaf_any {s : List UInt8} {w : World} (hs : s.length ≤ 140737488355000) :
    Calls Try.prog 14 #[.string (bs s)] w fun e w' => e = .returned (hv (leafS s)) ∧ Below w.heap.size w w' := by
  have h0 : Row (w.alloc (.cells (arr 32 fun _ => .int .u8 0) 24)) w.heap.size 24 32 (fun _ => .int .u8 0) := Row.newArr _ _ _ _
  go_enter Try.func14, Try.ntmps14
  go_wp2_with (refine wpList_alloc_is rfl 24 rfl 32 (.int .u8 0) (by kernel_rfl) ?_)
  refine (sumL (l := 0 :: s) (by simp; omega)).mono ?_
  rintro e w1 ⟨rfl, hb1⟩
  have h1 := h0.belowAll hb1
  have hb := ((Below.refl _ _).alloc (Nat.le_refl _) (.cells (arr 32 fun _ => .int .u8 0) 24)).trans (hb1.mono (by simp))
  clear hb1 h0
  go_wp2_with (refine wpList_store_is rfl 24 (.tmp 2) (.tmp 5) rfl w.heap.size 32 (U8 (sb (0 :: s))) (fun _ => .int .u8 0) rfl rfl 24 h1 (by kernel_rfl) (fun _ _ => rfl) ?_)
  refine ret_row rfl w.heap.size rfl (h1.setRow _) Try.underlying24 (by rw [size_arr]; kernel_rfl) rfl ⟨rfl, Below.setRow hb (Nat.le_refl _) _⟩
set_option maxHeartbeats 1000000 in
theorem refleaf_any {s : List UInt8} {w : World} (hs : s.length ≤ 140737488355000) :
    Calls Try.prog 15 #[.string (bs s)] w fun e w' => e = .returned (hv (leafS s)) ∧ Below w.heap.size w w' := by
  have h0 : Row (w.alloc (.cells (arr 32 fun _ => .int .u8 0) 24)) w.heap.size 24 32 (fun _ => .int .u8 0) := Row.newArr _ _ _ _
  go_enter Try.func15, Try.ntmps15
  go_wp2_with (refine wpList_alloc_is rfl 24 rfl 32 (.int .u8 0) (by kernel_rfl) ?_)
  refine (refsumL (l := 0 :: s) (by simp; omega)).mono ?_
  rintro e w1 ⟨rfl, hb1⟩
  have h1 := h0.belowAll hb1
  have hb := ((Below.refl _ _).alloc (Nat.le_refl _) (.cells (arr 32 fun _ => .int .u8 0) 24)).trans (hb1.mono (by simp))
  clear hb1 h0
  go_wp2_with (refine wpList_store_is rfl 24 (.tmp 2) (.tmp 5) rfl w.heap.size 32 (U8 (sb (0 :: s))) (fun _ => .int .u8 0) rfl rfl 24 h1 (by kernel_rfl) (fun _ _ => rfl) ?_)
  refine ret_row rfl w.heap.size rfl (h1.setRow _) Try.underlying24 (by rw [size_arr]; kernel_rfl) rfl ⟨rfl, Below.setRow hb (Nat.le_refl _) _⟩
set_option maxHeartbeats 1000000 in
set_option maxRecDepth 100000 in
theorem node_any {f g : Nat → UInt8} {w : World} :
    Calls Try.prog 18 #[hv f, hv g] w fun e w' => e = .returned (hv (nodeS f g)) ∧ Below w.heap.size w w' := by
  unfold hv
  go_enter Try.func18, Try.ntmps18
  go_wp2_with (refine wpList_alloc_is rfl 24 rfl 32 (.int .u8 0) (by kernel_rfl) ?_)
  have hf : Row (((w.alloc (.cells (arr 32 (U8 f)) 24)).alloc (.cells (arr 32 (U8 g)) 24)).alloc (.cells (arr 32 fun _ => .int .u8 0) 24)) w.heap.size 24 32 (U8 f) := ((Row.newArr _ _ _ _).alloc _).alloc _
  have hg : Row (((w.alloc (.cells (arr 32 (U8 f)) 24)).alloc (.cells (arr 32 (U8 g)) 24)).alloc (.cells (arr 32 fun _ => .int .u8 0) 24)) (w.heap.size + 1) 24 32 (U8 g) := (Row.newAt _ _ _ _ (by simp)).alloc _
  have hr : Row (((w.alloc (.cells (arr 32 (U8 f)) 24)).alloc (.cells (arr 32 (U8 g)) 24)).alloc (.cells (arr 32 fun _ => .int .u8 0) 24)) (w.heap.size + 1 + 1) 24 32 (fun _ => .int .u8 0) := Row.newAt _ _ _ _ (by simp)
  have hb := (((Below.refl w.heap.size w).alloc (Nat.le_refl _) (.cells (arr 32 (U8 f)) 24)).alloc (by simp) (.cells (arr 32 (U8 g)) 24)).alloc (by simp; omega) (.cells (arr 32 fun _ => .int .u8 0) 24)
  have hz : ((((w.alloc (.cells (arr 32 (U8 f)) 24)).alloc (.cells (arr 32 (U8 g)) 24)).alloc (.cells (arr 32 fun _ => .int .u8 0) 24))).heap.size = w.heap.size + 1 + 1 + 1 := by simp
  simp only [Act.put, Array.setIfInBounds, List.size_toArray, List.length_cons, List.length_nil, Nat.reduceAdd, Nat.reduceLT, dite_true, List.set_toArray, List.set_cons_succ, List.set_cons_zero]
  generalize (((w.alloc (.cells (arr 32 (U8 f)) 24)).alloc (.cells (arr 32 (U8 g)) 24)).alloc (.cells (arr 32 fun _ => .int .u8 0) 24)) = w0 at *
  have c1 := conv_row hf.drew
  have c2 := conv_row hg.drew
  have hrr := hr.drew
  have hbb := hb.drew
  have l1 : (hl f 32).length = 32 := hl_length f 32
  have l2 : (hl g 32).length = 32 := hl_length g 32
  go_still_tail 6, (by kernel_rfl)
  change wpList _ _ _ _ _ w0.drew
  have hz1 : w0.drew.heap.size = w.heap.size + 1 + 1 + 1 := hz
  clear c1 c2 hf hg hr hb hz
  generalize w0.drew = w1 at *
  go_wp2_with fail
  refine (sumL (l := 1 :: (hl f 32 ++ hl g 32)) (by simp [l1, l2])).mono ?_
  rintro e w2 ⟨rfl, hb2⟩
  have h2 := hrr.belowAll hb2
  have hb3 := hbb.trans (hb2.mono (by omega))
  clear hrr hbb hb2
  go_wp2_with (refine wpList_store_is rfl 24 (.tmp 4) (.tmp 11) rfl (w.heap.size + 1 + 1) 32 (U8 (sb (1 :: (hl f 32 ++ hl g 32)))) (fun _ => .int .u8 0) rfl rfl 24 h2 (by kernel_rfl) (fun _ _ => rfl) ?_)
  refine ret_row rfl (w.heap.size + 1 + 1) rfl (h2.setRow _) Try.underlying24 (by rw [size_arr]; kernel_rfl) rfl ⟨rfl, Below.setRow hb3 (by omega) _⟩
set_option maxHeartbeats 1000000 in
set_option maxRecDepth 100000 in
theorem refnode_any {f g : Nat → UInt8} {w : World} :
    Calls Try.prog 19 #[hv f, hv g] w fun e w' => e = .returned (hv (nodeS f g)) ∧ Below w.heap.size w w' := by
  unfold hv
  go_enter Try.func19, Try.ntmps19
  go_wp2_with (refine wpList_alloc_is rfl 24 rfl 32 (.int .u8 0) (by kernel_rfl) ?_)
  have hf : Row (((w.alloc (.cells (arr 32 (U8 f)) 24)).alloc (.cells (arr 32 (U8 g)) 24)).alloc (.cells (arr 32 fun _ => .int .u8 0) 24)) w.heap.size 24 32 (U8 f) := ((Row.newArr _ _ _ _).alloc _).alloc _
  have hg : Row (((w.alloc (.cells (arr 32 (U8 f)) 24)).alloc (.cells (arr 32 (U8 g)) 24)).alloc (.cells (arr 32 fun _ => .int .u8 0) 24)) (w.heap.size + 1) 24 32 (U8 g) := (Row.newAt _ _ _ _ (by simp)).alloc _
  have hr : Row (((w.alloc (.cells (arr 32 (U8 f)) 24)).alloc (.cells (arr 32 (U8 g)) 24)).alloc (.cells (arr 32 fun _ => .int .u8 0) 24)) (w.heap.size + 1 + 1) 24 32 (fun _ => .int .u8 0) := Row.newAt _ _ _ _ (by simp)
  have hb := (((Below.refl w.heap.size w).alloc (Nat.le_refl _) (.cells (arr 32 (U8 f)) 24)).alloc (by simp) (.cells (arr 32 (U8 g)) 24)).alloc (by simp; omega) (.cells (arr 32 fun _ => .int .u8 0) 24)
  have hz : ((((w.alloc (.cells (arr 32 (U8 f)) 24)).alloc (.cells (arr 32 (U8 g)) 24)).alloc (.cells (arr 32 fun _ => .int .u8 0) 24))).heap.size = w.heap.size + 1 + 1 + 1 := by simp
  simp only [Act.put, Array.setIfInBounds, List.size_toArray, List.length_cons, List.length_nil, Nat.reduceAdd, Nat.reduceLT, dite_true, List.set_toArray, List.set_cons_succ, List.set_cons_zero]
  generalize (((w.alloc (.cells (arr 32 (U8 f)) 24)).alloc (.cells (arr 32 (U8 g)) 24)).alloc (.cells (arr 32 fun _ => .int .u8 0) 24)) = w0 at *
  have c1 := conv_row hf.drew
  have c2 := conv_row hg.drew
  have hrr := hr.drew
  have hbb := hb.drew
  have l1 : (hl f 32).length = 32 := hl_length f 32
  have l2 : (hl g 32).length = 32 := hl_length g 32
  go_still_tail 6, (by kernel_rfl)
  change wpList _ _ _ _ _ w0.drew
  have hz1 : w0.drew.heap.size = w.heap.size + 1 + 1 + 1 := hz
  clear c1 c2 hf hg hr hb hz
  generalize w0.drew = w1 at *
  go_wp2_with fail
  refine (refsumL (l := 1 :: (hl f 32 ++ hl g 32)) (by simp [l1, l2])).mono ?_
  rintro e w2 ⟨rfl, hb2⟩
  have h2 := hrr.belowAll hb2
  have hb3 := hbb.trans (hb2.mono (by omega))
  clear hrr hbb hb2
  go_wp2_with (refine wpList_store_is rfl 24 (.tmp 4) (.tmp 11) rfl (w.heap.size + 1 + 1) 32 (U8 (sb (1 :: (hl f 32 ++ hl g 32)))) (fun _ => .int .u8 0) rfl rfl 24 h2 (by kernel_rfl) (fun _ _ => rfl) ?_)
  refine ret_row rfl (w.heap.size + 1 + 1) rfl (h2.setRow _) Try.underlying24 (by rw [size_arr]; kernel_rfl) rfl ⟨rfl, Below.setRow hb3 (by omega) _⟩
end Go.Proofs.Ytijhdfllffkfjaa
