/- Growth that is checked: the reference's Grows. -/
import Derived.Test.YtijhdfllffkfjaaTrV
import Derived.Test.YtijhdfllffkfjaaTrS
namespace Go.Proofs.Ytijhdfllffkfjaa
open Go.RowKit
attribute [local go_sem] bareOp
section
variable {w : World} {root top : HF}
/-- two heads in boxes -/
structure HBox (w : World) (size : Int) (root : HF) (next : Int) (top : HF) (W : World) : Prop where
  h1 : HeadAt W w.heap.size size root
  h2 : HeadAt W (w.heap.size + 1) next top
  size : W.heap.size = w.heap.size + 1 + 1
  kept : Below w.heap.size w W
theorem HBox.start (w : World) (size : Int) (root : HF) (next : Int) (top : HF) : ∃ W, ((w.alloc (.cells (hd size root) 36)).alloc (.cells (hd next top) 36)) = W ∧ HBox w size root next top W :=
  ⟨_, rfl, (HeadAt.new _ _ _ _).alloc _, by have := HeadAt.new (w.alloc (.cells (hd size root) 36)) next top 36; rwa [World.size_alloc] at this, by simp, ((Below.refl _ _).alloc (Nat.le_refl _) _).alloc (by simp) _⟩
set_option maxHeartbeats 1000000 in
theorem rg_bad {size next : Int} {pa : Option Addr} {len cap : Nat} (h : size < 0 ∨ next < size) :
    Calls Try.prog 35 #[.agg (hd size root), .agg (hd next top), .slice pa len cap] w (Said false w) := by
  obtain ⟨W, hW, B⟩ := HBox.start w size root next top
  have c1 := B.h1.size
  have c2 := B.h2.size
  have hk := B.kept
  have B := Lib.hid B
  by_cases h0 : size < 0
  · go_enter Try.func35, Try.ntmps35
    go_upto_region 1 with fail
    try rw [hW]
    clear hW
    go_wp2_with fail
    go_ret
    exact ⟨rfl, hk⟩
  · have h1 : next < size := by omega
    go_enter Try.func35, Try.ntmps35
    go_upto_region 1 with fail
    try rw [hW]
    clear hW
    go_wp2_with fail
    go_ret
    exact ⟨rfl, hk⟩
set_option maxHeartbeats 1000000 in
theorem rg_same {size : Int} {H : List HF} {v : Value} (h0 : 0 ≤ size) (hH : HSlice w v H) :
    Calls Try.prog 35 #[.agg (hd size root), .agg (hd size top), v] w (Said (decide (H.length = 0 ∧ hl root 32 = hl top 32)) w) := by
  obtain ⟨pa, cap, rfl, q1, q2, -⟩ := hH.form
  clear hH
  obtain ⟨len, hlen⟩ : ∃ len, H.length = len := ⟨_, rfl⟩
  rw [hlen] at q1 ⊢
  clear hlen
  obtain ⟨W, hW, B⟩ := HBox.start w size root size top
  have c1 := B.h1.size
  have c2 := B.h2.size
  have r1 := B.h1.root
  have r2 := B.h2.root
  have hk := B.kept
  have B := Lib.hid B
  have n1 : ¬ size < 0 := by omega
  by_cases hl0 : len = 0
  · subst hl0
    rw [show decide (0 = 0 ∧ hl root 32 = hl top 32) = decide (hl root 32 = hl top 32) by simp]
    go_enter Try.func35, Try.ntmps35
    go_upto_region 1 with fail
    try rw [hW]
    clear hW
    go_wp2_with (first | ((with_reducible refine wpList_bare ?_ ?_); rfl; (with_reducible refine wpList_load_h ?_ (.tmp 28) ?_ w.heap.size 1 ?_ root r1 ?_); rfl; rfl; rfl) | ((with_reducible refine wpList_bare ?_ ?_); rfl; (with_reducible refine wpList_load_h ?_ (.tmp 30) ?_ (w.heap.size + 1) 1 ?_ top r2 ?_); rfl; rfl; rfl))
    go_ret
    exact ⟨rfl, hk⟩
  · have t1 : ((len : Int) == 0) = false := by simp; omega
    rw [show decide (len = 0 ∧ hl root 32 = hl top 32) = false from decide_eq_false (by omega)]
    clear hl0 r1 r2
    go_enter Try.func35, Try.ntmps35
    go_upto_region 1 with fail
    try rw [hW]
    clear hW
    go_wp2_with fail
    go_ret
    exact ⟨rfl, hk⟩
set_option maxHeartbeats 1000000 in
theorem rg_zero {next : Int} {H : List HF} {v : Value} (h0 : 0 < next) (hH : HSlice w v H) :
    Calls Try.prog 35 #[.agg (hd 0 root), .agg (hd next top), v] w (Said (decide (H.length = 0 ∧ hl root 32 = hl (sb []) 32)) w) := by
  obtain ⟨pa, cap, rfl, q1, q2, -⟩ := hH.form
  clear hH
  obtain ⟨len, hlen⟩ : ∃ len, H.length = len := ⟨_, rfl⟩
  rw [hlen] at q1 ⊢
  clear hlen
  obtain ⟨W, hW, B⟩ := HBox.start w 0 root next top
  have c1 := B.h1.size
  have c2 := B.h2.size
  have r1 := B.h1.root
  have hk := B.kept
  have B := Lib.hid B
  have n1 : ¬ next < 0 := by omega
  have n2 : ((0 : Int) == next) = false := by simp; omega
  obtain ⟨sE, hE⟩ : ∃ sE, sb [] = sE := ⟨_, rfl⟩
  have G1 : Hid (∀ e : Ext W, Calls Try.prog 37 #[.string ⟨#[]⟩] e.at fun x w' => x = .returned (.agg (arr 32 (U8 sE))) ∧ Below e.at.heap.size e.at w') := fun e => by rw [← hE]; exact refsumL (l := []) (by simp)
  rw [hE]
  clear hE
  by_cases hl0 : len = 0
  · subst hl0
    rw [show decide (0 = 0 ∧ hl root 32 = hl sE 32) = decide (hl root 32 = hl sE 32) by simp]
    go_enter Try.func35, Try.ntmps35
    go_upto_region 1 with fail
    try rw [hW]
    clear hW
    go_wp2_with fail
    refine wp_region_ext (by kernel_rfl) (by kernel_rfl) ?_
    repeat (first | go_big_quiet_step ((go_at_call 37; with_reducible exact ext_call (G1.out _))) | (go_big_quiet_want; (refine quiet_load_h (.tmp 41) rfl w.heap.size 1 rfl root r1 ?_); go_simp; go_big_quiet_on))
    refine wpQuiet_nil ?_
    rintro _ ⟨e, rfl⟩
    go_wp2_with fail
    go_ret
    exact ⟨rfl, hk.trans (e.below.mono hk.size)⟩
  · have t1 : ((len : Int) == 0) = false := by simp; omega
    rw [show decide (len = 0 ∧ hl root 32 = hl sE 32) = false from decide_eq_false (by omega)]
    clear hl0 r1 G1
    go_enter Try.func35, Try.ntmps35
    go_upto_region 1 with fail
    try rw [hW]
    clear hW
    go_wp2_with fail
    refine wp_region_ext (by kernel_rfl) (by kernel_rfl) ?_
    repeat (first | go_big_quiet_step (fail))
    refine wpQuiet_nil ?_
    rintro _ ⟨e, rfl⟩
    go_wp2_with fail
    go_ret
    exact ⟨rfl, hk.trans (e.below.mono hk.size)⟩
set_option maxHeartbeats 2000000 in
set_option maxRecDepth 100000 in
theorem rg_len {size next : Nat} {pa : Option Addr} {len cap : Nat} (h0 : 0 < size) (hs : size < next) (hn : next ≤ 9223372036854775807) (hne : len ≠ manyS size next true) :
    Calls Try.prog 35 #[.agg (hd (size : Int) root), .agg (hd (next : Int) top), .slice pa len cap] w (Said false w) := by
  obtain ⟨W, hW, B⟩ := HBox.start w size root next top
  have c1 := B.h1.size
  have c2 := B.h2.size
  have hk := B.kept
  have B := Lib.hid B
  have n1 : ¬ (size : Int) < 0 := by omega
  have n2 : ((size : Int) == (next : Int)) = false := by simp; omega
  have n3 : ((size : Int) == 0) = false := by simp; omega
  have n4 : decide ((next : Int) < (size : Int)) = false := decide_eq_false (by omega)
  have n5 : decide (next < size) = false := decide_eq_false (by omega)
  obtain ⟨tt, htt⟩ : ∃ tt, manyS size next true = tt := ⟨_, rfl⟩
  have G : Hid (∀ W, Calls Try.prog 50 #[.int .i64 (size : Int), .int .i64 (next : Int), .bool true] W fun e w' => e = .returned (.int .i64 (tt : Nat)) ∧ w' = W) := fun W => by rw [← htt]; exact many_any next size next true (Nat.le_refl _) hn h0 (by omega) W
  have t1 : ((len : Int) != (tt : Int)) = true := by simp; omega
  clear htt hne
  go_enter Try.func35, Try.ntmps35
  go_upto_region 1 with fail
  try rw [hW]
  clear hW
  go_wp2_with fail
  refine (G.out _).mono ?_
  rintro e w1 ⟨rfl, hw⟩
  obtain rfl := hw.symm
  go_wp2_with fail
  go_ret
  exact ⟨rfl, hk⟩
set_option maxHeartbeats 4000000 in
set_option maxRecDepth 100000 in
theorem rg_walk {size next : Nat} {H : List HF} {v : Value} (h0 : 0 < size) (hs : size < next) (hn : next ≤ 9223372036854775807) (hH : HSlice w v H) (he : H.length = manyS size next true) :
    Calls Try.prog 35 #[.agg (hd (size : Int) root), .agg (hd (next : Int) top), v] w (Said (decide (hl (bothG root (hg H) 0 size next true).1 32 = hl root 32 ∧ hl (bothG root (hg H) 0 size next true).2 32 = hl top 32)) w) := by
  have hpos : 0 < H.length := by
    rw [he]
    have h2 : 2 ≤ next := by omega
    by_cases hk : size ≤ halfN next
    · rw [manyS_lo (by omega) h2 hk]; omega
    · rw [manyS_hi (by omega) h2 hk]; omega
  obtain ⟨b, off, cap, rfl, hr, q1, q2⟩ : ∃ b off cap : Nat, v = .slice (some ⟨b, off, none⟩) (H.length : Nat) cap ∧ HR w b off H ∧ H.length ≤ cap ∧ cap ≤ 9223372036854775807 := by
    rcases hH with ⟨-, rfl⟩ | h
    · simp at hpos
    · exact h
  have hrl := hr.lt hpos
  obtain ⟨W, hW, B⟩ := HBox.start w size root next top
  have c1 := B.h1.size
  have c2 := B.h2.size
  have r1 := B.h1.root
  have hk := B.kept
  have hrW := hr.at_ hk hrl
  obtain ⟨f1, f2, hff⟩ : ∃ f1 f2, bothG root (hg H) 0 size next true = (f1, f2) := ⟨_, _, rfl⟩
  have GB := Lib.hid (both_row next root size next true H (Nat.le_refl _) hn h0 (by omega) he W b off cap hrW q1 q2)
  obtain ⟨len, hlen⟩ : ∃ len, H.length = len := ⟨_, rfl⟩
  have GM : Hid (∀ W, Calls Try.prog 50 #[.int .i64 (size : Int), .int .i64 (next : Int), .bool true] W fun e w' => e = .returned (.int .i64 (len : Nat)) ∧ w' = W) := fun W => by rw [← hlen, he]; exact many_any next size next true (Nat.le_refl _) hn h0 (by omega) W
  rw [hff, hlen] at GB
  rw [hff, hlen]
  have n1 : ¬ (size : Int) < 0 := by omega
  have n2 : ((size : Int) == (next : Int)) = false := by simp; omega
  have n3 : ((size : Int) == 0) = false := by simp; omega
  have n4 : decide ((next : Int) < (size : Int)) = false := decide_eq_false (by omega)
  have n5 : decide (next < size) = false := decide_eq_false (by omega)
  have t1 : ((len : Int) != (len : Int)) = false := by simp
  have B := Lib.hid B
  clear hH hff he hlen hpos hr hrW hrl q1
  go_enter Try.func35, Try.ntmps35
  go_upto_region 1 with fail
  try rw [hW]
  clear hW
  go_wp2_with fail
  refine (GM.out _).mono ?_
  rintro e w1 ⟨rfl, hw⟩
  obtain rfl := hw.symm
  clear hw GM
  go_wp2_with ((with_reducible refine wpList_load_h ?_ (.tmp 59) ?_ w.heap.size 1 ?_ root r1 ?_); rfl; rfl; rfl)
  refine GB.out.mono ?_
  rintro e w1 ⟨rfl, hb1⟩
  have z0 := B.out.size
  have hh1 := B.out.h1.at_ hb1 (by omega)
  have hh2 := B.out.h2.at_ hb1 (by omega)
  have z1 := hb1.size
  clear GB c1 c2 r1
  have ra : Row ((w1.alloc (.cells (arr 32 fun _ => .int .u8 0) 24)).alloc (.cells (arr 32 fun _ => .int .u8 0) 24)) w1.heap.size 24 32 (fun _ => .int .u8 0) := (Row.newArr _ _ _ _).alloc _
  have rb : Row ((w1.alloc (.cells (arr 32 fun _ => .int .u8 0) 24)).alloc (.cells (arr 32 fun _ => .int .u8 0) 24)) (w1.heap.size + 1) 24 32 (fun _ => .int .u8 0) := Row.newAt _ _ _ _ (by simp)
  have rb5 := rb.farRow (y := w1.heap.size) (by omega) (arr 32 (U8 f1))
  have hb4 := Below.setRow (Below.setRow (((Below.refl w1.heap.size w1).alloc (Nat.le_refl _) (.cells (arr 32 fun _ => .int .u8 0) 24)).alloc (by simp) (.cells (arr 32 fun _ => .int .u8 0) 24)) (Nat.le_refl _) (arr 32 (U8 f1))) (g := w1.heap.size + 1) (by omega) (arr 32 (U8 f2))
  have RA := Lib.hid ((ra.setRow (U8 f1)).farRow (y := w1.heap.size + 1) (by omega) (arr 32 (U8 f2)))
  have RB := Lib.hid (rb5.setRow (U8 f2))
  have HB := Lib.hid hb4
  clear rb hb4
  go_upto_region 10 with (first | ((with_reducible refine wpList_alloc_is ?_ 24 ?_ 32 (.int .u8 0) ?_ ?_); rfl; rfl; kernel_rfl; (try simp only [World.size_alloc])) | ((with_reducible refine wpList_store_is ?_ 24 (.tmp 7) (.tmp 63) ?_ w1.heap.size 32 (U8 f1) _ ?_ ?_ 24 ra ?_ ?_ ?_); rfl; rfl; rfl; rfl; kernel_rfl; exact fun _ _ => rfl) | ((with_reducible refine wpList_store_is ?_ 24 (.tmp 8) (.tmp 64) ?_ (w1.heap.size + 1) 32 (U8 f2) _ ?_ ?_ 24 rb5 ?_ ?_ ?_); rfl; rfl; rfl; rfl; kernel_rfl; exact fun _ _ => rfl))
  clear ra rb5
  generalize (((w1.alloc (.cells (arr 32 fun _ => .int .u8 0) 24)).alloc (.cells (arr 32 fun _ => .int .u8 0) 24)).setRow w1.heap.size (arr 32 (U8 f1))).setRow (w1.heap.size + 1) (arr 32 (U8 f2)) = w3 at *
  have g7 := row_range RA.out
  have g8 := row_range RB.out
  have g1 := (hh1.at_ HB.out (by omega)).root
  have g2 := (hh2.at_ HB.out (by omega)).root
  have hend : Below w.heap.size w w3 := (hk.trans (hb1.mono (by omega))).trans (HB.out.mono (by omega))
  clear HB RA RB hh1 hh2 hb1
  generalize w1.heap.size = g at *
  by_cases hf : hl f1 32 = hl root 32
  · have t1 : decide (hl f1 32 = hl root 32) = true := decide_eq_true hf
    have HF := Lib.hid (show decide (hl f1 32 = hl root 32 ∧ hl f2 32 = hl top 32) = decide (hl f2 32 = hl top 32) by simp [hf])
    clear hf
    go_wp2_with (first | ((with_reducible refine wpList_bare ?_ ?_); rfl; (with_reducible refine wpList_load_h ?_ (.tmp 7) ?_ g 0 ?_ f1 g7 ?_); rfl; rfl; rfl) | ((with_reducible refine wpList_bare ?_ ?_); rfl; (with_reducible refine wpList_load_h ?_ (.tmp 66) ?_ w.heap.size 1 ?_ root g1 ?_); rfl; rfl; rfl) | ((with_reducible refine wpList_bare ?_ ?_); rfl; (with_reducible refine wpList_load_h ?_ (.tmp 8) ?_ (g + 1) 0 ?_ f2 g8 ?_); rfl; rfl; rfl) | ((with_reducible refine wpList_bare ?_ ?_); rfl; (with_reducible refine wpList_load_h ?_ (.tmp 71) ?_ (w.heap.size + 1) 1 ?_ top g2 ?_); rfl; rfl; rfl))
    go_ret
    exact ⟨by rw [HF.out]; rfl, hend⟩
  · have t1 : decide (hl f1 32 = hl root 32) = false := decide_eq_false hf
    have HF := Lib.hid (show decide (hl f1 32 = hl root 32 ∧ hl f2 32 = hl top 32) = false from decide_eq_false (fun h => hf h.1))
    clear hf g2 g8
    go_wp2_with (first | ((with_reducible refine wpList_bare ?_ ?_); rfl; (with_reducible refine wpList_load_h ?_ (.tmp 7) ?_ g 0 ?_ f1 g7 ?_); rfl; rfl; rfl) | ((with_reducible refine wpList_bare ?_ ?_); rfl; (with_reducible refine wpList_load_h ?_ (.tmp 66) ?_ w.heap.size 1 ?_ root g1 ?_); rfl; rfl; rfl))
    go_ret
    exact ⟨by rw [HF.out]; rfl, hend⟩
theorem refgrows_any {size next : Int} {H : List HF} {v : Value} (hn : next ≤ 9223372036854775807) (hH : HSlice w v H) :
    Calls Try.prog 35 #[.agg (hd size root), .agg (hd next top), v] w (Said (growB size root next top H) w) := by
  unfold growB
  by_cases h1 : size < 0 ∨ next < size
  · rw [if_pos h1]
    obtain ⟨pa, cap, rfl, -⟩ := hH.form
    exact rg_bad h1
  · rw [if_neg h1]
    by_cases h2 : size = next
    · subst h2
      rw [if_pos rfl]
      exact rg_same (by omega) hH
    · rw [if_neg h2]
      by_cases h3 : size = 0
      · subst h3
        rw [if_pos rfl]
        exact rg_zero (by omega) hH
      · rw [if_neg h3]
        obtain ⟨i, rfl⟩ : ∃ i : Nat, size = i := ⟨size.toNat, by omega⟩
        obtain ⟨m, rfl⟩ : ∃ m : Nat, next = m := ⟨next.toNat, by omega⟩
        rw [Int.toNat_natCast, Int.toNat_natCast]
        by_cases he : H.length = manyS i m true
        · rw [show decide (H.length = manyS i m true ∧ hl (bothG root (hg H) 0 i m true).1 32 = hl root 32 ∧ hl (bothG root (hg H) 0 i m true).2 32 = hl top 32) = decide (hl (bothG root (hg H) 0 i m true).1 32 = hl root 32 ∧ hl (bothG root (hg H) 0 i m true).2 32 = hl top 32) by simp [he]]
          exact rg_walk (by omega) (by omega) (by omega) hH he
        · obtain ⟨pa, cap, rfl, -⟩ := hH.form
          rw [show decide (H.length = manyS i m true ∧ hl (bothG root (hg H) 0 i m true).1 32 = hl root 32 ∧ hl (bothG root (hg H) 0 i m true).2 32 = hl top 32) = false from decide_eq_false (fun h => he h.1)]
          exact rg_len (by omega) (by omega) (by omega) he
end
end Go.Proofs.Ytijhdfllffkfjaa
