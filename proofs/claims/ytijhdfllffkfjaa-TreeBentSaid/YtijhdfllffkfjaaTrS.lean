/- Growth that is checked: the walking closure, and CheckGrowth. -/
import Derived.Test.YtijhdfllffkfjaaTrR
namespace Go.Proofs.Ytijhdfllffkfjaa
open Go.RowKit
attribute [local go_sem] bareOp
theorem cwalk_any {br bp ba bk bt bw : Nat} {a : Option Addr} {cap : Nat} {H : List HF} {root : HF} : ∀ (j n m : Nat) (whole : Bool) (_ : n ≤ j) (_ : n ≤ 9223372036854775807) (_ : 0 < m) (_ : m ≤ n) (w : World) (t : Nat) (_ : CkSt w br bp ba bk bt bw a cap H root t),
    Calls Try.prog 59 #[.int .i64 (n : Int), .int .i64 (m : Int), .bool whole, .pointer (some ⟨br, 0, none⟩), .pointer (some ⟨bt, 0, none⟩), .pointer (some ⟨bw, 0, none⟩)] w (WEnd w br bp ba bk bt bw a cap H root (t + manyS m n whole) (bothG root (hg H) t m n whole))
  | j, n, m, whole, hj, hn, hm0, hm, w, t, h => by
    by_cases he : m = n
    · subst he
      rw [manyS_eq rfl, bothG_eq rfl]
      cases whole with
      | true => exact cwalk_whole h
      | false => exact cwalk_not h
    · have h2 : 2 ≤ n := by omega
      obtain ⟨k1, k2, k3⟩ := halfN_lt h2
      obtain ⟨j', rfl⟩ : ∃ j', j = j' + 1 := ⟨j - 1, by omega⟩
      by_cases hk : m ≤ halfN n
      · rw [manyS_lo he h2 hk, bothG_lo he h2 hk]
        exact cwalk_lo (t1 := t + manyS m (halfN n) whole) (q1 := (bothG root (hg H) t m (halfN n) whole).1) (q2 := (bothG root (hg H) t m (halfN n) whole).2) h h2 hn rfl hk (fun W hW => cwalk_any j' (halfN n) m whole (by omega) (by omega) hm0 hk W t hW)
      · rw [manyS_hi he h2 hk, bothG_hi he h2 hk]
        refine cwalk_hi (t1 := t + manyS (m - halfN n) (n - halfN n) false) (q1 := (bothG root (hg H) t (m - halfN n) (n - halfN n) false).1) (q2 := (bothG root (hg H) t (m - halfN n) (n - halfN n) false).2) h h2 hn rfl (by omega) (by omega) (fun W hW => ?_)
        have := cwalk_any j' (n - halfN n) (m - halfN n) false (by omega) (by omega) (by omega) (by omega) W t hW
        rw [show ((m - halfN n : Nat) : Int) = (m : Int) - (halfN n : Nat) by omega, show ((n - halfN n : Nat) : Int) = (n : Int) - (halfN n : Nat) by omega] at this
        exact this
section
variable {w : World} {root top : HF}
set_option maxHeartbeats 1000000 in
theorem cg_bad {size next : Int} {pa : Option Addr} {len cap : Nat} (h : size < 0 ∨ next < size) :
    Calls Try.prog 47 #[.int .i64 size, .agg (arr 32 (U8 root)), .int .i64 next, .agg (arr 32 (U8 top)), .slice pa len cap] w (Said false w) := by
  by_cases h0 : size < 0
  · go_enter Try.func47, Try.ntmps47
    go_wp2_with fail
    go_ret
    exact ⟨rfl, (((Below.refl _ _).alloc (Nat.le_refl _) _).alloc (by simp) _).alloc (by simp; omega) _⟩
  · have h1 : next < size := by omega
    go_enter Try.func47, Try.ntmps47
    go_wp2_with fail
    go_ret
    exact ⟨rfl, (((Below.refl _ _).alloc (Nat.le_refl _) _).alloc (by simp) _).alloc (by simp; omega) _⟩
/-- the three boxes -/
structure GBox (w : World) (root top : HF) (v : Value) (W : World) : Prop where
  r : Row W w.heap.size 24 32 (U8 root)
  t : Row W (w.heap.size + 1) 24 32 (U8 top)
  v : W.cell? ⟨w.heap.size + 1 + 1, 0, none⟩ = some v
  size : W.heap.size = w.heap.size + 1 + 1 + 1
  kept : Below w.heap.size w W
theorem GBox.start (w : World) (root top : HF) (v : Value) : ∃ W, ((w.alloc (.cells (arr 32 (U8 root)) 24)).alloc (.cells (arr 32 (U8 top)) 24)).alloc (.cells #[v] 38) = W ∧ GBox w root top v W :=
  ⟨_, rfl, ((Row.newArr _ _ _ _).alloc _).alloc _, (Row.newAt _ _ _ _ (by simp)).alloc _, by
    have := cell_of_row (((w.alloc (.cells (arr 32 (U8 root)) 24)).alloc (.cells (arr 32 (U8 top)) 24)).alloc (.cells #[v] 38)) ((w.alloc (.cells (arr 32 (U8 root)) 24)).alloc (.cells (arr 32 (U8 top)) 24)).heap.size 0 _ 38 (0, 0) (heap_alloc_new _ _)
    simpa using this, by simp, (((Below.refl _ _).alloc (Nat.le_refl _) _).alloc (by simp) _).alloc (by simp; omega) _⟩
set_option maxHeartbeats 1000000 in
theorem cg_same {size : Int} {H : List HF} {v : Value} (h0 : 0 ≤ size) (hH : HSlice w v H) :
    Calls Try.prog 47 #[.int .i64 size, .agg (arr 32 (U8 root)), .int .i64 size, .agg (arr 32 (U8 top)), v] w (Said (decide (H.length = 0 ∧ hl root 32 = hl top 32)) w) := by
  obtain ⟨pa, cap, rfl, q1, q2, -⟩ := hH.form
  clear hH
  obtain ⟨len, hlen⟩ : ∃ len, H.length = len := ⟨_, rfl⟩
  rw [hlen] at q1 ⊢
  clear hlen
  obtain ⟨W, hW, B⟩ := GBox.start w root top (.slice pa len cap)
  have c9 := B.v
  have n1 : ¬ size < 0 := by omega
  have r6 := row_range B.r
  have r8 := row_range B.t
  by_cases hl0 : len = 0
  · subst hl0
    rw [show decide (0 = 0 ∧ hl root 32 = hl top 32) = decide (hl root 32 = hl top 32) by simp]
    go_enter Try.func47, Try.ntmps47
    go_upto_region 1 with fail
    try rw [hW]
    clear hW
    go_wp2_with (first | ((with_reducible refine wpList_bare ?_ ?_); rfl; (with_reducible refine wpList_load_h ?_ (.tmp 6) ?_ w.heap.size 0 ?_ root r6 ?_); rfl; rfl; rfl) | ((with_reducible refine wpList_bare ?_ ?_); rfl; (with_reducible refine wpList_load_h ?_ (.tmp 8) ?_ (w.heap.size + 1) 0 ?_ top r8 ?_); rfl; rfl; rfl))
    go_ret
    exact ⟨rfl, B.kept⟩
  · have t1 : ((len : Int) == 0) = false := by simp; omega
    rw [show decide (len = 0 ∧ hl root 32 = hl top 32) = false from decide_eq_false (by omega)]
    clear hl0 r6 r8
    go_enter Try.func47, Try.ntmps47
    go_upto_region 1 with fail
    try rw [hW]
    clear hW
    go_wp2_with fail
    go_ret
    exact ⟨rfl, B.kept⟩
set_option maxHeartbeats 1000000 in
theorem cg_zero {next : Int} {H : List HF} {v : Value} (h0 : 0 < next) (hH : HSlice w v H) :
    Calls Try.prog 47 #[.int .i64 0, .agg (arr 32 (U8 root)), .int .i64 next, .agg (arr 32 (U8 top)), v] w (Said (decide (H.length = 0 ∧ hl root 32 = hl (sb []) 32)) w) := by
  obtain ⟨pa, cap, rfl, q1, q2, -⟩ := hH.form
  clear hH
  obtain ⟨len, hlen⟩ : ∃ len, H.length = len := ⟨_, rfl⟩
  rw [hlen] at q1 ⊢
  clear hlen
  obtain ⟨W, hW, B⟩ := GBox.start w root top (.slice pa len cap)
  have c9 := B.v
  have n1 : ¬ next < 0 := by omega
  have n2 : ((0 : Int) == next) = false := by simp; omega
  have r6 := row_range B.r
  obtain ⟨sE, hE⟩ : ∃ sE, sb [] = sE := ⟨_, rfl⟩
  have G1 : Hid (∀ e : Ext W, Calls Try.prog 36 #[.string ⟨#[]⟩] e.at fun x w' => x = .returned (.agg (arr 32 (U8 sE))) ∧ Below e.at.heap.size e.at w') := fun e => by rw [← hE]; exact sumL (l := []) (by simp)
  rw [hE]
  clear hE
  have hx : ∀ e : Ext W, e.at.cell? ⟨w.heap.size + 1 + 1, 0, none⟩ = some (.slice pa len cap) := ext_cell c9
  by_cases hl0 : len = 0
  · subst hl0
    rw [show decide (0 = 0 ∧ hl root 32 = hl sE 32) = decide (hl root 32 = hl sE 32) by simp]
    go_enter Try.func47, Try.ntmps47
    go_upto_region 1 with fail
    try rw [hW]
    clear hW c9
    go_wp2_with fail
    refine wp_region_ext (by kernel_rfl) (by kernel_rfl) ?_
    repeat (first | go_big_quiet_step ((go_at_call 36; with_reducible exact ext_call (G1.out _))) | (go_big_quiet_want; (refine quiet_load_h (.tmp 6) rfl w.heap.size 0 rfl root r6 ?_); go_simp; go_big_quiet_on))
    refine wpQuiet_nil ?_
    rintro _ ⟨e, rfl⟩
    go_wp2_with fail
    go_ret
    exact ⟨rfl, B.kept.trans (e.below.mono B.kept.size)⟩
  · have t1 : ((len : Int) == 0) = false := by simp; omega
    rw [show decide (len = 0 ∧ hl root 32 = hl sE 32) = false from decide_eq_false (by omega)]
    clear hl0 r6 G1
    go_enter Try.func47, Try.ntmps47
    go_upto_region 1 with fail
    try rw [hW]
    clear hW c9
    go_wp2_with fail
    refine wp_region_ext (by kernel_rfl) (by kernel_rfl) ?_
    repeat (first | go_big_quiet_step (fail))
    refine wpQuiet_nil ?_
    rintro _ ⟨e, rfl⟩
    go_wp2_with fail
    go_ret
    exact ⟨rfl, B.kept.trans (e.below.mono B.kept.size)⟩
theorem CkSt.init {W : World} {pa : Option Addr} {cap : Nat} {H : List HF} (B : GBox w root top (.slice pa H.length cap) W) (h1 : H.length ≤ cap) (h2 : cap ≤ 9223372036854775807) (hrow : 0 < H.length → ∃ b off : Nat, pa = some ⟨b, off, none⟩ ∧ HR w b off H) :
    ∃ W2, (((W.alloc (.cells #[.int .i64 0] 3)).alloc (.cells #[.bool true] 4)).alloc (.cells #[tFn (w.heap.size + 1 + 1 + 1 + 1) (w.heap.size + 1 + 1 + 1) (w.heap.size + 1 + 1)] 94)).alloc (.cells #[wFn w.heap.size (w.heap.size + 1 + 1 + 1 + 1 + 1) (w.heap.size + 1 + 1 + 1 + 1 + 1 + 1)] 95) = W2 ∧
      CkSt W2 w.heap.size (w.heap.size + 1 + 1) (w.heap.size + 1 + 1 + 1) (w.heap.size + 1 + 1 + 1 + 1) (w.heap.size + 1 + 1 + 1 + 1 + 1) (w.heap.size + 1 + 1 + 1 + 1 + 1 + 1) pa cap H root 0 ∧ Row W2 (w.heap.size + 1) 24 32 (U8 top) ∧ Below w.heap.size w W2 ∧ w.heap.size + 1 < W2.heap.size := by
  have z := B.size
  refine ⟨_, rfl, ?_⟩
  have b1 := (((((Below.refl W.heap.size W).alloc (Nat.le_refl _) (.cells #[.int .i64 0] 3)).alloc (by simp) (.cells #[.bool true] 4)).alloc (by simp; omega) (.cells #[tFn (w.heap.size + 1 + 1 + 1 + 1) (w.heap.size + 1 + 1 + 1) (w.heap.size + 1 + 1)] 94)).alloc (by simp; omega) (.cells #[wFn w.heap.size (w.heap.size + 1 + 1 + 1 + 1 + 1) (w.heap.size + 1 + 1 + 1 + 1 + 1 + 1)] 95))
  have a0 : ∀ (o1 o2 o3 o4 : Obj), ((((W.alloc o1).alloc o2).alloc o3).alloc o4).heap[w.heap.size + 1 + 1 + 1]? = some o1 := fun o1 o2 o3 o4 => by
    rw [Below.heap_alloc _ _ _ (by simp; omega), Below.heap_alloc _ _ _ (by simp; omega), Below.heap_alloc _ _ _ (by simp; omega), ← z]
    exact heap_alloc_new _ _
  have a1 : ∀ (o1 o2 o3 o4 : Obj), ((((W.alloc o1).alloc o2).alloc o3).alloc o4).heap[w.heap.size + 1 + 1 + 1 + 1]? = some o2 := fun o1 o2 o3 o4 => by
    rw [Below.heap_alloc _ _ _ (by simp; omega), Below.heap_alloc _ _ _ (by simp; omega), show w.heap.size + 1 + 1 + 1 + 1 = (W.alloc o1).heap.size by simp; omega]
    exact heap_alloc_new _ _
  have a2 : ∀ (o1 o2 o3 o4 : Obj), ((((W.alloc o1).alloc o2).alloc o3).alloc o4).heap[w.heap.size + 1 + 1 + 1 + 1 + 1]? = some o3 := fun o1 o2 o3 o4 => by
    rw [Below.heap_alloc _ _ _ (by simp; omega), show w.heap.size + 1 + 1 + 1 + 1 + 1 = ((W.alloc o1).alloc o2).heap.size by simp; omega]
    exact heap_alloc_new _ _
  have a3 : ∀ (o1 o2 o3 o4 : Obj), ((((W.alloc o1).alloc o2).alloc o3).alloc o4).heap[w.heap.size + 1 + 1 + 1 + 1 + 1 + 1]? = some o4 := fun o1 o2 o3 o4 => by
    rw [show w.heap.size + 1 + 1 + 1 + 1 + 1 + 1 = (((W.alloc o1).alloc o2).alloc o3).heap.size by simp; omega]
    exact heap_alloc_new _ _
  have hs := b1.size
  have zz : ((((W.alloc (.cells #[.int .i64 0] 3)).alloc (.cells #[.bool true] 4)).alloc (.cells #[tFn (w.heap.size + 1 + 1 + 1 + 1) (w.heap.size + 1 + 1 + 1) (w.heap.size + 1 + 1)] 94)).alloc (.cells #[wFn w.heap.size (w.heap.size + 1 + 1 + 1 + 1 + 1) (w.heap.size + 1 + 1 + 1 + 1 + 1 + 1)] 95)).heap.size = W.heap.size + 4 := by simp
  refine ⟨⟨⟨?_, ?_, ?_, ?_, ?_, h1, h2, fun hp => ?_, by omega, by omega, by omega⟩, B.r.belowAll b1, ?_, ?_, by omega, by omega, by omega, by omega⟩, B.t.belowAll b1, B.kept.trans (b1.mono B.kept.size), by omega⟩
  · rw [cell_of_row _ _ _ _ 4 (0, 0) (a1 _ _ _ _), decide_eq_true (Nat.zero_le _)]; rfl
  · exact frozen_of_row _ _ 0 _ 4 (a1 _ _ _ _)
  · rw [cell_of_row _ _ _ _ 3 (0, 0) (a0 _ _ _ _), Nat.zero_min]; rfl
  · exact frozen_of_row _ _ 0 _ 3 (a0 _ _ _ _)
  · rw [b1.cell (p := ⟨w.heap.size + 1 + 1, 0, none⟩) (by show w.heap.size + 1 + 1 < _; omega)]; exact B.v
  · obtain ⟨b, off, e1, e2⟩ := hrow hp
    have hlt := e2.lt hp
    exact ⟨b, off, e1, (e2.at_ B.kept hlt).at_ b1 (by omega), by omega⟩
  · rw [cell_of_row _ _ _ _ 94 (0, 0) (a2 _ _ _ _)]; rfl
  · rw [cell_of_row _ _ _ _ 95 (0, 0) (a3 _ _ _ _)]; rfl
set_option maxHeartbeats 4000000 in
set_option maxRecDepth 100000 in
theorem cg_walk {size next : Nat} {H : List HF} {v : Value} (h0 : 0 < size) (hs : size < next) (hn : next ≤ 9223372036854775807) (hH : HSlice w v H) :
    Calls Try.prog 47 #[.int .i64 (size : Int), .agg (arr 32 (U8 root)), .int .i64 (next : Int), .agg (arr 32 (U8 top)), v] w (Said (decide (H.length = manyS size next true ∧ hl (bothG root (hg H) 0 size next true).1 32 = hl root 32 ∧ hl (bothG root (hg H) 0 size next true).2 32 = hl top 32)) w) := by
  obtain ⟨pa, cap, rfl, q1, q2, hrow⟩ := hH.form
  obtain ⟨W, hW, B⟩ := GBox.start w root top (.slice pa H.length cap)
  obtain ⟨W2, hW2, CK, RT, BL, LT⟩ := CkSt.init B q1 q2 hrow
  have G := Lib.hid (cwalk_any next next size true (Nat.le_refl _) hn h0 (by omega) W2 0 CK)
  obtain ⟨tt, htt⟩ : ∃ tt, manyS size next true = tt := ⟨_, rfl⟩
  obtain ⟨f1, f2, hff⟩ : ∃ f1 f2, bothG root (hg H) 0 size next true = (f1, f2) := ⟨_, _, rfl⟩
  rw [htt, hff, Nat.zero_add] at G
  rw [htt, hff]
  have c9 := B.v
  have hfw := CK.fw
  unfold wFn at hfw hW2
  unfold tFn at hW2
  have n1 : ¬ (size : Int) < 0 := by omega
  have n2 : ((size : Int) == (next : Int)) = false := by simp; omega
  have n3 : ((size : Int) == 0) = false := by simp; omega
  have n4 : decide ((next : Int) < (size : Int)) = false := decide_eq_false (by omega)
  have n5 : decide (next < size) = false := decide_eq_false (by omega)
  have zB := B.size
  have B := Lib.hid B
  have CK := Lib.hid CK
  have RT := Lib.hid RT
  have HW2 := Lib.hid hW2
  clear hH hrow htt hff hW2
  go_enter Try.func47, Try.ntmps47
  go_upto_region 1 with fail
  try rw [hW]
  clear hW
  go_upto_region 12 with fail
  rw [HW2.out]
  clear HW2 B n1 n2 n3 n4 n5
  go_wp2_with fail
  refine G.out.mono ?_
  rintro e w1 ⟨rfl, hS, hK⟩
  clear G hfw c9 CK
  have rt := hK.row RT.out (by omega) (by omega)
  have hB1 : Below w.heap.size w w1 := BL.trans (hK.below (by omega) (by omega) (by omega))
  have ra : Row ((w1.alloc (.cells (arr 32 fun _ => .int .u8 0) 24)).alloc (.cells (arr 32 fun _ => .int .u8 0) 24)) w1.heap.size 24 32 (fun _ => .int .u8 0) := (Row.newArr _ _ _ _).alloc _
  have rb : Row ((w1.alloc (.cells (arr 32 fun _ => .int .u8 0) 24)).alloc (.cells (arr 32 fun _ => .int .u8 0) 24)) (w1.heap.size + 1) 24 32 (fun _ => .int .u8 0) := Row.newAt _ _ _ _ (by simp)
  have rb5 := rb.farRow (y := w1.heap.size) (by omega) (arr 32 (U8 f1))
  have hb4 := Below.setRow (Below.setRow (((Below.refl w1.heap.size w1).alloc (Nat.le_refl _) (.cells (arr 32 fun _ => .int .u8 0) 24)).alloc (by simp) (.cells (arr 32 fun _ => .int .u8 0) 24)) (Nat.le_refl _) (arr 32 (U8 f1))) (g := w1.heap.size + 1) (by omega) (arr 32 (U8 f2))
  have RA := Lib.hid ((ra.setRow (U8 f1)).farRow (y := w1.heap.size + 1) (by omega) (arr 32 (U8 f2)))
  have RB := Lib.hid (rb5.setRow (U8 f2))
  have HB := Lib.hid hb4
  have hS := Lib.hid hS
  clear rb hb4
  go_upto_region 13 with (first | ((with_reducible refine wpList_alloc_is ?_ 24 ?_ 32 (.int .u8 0) ?_ ?_); rfl; rfl; kernel_rfl; (try simp only [World.size_alloc])) | ((with_reducible refine wpList_store_is ?_ 24 (.tmp 15) (.tmp 55) ?_ w1.heap.size 32 (U8 f1) _ ?_ ?_ 24 ra ?_ ?_ ?_); rfl; rfl; rfl; rfl; kernel_rfl; exact fun _ _ => rfl) | ((with_reducible refine wpList_store_is ?_ 24 (.tmp 16) (.tmp 56) ?_ (w1.heap.size + 1) 32 (U8 f2) _ ?_ ?_ 24 rb5 ?_ ?_ ?_); rfl; rfl; rfl; rfl; kernel_rfl; exact fun _ _ => rfl))
  clear ra rb5
  generalize (((w1.alloc (.cells (arr 32 fun _ => .int .u8 0) 24)).alloc (.cells (arr 32 fun _ => .int .u8 0) 24)).setRow w1.heap.size (arr 32 (U8 f1))).setRow (w1.heap.size + 1) (arr 32 (U8 f2)) = w3 at *
  have z1 := hS.out.size
  have e12 := HB.out.cell (p := ⟨w.heap.size + 1 + 1 + 1 + 1, 0, none⟩) (by show w.heap.size + 1 + 1 + 1 + 1 < _; omega)
  rw [hS.out.tk.ok] at e12
  have e11 := HB.out.cell (p := ⟨w.heap.size + 1 + 1 + 1, 0, none⟩) (by show w.heap.size + 1 + 1 + 1 < _; omega)
  rw [hS.out.tk.num] at e11
  have e9 := HB.out.cell (p := ⟨w.heap.size + 1 + 1, 0, none⟩) (by show w.heap.size + 1 + 1 < _; omega)
  rw [hS.out.tk.pr] at e9
  have g15 := row_range RA.out
  have g16 := row_range RB.out
  have g6 := row_range (hS.out.rt.belowAll HB.out)
  have g8 := row_range (rt.belowAll HB.out)
  have hend : Below w.heap.size w w3 := hB1.trans (HB.out.mono hB1.size)
  clear HB hS RA RB rt hB1 RT
  generalize w1.heap.size = g at *
  generalize H.length = len at *
  rcases Nat.lt_trichotomy tt len with hq | hq | hq
  · rw [decide_eq_true (show tt ≤ len by omega)] at e12
    rw [Nat.min_eq_left (by omega)] at e11
    have t1 : ((tt : Int) == (len : Int)) = false := by simp; omega
    have HF := Lib.hid (show decide (len = tt ∧ hl f1 32 = hl root 32 ∧ hl f2 32 = hl top 32) = false from decide_eq_false (fun h => by omega))
    clear g15 g16 g6 g8
    go_wp2_with fail
    go_ret
    exact ⟨by rw [HF.out]; rfl, hend⟩
  · subst hq
    rw [decide_eq_true (Nat.le_refl _)] at e12
    rw [Nat.min_self] at e11
    by_cases hf : hl f1 32 = hl root 32
    · have t1 : decide (hl f1 32 = hl root 32) = true := decide_eq_true hf
      rw [show decide (tt = tt ∧ hl f1 32 = hl root 32 ∧ hl f2 32 = hl top 32) = decide (hl f2 32 = hl top 32) by simp [hf]]
      clear hf
      go_wp2_with (first | ((with_reducible refine wpList_bare ?_ ?_); rfl; (with_reducible refine wpList_load_h ?_ (.tmp 15) ?_ g 0 ?_ f1 g15 ?_); rfl; rfl; rfl) | ((with_reducible refine wpList_bare ?_ ?_); rfl; (with_reducible refine wpList_load_h ?_ (.tmp 6) ?_ w.heap.size 0 ?_ root g6 ?_); rfl; rfl; rfl) | ((with_reducible refine wpList_bare ?_ ?_); rfl; (with_reducible refine wpList_load_h ?_ (.tmp 16) ?_ (g + 1) 0 ?_ f2 g16 ?_); rfl; rfl; rfl) | ((with_reducible refine wpList_bare ?_ ?_); rfl; (with_reducible refine wpList_load_h ?_ (.tmp 8) ?_ (w.heap.size + 1) 0 ?_ top g8 ?_); rfl; rfl; rfl))
      go_ret
      exact ⟨rfl, hend⟩
    · have t1 : decide (hl f1 32 = hl root 32) = false := decide_eq_false hf
      rw [show decide (tt = tt ∧ hl f1 32 = hl root 32 ∧ hl f2 32 = hl top 32) = false from decide_eq_false (fun h => hf h.2.1)]
      clear hf g16 g8
      go_wp2_with (first | ((with_reducible refine wpList_bare ?_ ?_); rfl; (with_reducible refine wpList_load_h ?_ (.tmp 15) ?_ g 0 ?_ f1 g15 ?_); rfl; rfl; rfl) | ((with_reducible refine wpList_bare ?_ ?_); rfl; (with_reducible refine wpList_load_h ?_ (.tmp 6) ?_ w.heap.size 0 ?_ root g6 ?_); rfl; rfl; rfl))
      go_ret
      exact ⟨rfl, hend⟩
  · rw [decide_eq_false (show ¬ tt ≤ len by omega)] at e12
    have HF := Lib.hid (show decide (len = tt ∧ hl f1 32 = hl root 32 ∧ hl f2 32 = hl top 32) = false from decide_eq_false (fun h => by omega))
    clear g15 g16 g6 g8
    go_wp2_with fail
    go_ret
    exact ⟨by rw [HF.out]; rfl, hend⟩
theorem cg_any {size next : Int} {H : List HF} {v : Value} (hn : next ≤ 9223372036854775807) (hH : HSlice w v H) :
    Calls Try.prog 47 #[.int .i64 size, .agg (arr 32 (U8 root)), .int .i64 next, .agg (arr 32 (U8 top)), v] w (Said (growB size root next top H) w) := by
  unfold growB
  by_cases h1 : size < 0 ∨ next < size
  · rw [if_pos h1]
    obtain ⟨pa, cap, rfl, -⟩ := hH.form
    exact cg_bad h1
  · rw [if_neg h1]
    by_cases h2 : size = next
    · subst h2
      rw [if_pos rfl]
      exact cg_same (by omega) hH
    · rw [if_neg h2]
      by_cases h3 : size = 0
      · subst h3
        rw [if_pos rfl]
        exact cg_zero (by omega) hH
      · rw [if_neg h3]
        obtain ⟨i, rfl⟩ : ∃ i : Nat, size = i := ⟨size.toNat, by omega⟩
        obtain ⟨m, rfl⟩ : ∃ m : Nat, next = m := ⟨next.toNat, by omega⟩
        rw [Int.toNat_natCast, Int.toNat_natCast]
        exact cg_walk (by omega) (by omega) (by omega) hH
/-- grows: CheckGrowth for two heads -/
theorem grows_any {size next : Int} {H : List HF} {v : Value} (hn : next ≤ 9223372036854775807) (hH : HSlice w v H) :
    Calls Try.prog 32 #[.agg (hd size root), .agg (hd next top), v] w (Said (growB size root next top H) w) := by
  have hh := (HeadAt.new w size root 36).alloc (.cells (hd next top) 36)
  have hb := ((Below.refl w.heap.size w).alloc (Nat.le_refl _) (.cells (hd size root) 36)).alloc (by simp) (.cells (hd next top) 36)
  have hh2 := HeadAt.new (w.alloc (.cells (hd size root) 36)) next top 36
  have hH2 := hH.below hb
  have hz : ((w.alloc (.cells (hd size root) 36)).alloc (.cells (hd next top) 36)).heap.size = w.heap.size + 2 := by simp
  rw [World.size_alloc] at hh2
  have hs0 := hh.size
  have hs1 := hh2.size
  go_enter Try.func32, Try.ntmps32
  go_wp2_with (first | (refine wpList_load_h rfl (.tmp 9) rfl w.heap.size 1 rfl _ hh.root ?_) | (refine wpList_load_h rfl (.tmp 13) rfl (w.heap.size + 1) 1 rfl _ hh2.root ?_))
  refine (cg_any hn hH2).mono ?_
  rintro e w1 ⟨rfl, hb1⟩
  go_wp2_with fail
  go_ret
  exact ⟨rfl, hb.trans (hb1.mono (by omega))⟩
end
end Go.Proofs.Ytijhdfllffkfjaa
