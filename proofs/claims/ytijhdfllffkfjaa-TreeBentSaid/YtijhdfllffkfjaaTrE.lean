/- CheckPath, the program's. -/
import Derived.Test.YtijhdfllffkfjaaTrD
namespace Go.Proofs.Ytijhdfllffkfjaa
open Go.RowKit

theorem hg_eq (H : List HF) (j : Nat) : H.getD j (fun _ => 0) = hg H j := rfl
theorem HSlice.form {w : World} {v : Value} {H : List HF} (h : HSlice w v H) : ∃ (a : Option Addr) (cap : Nat), v = .slice a (H.length : Nat) cap ∧ H.length ≤ cap ∧ cap ≤ 9223372036854775807 ∧ (0 < H.length → ∃ b off : Nat, a = some ⟨b, off, none⟩ ∧ HR w b off H) := by
  rcases h with ⟨⟨ea, ecap, rfl, eh⟩, rfl⟩ | ⟨b, off, cap, rfl, h2, h3, h4⟩
  · exact ⟨ea, ecap, rfl, Nat.zero_le _, eh, fun h => by simp at h⟩
  · exact ⟨_, cap, rfl, h3, h4, fun _ => ⟨b, off, rfl, h2⟩⟩
theorem WOwn.form {w : World} {B : Nat} {v : Value} {ss : List Bool} (h : WOwn w B v ss) : ∃ (a : Option Addr) (cap : Nat), v = .slice a (ss.length : Nat) cap ∧ ss.length ≤ cap ∧ cap ≤ 9223372036854775807 ∧ (0 < ss.length → ∃ g : Nat, a = some ⟨g, 0, none⟩ ∧ g < w.heap.size ∧ ∀ j, j < ss.length → w.cell? ⟨g, j, none⟩ = some (.bool (ss.getD j false))) := by
  rcases h.row with ⟨rfl, rfl⟩ | ⟨g, cap, rfl, h1, h2, h3, h4, h5⟩
  · exact ⟨none, 0, rfl, Nat.le_refl _, by omega, fun h => by simp at h⟩
  · exact ⟨_, cap, rfl, h3, h4, fun _ => ⟨g, rfl, h2, h5⟩⟩
/-- a truth value; what was there is as it was -/
def Said (b : Bool) (w : World) (e : Ending) (w' : World) : Prop := e = .returned (.bool b) ∧ Below w.heap.size w w'
set_option maxHeartbeats 1000000 in
theorem check_bad {size n : Int} {root : HF} {leaf : ByteArray} {v : Value} {w : World} (h : n < 0 ∨ size ≤ n) :
    Calls Try.prog 40 #[.int .i64 size, hv root, .int .i64 n, .string leaf, v] w (Said false w) := by
  unfold hv
  by_cases h0 : n < 0
  · go_enter Try.func40, Try.ntmps40
    go_wp2_with fail
    go_ret
    exact ⟨rfl, (Below.refl _ _).alloc (Nat.le_refl _) _⟩
  · have h1 : size ≤ n := by omega
    go_enter Try.func40, Try.ntmps40
    go_wp2_with fail
    go_ret
    exact ⟨rfl, (Below.refl _ _).alloc (Nat.le_refl _) _⟩
set_option maxHeartbeats 1000000 in
theorem check_len {size n : Nat} {root : HF} {leaf : ByteArray} {pa : Option Addr} {m cap : Nat} {w : World} (h : n < size) (hs : size ≤ 9223372036854775807) (hne : (wayS n size).length ≠ m) :
    Calls Try.prog 40 #[.int .i64 (size : Int), hv root, .int .i64 (n : Int), .string leaf, .slice pa m cap] w (Said false w) := by
  unfold hv
  have n1 : ((n : Int) < 0) = False := by simp
  have n2 : decide ((size : Int) ≤ (n : Int)) = false := decide_eq_false (by omega)
  have n3 : decide (size ≤ n) = false := decide_eq_false (by omega)
  obtain ⟨ss, hss⟩ : ∃ ss, wayS n size = ss := ⟨_, rfl⟩
  rw [hss] at hne
  have HSS := Lib.hid hss
  clear hss
  go_enter Try.func40, Try.ntmps40
  go_wp2_with fail
  refine (way_any (i := n) (n := size) hs (by omega)).mono ?_
  rintro e w1 ⟨v', rfl, hW, hb⟩
  rw [HSS.out] at hW
  obtain ⟨sa, scap, hv', q1, q2, -⟩ := hW.form
  rw [hv']
  have t1 : ((ss.length : Int) == (m : Int)) = false := by simp; omega
  have t2 : ((ss.length : Int) != (m : Int)) = true := by simp; omega
  clear hv' hW
  go_wp2_with fail
  go_ret
  exact ⟨rfl, ((Below.refl _ _).alloc (Nat.le_refl _) _).trans (hb.mono (by simp))⟩
theorem node_arr {f g : HF} {w : World} : Calls Try.prog 18 #[.agg (arr 32 (U8 f)), .agg (arr 32 (U8 g))] w fun e w' => e = .returned (.agg (arr 32 (U8 (nodeS f g)))) ∧ Below w.heap.size w w' := node_any
theorem refnode_arr {f g : HF} {w : World} : Calls Try.prog 19 #[.agg (arr 32 (U8 f)), .agg (arr 32 (U8 g))] w fun e w' => e = .returned (.agg (arr 32 (U8 (nodeS f g)))) ∧ Below w.heap.size w w' := refnode_any
set_option maxHeartbeats 4000000 in
set_option maxRecDepth 100000 in
theorem check_same {size n : Nat} {root : HF} {leaf : List UInt8} {pa : Option Addr} {len cap : Nat} {H : List HF} {w : World} (h : n < size) (hs : size ≤ 9223372036854775807) (hlf : leaf.length ≤ 140737488351232)
    (hcap : len ≤ cap) (_hcm : cap ≤ 9223372036854775807) (hlen : H.length = len) (hp : 0 < len → ∃ b off : Nat, pa = some ⟨b, off, none⟩ ∧ HR w b off H) (he : (wayS n size).length = len) :
    Calls Try.prog 40 #[.int .i64 (size : Int), hv root, .int .i64 (n : Int), .string (bs leaf), .slice pa len cap] w (Said (decide (hl (stepF (leafS leaf) (wayS n size) H len) 32 = hl root 32)) w) := by
  have n1 : ((n : Int) < 0) = False := by simp
  have n2 : decide ((size : Int) ≤ (n : Int)) = false := decide_eq_false (by omega)
  have n3 : decide (size ≤ n) = false := decide_eq_false (by omega)
  obtain ⟨ss, hss⟩ : ∃ ss, wayS n size = ss := ⟨_, rfl⟩
  have h63 : len ≤ 63 := by rw [← he]; exact wayS_63 hs
  rw [hss] at he ⊢
  have HSS := Lib.hid hss
  have HLN := Lib.hid hlen
  have HE := Lib.hid he
  have HP := Lib.hid hp
  clear hss hlen he hp
  have hra : Row (w.alloc (.cells (arr 32 (U8 root)) 24)) w.heap.size 24 32 (U8 root) := Row.newArr _ _ _ _
  have hba : Below w.heap.size w (w.alloc (.cells (arr 32 (U8 root)) 24)) := (Below.refl _ _).alloc (Nat.le_refl _) _
  have hza : (w.alloc (.cells (arr 32 (U8 root)) 24)).heap.size = w.heap.size + 1 := by simp
  unfold hv
  go_enter Try.func40, Try.ntmps40
  go_wp2_with fail
  refine (way_any (i := n) (n := size) hs (by omega)).mono ?_
  generalize (w.alloc (.cells (arr 32 (U8 root)) 24)) = wa at *
  rintro e w1 ⟨v', rfl, hW, hb1⟩
  rw [HSS.out] at hW
  obtain ⟨sa, scap, hv', q1, q2, hsr⟩ := hW.form
  rw [HE.out] at hv' q1 hsr
  rw [hv']
  have hr1 := hra.belowAll hb1
  have hbw := hba.trans (hb1.mono (by omega))
  have z1 := hb1.size
  have HSR := Lib.hid hsr
  clear hv' hW hsr hra hba hb1 n1 n2 n3
  go_wp2_with fail
  refine (leaf_any (s := leaf) (by omega)).mono ?_
  rintro e w2 ⟨rfl, hb2⟩
  have z2 := hb2.size
  have hx0 : Row (w2.alloc (.cells (arr 32 fun _ => .int .u8 0) 24)) w2.heap.size 24 32 (fun _ => .int .u8 0) := Row.newArr _ _ _ _
  have hb3 := hb2.alloc z2 (.cells (arr 32 fun _ => .int .u8 0) 24)
  unfold hv
  go_wp2_with (first | (refine wpList_alloc_is rfl 24 rfl 32 (.int .u8 0) (by kernel_rfl) ?_) | (refine wpList_store_is rfl 24 (.tmp 12) (.tmp 31) rfl w2.heap.size 32 (U8 (leafS leaf)) (fun _ => .int .u8 0) rfl rfl 24 hx0 (by kernel_rfl) (fun _ _ => rfl) ?_))
  have hx1 := hx0.setRow (U8 (leafS leaf))
  have hb4 := Below.setRow hb3 z2 (arr 32 (U8 (leafS leaf)))
  clear hb3 hx0 hb2
  obtain ⟨f0, hf0⟩ : ∃ f0, leafS leaf = f0 := ⟨_, rfl⟩
  rw [hf0] at hx1 hb4 ⊢
  have HF0 := Lib.hid hf0
  clear hf0
  go_loopw [34] (fun i wr => ∃ j : Nat, j ≤ len ∧ i = .int .i64 j ∧ Hid (Row wr w2.heap.size 24 32 (U8 (stepF f0 ss H j))) ∧ Below w1.heap.size w1 wr) (fun i _ => len - (intOf i).toNat)
  case atStart => exact ⟨0, by omega, rfl, hx1, hb4⟩
  case round =>
    clear hx1 hb4
    obtain ⟨j, hj, rfl, hX, hB⟩ := hrel
    by_cases hlt : j < len
    · obtain ⟨g, hsa, hgl, hcell⟩ := HSR.out (by omega)
      obtain ⟨b, off, hpa, hpr⟩ := HP.out (by omega)
      rw [hsa, hpa]
      have hst : wr.cell? ⟨g, j, none⟩ = some (.bool (ss.getD j false)) := by rw [hB.cell (p := ⟨g, j, none⟩) hgl]; exact hcell j hlt
      have hpw : wr.rangeAt b (off + j * 32) (hc (hg H j)) := by
        have hb0 : b < w.heap.size := hpr.lt (by rw [HLN.out]; omega)
        have := (hpr.at_ hbw hb0).get j (by rw [HLN.out]; omega)
        exact range_below this hB (by omega)
      obtain ⟨fj, hfj⟩ : ∃ fj, stepF f0 ss H j = fj := ⟨_, rfl⟩
      obtain ⟨gj, hgj⟩ : ∃ gj, hg H j = gj := ⟨_, rfl⟩
      have hx := hX.out
      rw [hfj] at hx
      rw [hgj] at hpw
      have zr := hB.size
      clear hsa hpa hpr hcell hX
      by_cases hbit : ss.getD j false = true
      · rw [hbit] at hst
        have hnext : Hid (nodeS gj fj = stepF f0 ss H (j + 1)) := by show _ = _; rw [stepF, if_pos hbit, hgj, hfj]
        have hB2 := hB.alloc zr (.cells #[.bool true] 93)
        have hx2 := hx.alloc (.cells #[.bool true] 93)
        have hp2 := World.rangeAt_alloc hpw (.cells #[.bool true] 93)
        clear hfj hgj hbit
        go_wp2_with fail
        have zq := hB2.size
        generalize (wr.alloc (.cells #[.bool true] 93)) = wq at *
        refine wp_region_ext_tail 6 (by kernel_rfl) (by kernel_rfl) ?_
        simp only [List.take_succ_cons, List.take_zero, List.drop_succ_cons, List.drop_zero]
        repeat (first | go_big_quiet_step ((go_at_call 18; with_reducible exact ext_call node_arr)) | (go_big_quiet_want; (first | (refine quiet_load_h (.tmp 43) rfl b (off + j * 32) rfl gj hp2 ?_) | (refine quiet_load_h (.tmp 12) rfl w2.heap.size 0 rfl fj (row_range hx2) ?_)); go_simp; go_big_quiet_on))
        refine wpQuiet_nil ?_
        rintro _ ⟨e, rfl⟩
        have hr3 := hx2.ext e
        have hb5 := hB2.trans (e.below.mono zq)
        go_wp2_with (refine wpList_store_is rfl 24 (.tmp 12) (.tmp 46) rfl w2.heap.size 32 (U8 (nodeS gj fj)) _ rfl rfl 24 hr3 (by kernel_rfl) (fun _ _ => rfl) ?_)
        have hx4 : Row (e.at.setRow w2.heap.size (arr 32 (U8 (nodeS gj fj)))) w2.heap.size 24 32 (U8 (stepF f0 ss H (j + 1))) := by rw [← hnext.out]; exact hr3.setRow (U8 (nodeS gj fj))
        have hb6 := Below.setRow hb5 z2 (arr 32 (U8 (nodeS gj fj)))
        go_roundw
        case rel => exact ⟨j + 1, hlt, by go_num, hx4, hb6⟩
        case measure => simp [intOf]; omega
      · have hbf : ss.getD j false = false := Bool.eq_false_iff.2 hbit
        rw [hbf] at hst
        have hnext : Hid (nodeS fj gj = stepF f0 ss H (j + 1)) := by show _ = _; rw [stepF, if_neg hbit, hgj, hfj]
        have hB2 := hB.alloc zr (.cells #[.bool false] 93)
        have hx2 := hx.alloc (.cells #[.bool false] 93)
        have hp2 := World.rangeAt_alloc hpw (.cells #[.bool false] 93)
        clear hfj hgj hbit hbf
        go_wp2_with fail
        have zq := hB2.size
        generalize (wr.alloc (.cells #[.bool false] 93)) = wq at *
        refine wp_region_ext_tail 6 (by kernel_rfl) (by kernel_rfl) ?_
        simp only [List.take_succ_cons, List.take_zero, List.drop_succ_cons, List.drop_zero]
        repeat (first | go_big_quiet_step ((go_at_call 18; with_reducible exact ext_call node_arr)) | (go_big_quiet_want; (first | (refine quiet_load_h (.tmp 50) rfl b (off + j * 32) rfl gj hp2 ?_) | (refine quiet_load_h (.tmp 12) rfl w2.heap.size 0 rfl fj (row_range hx2) ?_)); go_simp; go_big_quiet_on))
        refine wpQuiet_nil ?_
        rintro _ ⟨e, rfl⟩
        have hr3 := hx2.ext e
        have hb5 := hB2.trans (e.below.mono zq)
        go_wp2_with (refine wpList_store_is rfl 24 (.tmp 12) (.tmp 52) rfl w2.heap.size 32 (U8 (nodeS fj gj)) _ rfl rfl 24 hr3 (by kernel_rfl) (fun _ _ => rfl) ?_)
        have hx4 : Row (e.at.setRow w2.heap.size (arr 32 (U8 (nodeS fj gj)))) w2.heap.size 24 32 (U8 (stepF f0 ss H (j + 1))) := by rw [← hnext.out]; exact hr3.setRow (U8 (nodeS fj gj))
        have hb6 := Below.setRow hb5 z2 (arr 32 (U8 (nodeS fj gj)))
        go_roundw
        case rel => exact ⟨j + 1, hlt, by go_num, hx4, hb6⟩
        case measure => simp [intOf]; omega
    · have t1 : decide (j < len) = false := decide_eq_false hlt
      obtain rfl : j = len := by omega
      have hr2 := hr1.below hB (by omega)
      clear t1
      go_wp2_with (first | (refine wpList_load_h rfl (.tmp 12) rfl w2.heap.size 0 rfl _ (row_range hX.out) ?_) | (refine wpList_load_h rfl (.tmp 6) rfl w.heap.size 0 rfl _ (row_range hr2) ?_))
      go_ret
      exact ⟨by rw [HF0.out]; rfl, hbw.trans (hB.mono (by omega))⟩
theorem check_any {size n : Int} {root : HF} {leaf : List UInt8} {v : Value} {H : List HF} {w : World} (hs : size ≤ 9223372036854775807) (hlf : leaf.length ≤ 140737488351232) (hH : HSlice w v H) :
    Calls Try.prog 40 #[.int .i64 size, hv root, .int .i64 n, .string (bs leaf), v] w (Said (fitB size root n leaf H) w) := by
  by_cases h : n < 0 ∨ size ≤ n
  · rw [show fitB size root n leaf H = false from decide_eq_false (by omega)]
    exact check_bad h
  · obtain ⟨i, rfl⟩ : ∃ i : Nat, n = i := ⟨n.toNat, by omega⟩
    obtain ⟨m, rfl⟩ : ∃ m : Nat, size = m := ⟨size.toNat, by omega⟩
    obtain ⟨pa, cap, rfl, h1, h2, h3⟩ := hH.form
    by_cases he : (wayS i m).length = H.length
    · have e : fitB m root i leaf H = decide (hl (stepF (leafS leaf) (wayS i m) H H.length) 32 = hl root 32) := by
        unfold fitB
        rw [Int.toNat_natCast, Int.toNat_natCast, decide_eq_decide]
        exact ⟨fun h => h.2.2.2, fun h' => ⟨by omega, by omega, he.symm, h'⟩⟩
      rw [e]
      exact check_same (by omega) (by omega) hlf h1 h2 rfl h3 he
    · rw [show fitB m root i leaf H = false from decide_eq_false (fun h' => he h'.2.2.1.symm)]
      exact check_len (by omega) (by omega) he
/-- a head: how many strings, and their root -/
def hd (size : Int) (root : HF) : Array Value := #[.int .i64 size] ++ arr 32 (U8 root)
theorem hd_size (size : Int) (root : HF) : (hd size root).size = 33 := by simp [hd, size_arr]
theorem hd_0 (size : Int) (root : HF) : (hd size root)[0]? = some (.int .i64 size) := by unfold hd; rw [Array.getElem?_append_left (by simp)]; rfl
theorem hd_root (size : Int) (root : HF) (j : Nat) (h : j < 32) : (hd size root)[1 + j]? = some (U8 root j) := by
  unfold hd
  rw [Array.getElem?_append_right (by simp), show 1 + j - (#[Value.int .i64 size] : Array Value).size = j by simp]
  exact arr_get _ _ _ h
/-- a head lies in block b -/
def HeadAt (w : World) (b : Nat) (size : Int) (root : HF) : Prop := ∃ t, w.heap[b]? = some (.cells (hd size root) t (0, 0))
theorem HeadAt.lt {w : World} {b : Nat} {size : Int} {root : HF} (h : HeadAt w b size root) : b < w.heap.size := (Array.getElem?_eq_some_iff.1 h.choose_spec).1
theorem HeadAt.size {w : World} {b : Nat} {size : Int} {root : HF} (h : HeadAt w b size root) : w.cell? ⟨b, 0, none⟩ = some (.int .i64 size) := by
  obtain ⟨t, h⟩ := h
  rw [cell_of_row w b 0 _ t (0, 0) h, hd_0]
theorem HeadAt.root {w : World} {b : Nat} {size : Int} {root : HF} (h : HeadAt w b size root) : w.rangeAt b 1 (hc root) := fun j v hv => by
  obtain ⟨t, h⟩ := h
  have hj : j < 32 := by
    have := (List.getElem?_eq_some_iff.1 hv).1
    rw [hc_length] at this
    exact this
  rw [hc_get _ _ hj] at hv
  rw [cell_of_row w b _ _ t (0, 0) h, hd_root _ _ _ hj, hv]
theorem HeadAt.new (w : World) (size : Int) (root : HF) (t : TypeId) : HeadAt (w.alloc (.cells (hd size root) t)) w.heap.size size root := ⟨t, heap_alloc_new w _⟩
theorem HeadAt.alloc {w : World} {b : Nat} {size : Int} {root : HF} (h : HeadAt w b size root) (o : Obj) : HeadAt (w.alloc o) b size root := by
  obtain ⟨t, h'⟩ := h
  exact ⟨t, by rw [Below.heap_alloc w o b (Array.getElem?_eq_some_iff.1 h').1]; exact h'⟩
theorem HeadAt.at_ {w w' : World} {B b : Nat} {size : Int} {root : HF} (h : HeadAt w b size root) (hb : Below B w w') (hB : b < B) : HeadAt w' b size root := by
  obtain ⟨t, h'⟩ := h
  exact ⟨t, by rw [hb.block b hB]; exact h'⟩
set_option maxHeartbeats 1000000 in
theorem fits_any {size n : Int} {root : HF} {leaf : List UInt8} {v : Value} {H : List HF} {w : World} (hs : size ≤ 9223372036854775807) (hlf : leaf.length ≤ 140737488351232) (hH : HSlice w v H) :
    Calls Try.prog 21 #[.agg (hd size root), .int .i64 n, .string (bs leaf), v] w (Said (fitB size root n leaf H) w) := by
  have hh := HeadAt.new w size root 36
  have hb := (Below.refl w.heap.size w).alloc (Nat.le_refl _) (.cells (hd size root) 36)
  have hH2 := hH.below hb
  have hz : (w.alloc (.cells (hd size root) 36)).heap.size = w.heap.size + 1 := by simp
  have hs0 := hh.size
  go_enter Try.func21, Try.ntmps21
  go_wp2_with (refine wpList_load_h rfl (.tmp 11) rfl w.heap.size 1 rfl _ hh.root ?_)
  refine (check_any (root := root) hs hlf hH2).mono ?_
  rintro e w1 ⟨rfl, hb1⟩
  go_wp2_with fail
  go_ret
  exact ⟨rfl, hb.trans (hb1.mono (by omega))⟩
end Go.Proofs.Ytijhdfllffkfjaa
