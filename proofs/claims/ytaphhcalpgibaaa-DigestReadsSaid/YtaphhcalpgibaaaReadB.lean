/- digest.Read, sortesref03.Read. -/
import Derived.Test.YtaphhcalpgibaaaReadA
namespace Go.Proofs.Ytaphhcalpgibaaa
open Go.RowKit

theorem arr_zero : arr 32 (U8 fun _ => 0) = arr 32 fun _ => .int .u8 0 := rfl
theorem not_good {l : List UInt8} {k : Nat} (hk : k < 64) (h : dg (bg l k) < 0) : ¬ good l := fun hg => by have := hg.2 k hk; omega
theorem goodTo_succ {l : List UInt8} {k : Nat} (h : goodTo l k) (hk : 0 ≤ dg (bg l k)) : goodTo l (k + 1) := fun j hj => by
  rcases Nat.lt_or_ge j k with h1 | h1
  · exact h j h1
  · obtain rfl : j = k := by omega
    exact hk

theorem or_digit2 (a : UInt8) (n : Nat) (ha : a.toNat < 16) (hn : n < 16) : bits .or .u8 (ub a * 16 % 256) (n : Int) = ub (UInt8.ofNat (16 * a.toNat + n)) := by
  have h : ∀ a n : Fin 16, bits .or .u8 ((a.val : Int) * 16 % 256) (n.val : Int) = ub (UInt8.ofNat (16 * a.val + n.val)) := by decide +kernel
  exact h ⟨a.toNat, ha⟩ ⟨n, hn⟩
theorem digit_any {x : UInt8} {w : World} : Calls Try.prog 30 #[.string digs, .int .u8 (ub x)] w fun e w' => e = .returned (.int .i64 (dg x)) ∧ w' = w := by
  have h := indexByte_any digs (ub x) w
  rw [show (ub x).toNat.toUInt8 = x by unfold ub; simp] at h
  exact h

set_option maxHeartbeats 2000000 in
theorem read_any {l : List UInt8} {w : World} :
    Calls Try.prog 18 #[.string (bs l)] w fun e w' => e = .returned (.tuple #[.agg (arr 32 (U8 (rd l))), .bool (decide (good l))]) ∧ Below w.heap.size w w' := by
  go_enter Try.func18, Try.ntmps18
  by_cases h64 : l.length = 64
  · have h64' : (l.length : Int) = 64 := by omega
    have hn : ((l.length : Int) != 64) = false := by rw [h64']; rfl
    have HM := Lib.hid (show (bs l).size ≤ maxLen from by rw [bs_size, h64]; decide)
    go_wp2_with (first | (refine wpList_alloc_is rfl 24 rfl 32 (.int .u8 0) (by kernel_rfl) ?_) | (refine wpList_conv_bytes rfl (.tmp 12) 9 33 5 rfl (bs l) rfl Try.underlying9 Try.underlying33 Try.underlying5 HM.out ?_; intro v2 w2 hv2 hown2 hb2 hsz2; refine unheld ?_))
    refine Held.of ?_
    obtain ⟨c2, rfl⟩ := hv2
    rw [bs_data] at hown2
    simp only [World.size_alloc] at hown2 hb2 hsz2 ⊢
    rw [bs_size, h64] at hown2 ⊢
    have hr2 : Row w2 w.heap.size 24 32 (fun _ => .int .u8 0) := ((Row.newArr w _ 32 _).alloc _).below hb2 (by omega)
    have ho2 : Row w2 (w.heap.size + 1) 24 32 (U8 (rdF l 0)) := ((Row.newAt (w.alloc (.cells (arr 32 fun _ => .int .u8 0) 24)) 24 32 (fun _ => .int .u8 0) (by simp)).below hb2 (by omega)).congr fun i _ => by unfold U8 rdF; rw [if_neg (by omega), if_neg (by omega)]; rfl
    have hbl2 : Below w.heap.size w w2 := (((Below.refl _ _).alloc (Nat.le_refl _) _).alloc (by simp) _).trans (hb2.mono (by omega))
    obtain ⟨g, cap, hg, -, hg1, hcap, hcm, hcell, -⟩ := hown2.form (by rw [BV_length]; omega)
    obtain rfl : w.heap.size + 1 + 1 = g := by simpa using congrArg (fun v => match v with | Value.slice (some p) _ _ => p.block | _ => 0) hg
    have hc2 : ∀ j, j < 64 → w2.cell? ⟨w.heap.size + 1 + 1, j, none⟩ = some (.int .u8 (ub (bg l j))) := fun j hj => hcell j _ (BV_get l j (by omega))
    clear hown2 hb2 hg hcell
    go_wp2_with fail
    go_loopw [5, 6, 7, 15] (fun _ _ _ v wr => ∃ k : Nat, k ≤ 64 ∧ v = .int .i64 k ∧ goodTo l k ∧ Row wr w.heap.size 24 32 (fun _ => .int .u8 0) ∧ Row wr (w.heap.size + 1) 24 32 (U8 (rdF l k)) ∧ (∀ j, j < 64 → wr.cell? ⟨w.heap.size + 1 + 1, j, none⟩ = some (.int .u8 (ub (bg l j)))) ∧ Below w.heap.size w wr) (fun _ _ _ v _ => 64 - (intOf v).toNat)
    case atStart => exact ⟨0, by omega, rfl, fun j hj => by omega, hr2, ho2, hc2, hbl2⟩
    case round =>
      clear hr2 ho2 hc2 hbl2
      obtain ⟨k, hk, rfl, hgt, hr, ho, hc, hb⟩ := hrel
      by_cases hlt : k < 64
      · have hlt' : (k : Int) < 64 := by omega
        have c0 := hc k hlt
        by_cases hd : 0 ≤ dg (bg l k)
        · have hd2 : ¬ dg (bg l k) < 0 := by omega
          have hnb : dg (bg l k) = (nib l k : Nat) := by unfold nib; omega
          have hnl := nib_lt l k
          have p0 : (k : Int) / 2 < 32 := by omega
          have c1 : wr.cell? ⟨w.heap.size + 1, k / 2, none⟩ = some (.int .u8 (ub (rdF l k (k / 2)))) := ho.cell (i := k / 2) (by omega)
          have f1 := ho.frozen (k / 2)
          go_wp2_with fail
          refine digit_any.mono ?_
          rintro e w3 ⟨rfl, rfl⟩
          rw [hnb]
          go_wp2_with fail
          rw [or_digit2 _ _ (rdF_half l k) hnl]
          go_roundw
          case rel =>
            exact ⟨k + 1, by omega, by go_num, goodTo_succ hgt hd, hr.far (by simp) _, by rw [rdF_succ]; exact ho.setU8 _ _, fun j hj => (World.cell?_setCell_other _ _ _ _ (by simp)).trans (hc j hj), hb.setCell (by simp) _⟩
          case measure => simp [intOf]; omega
        · have hd2 : dg (bg l k) < 0 := by omega
          have hng := not_good hlt hd2
          go_wp2_with fail
          refine digit_any.mono ?_
          rintro e w3 ⟨rfl, rfl⟩
          go_wp2_with (first | (refine wpList_build_is rfl 24 _ rfl (arr 32 fun _ => .int .u8 0) (by kernel_rfl) ?_) | (refine wpList_store_is rfl 24 (.tmp 2) (.tmp 24) rfl w.heap.size 32 (fun _ => .int .u8 0) (fun _ => .int .u8 0) rfl rfl 24 hr (by kernel_rfl) (fun _ _ => rfl) ?_))
          refine ret_row_tmp rfl w.heap.size rfl (hr.setRow _) Try.underlying24 (by kernel_rfl) _ rfl rfl ⟨?_, Below.setRow hb (by omega) _⟩
          rw [rd_bad hng, decide_eq_false hng]
          rfl
      · have hge : (64 : Int) ≤ k := by omega
        obtain rfl : k = 64 := by omega
        have hgd : good l := ⟨h64, hgt⟩
        go_wp2_with (first | (refine wpList_load_is rfl 24 (.tmp 4) rfl (w.heap.size + 1) rfl 24 32 _ ho Try.underlying24 (by kernel_rfl) ?_) | (refine wpList_store_is rfl 24 (.tmp 2) (.tmp 37) rfl w.heap.size 32 (U8 (rdF l 64)) (fun _ => .int .u8 0) rfl rfl 24 hr (by kernel_rfl) (fun _ _ => rfl) ?_))
        refine ret_row_tmp rfl w.heap.size rfl (hr.setRow _) Try.underlying24 (by kernel_rfl) _ rfl rfl ⟨?_, Below.setRow hb (by omega) _⟩
        rw [rd_good hgd, decide_eq_true hgd]
        rfl
  · have hn : ((l.length : Int) != 64) = true := by simp; omega
    have hng : ¬ good l := fun h => h64 h.1
    have hr : Row ((w.alloc (.cells (arr 32 fun _ => .int .u8 0) 24)).alloc (.cells (arr 32 fun _ => .int .u8 0) 24)) w.heap.size 24 32 (fun _ => .int .u8 0) := (Row.newArr w _ 32 _).alloc _
    have ho : Row ((w.alloc (.cells (arr 32 fun _ => .int .u8 0) 24)).alloc (.cells (arr 32 fun _ => .int .u8 0) 24)) (w.heap.size + 1) 24 32 (fun _ => .int .u8 0) := Row.newAt _ _ 32 _ (by simp)
    have HR := Lib.hid hr
    have HO := Lib.hid ho
    clear hr ho
    go_wp2_with (first | (refine wpList_alloc_is rfl 24 rfl 32 (.int .u8 0) (by kernel_rfl) ?_; try simp only [World.size_alloc]) | (refine wpList_load_is rfl 24 (.tmp 4) rfl (w.heap.size + 1) rfl 24 32 _ HO.out Try.underlying24 (by kernel_rfl) ?_) | (refine wpList_store_is rfl 24 (.tmp 2) (.tmp 11) rfl w.heap.size 32 (fun _ => .int .u8 0) (fun _ => .int .u8 0) rfl rfl 24 HR.out (by kernel_rfl) (fun _ _ => rfl) ?_))
    refine ret_row_tmp rfl w.heap.size rfl (HR.out.setRow _) Try.underlying24 (by kernel_rfl) _ rfl rfl ⟨?_, Below.setRow (((Below.refl _ _).alloc (Nat.le_refl _) _).alloc (by simp) _) (by omega) _⟩
    rw [rd_bad hng]
    rfl
end Go.Proofs.Ytaphhcalpgibaaa
