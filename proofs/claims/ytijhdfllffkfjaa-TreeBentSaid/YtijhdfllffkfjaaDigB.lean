/- digest.schedule: the words of a block. -/
import Derived.Test.YtijhdfllffkfjaaDigA
import Derived.Deep.LoopGhost
namespace Go.Proofs.Ytijhdfllffkfjaa
open Go.RowKit

theorem upd_wL (b : Nat → UInt8) (k : Nat) (v : BitVec 32) (hv : v = wNext b (wL b k) k) (i : Nat) : upd (UW fun j => wG b k j) k (.int .u32 (un v)) i = UW (fun j => wG b (k + 1) j) i := by
  unfold upd UW
  simp only [wG_next]
  by_cases h : i = k
  · rw [if_pos h, if_pos h, hv]
  · rw [if_neg h, if_neg h]

set_option maxHeartbeats 1000000 in
set_option maxRecDepth 100000 in
theorem schedule_any (g o len cap : Nat) (b : Nat → UInt8) (w : World) (hl : 64 ≤ len) (hlc : len ≤ cap) (hcap : cap ≤ 9223372036854775807) (hgb : g < w.heap.size)
    (hb : ∀ j, j < 64 → w.cell? ⟨g, o + j, none⟩ = some (.int .u8 (ub (b j)))) :
    Calls Try.prog 61 #[.slice (some ⟨g, o, none⟩) len cap] w fun e w' => e = .returned (.agg (arr 64 (UW (W0 b)))) ∧ Below w.heap.size w w' := by
  have HB := Lib.hid hb
  clear hb
  go_enter Try.func61, Try.ntmps61
  go_wp2
  go_loopw [9] (fun u wr => ∃ k : Nat, k ≤ 64 ∧ u = .int .i64 k ∧ Below w.heap.size w wr ∧ Row wr (w.heap.size + 1) 97 64 (UW fun j => wG b k j) ∧ Row wr w.heap.size 97 64 (fun _ => .int .u32 0)) (fun u _ => 64 - (intOf u).toNat)
  case atStart =>
    refine ⟨0, by omega, rfl, by go_grown, ?_, ?_⟩
    · have h := heap_alloc_new (w.alloc (.cells (arr 64 fun _ => .int .u32 0) 97)) (.cells (arr 64 fun _ => .int .u32 0) 97)
      rw [World.size_alloc] at h
      refine Eq.trans ?_ (h.trans ?_)
      · rfl
      · kernel_rfl
    · have h := heap_alloc_new w (.cells (arr 64 fun _ => .int .u32 0) 97)
      refine Eq.trans (Below.heap_alloc _ _ _ (by simp)) (Eq.trans ?_ (h.trans ?_))
      · rfl
      · kernel_rfl
  case round =>
    obtain ⟨k, hk, rfl, hbl, hrow, hres⟩ := hrel
    by_cases hlt : k < 64
    · have hcell : ∀ j, j < 64 → wr.cell? ⟨g, o + j, none⟩ = some (.int .u8 (ub (b j))) := fun j hj => (hbl.cell (p := ⟨g, o + j, none⟩) hgb).trans (HB.out j hj)
      have HC := Lib.hid hcell
      clear hcell
      have hlt' : (k : Int) < 64 := by omega
      have hc := hrow.cell (i := k) hlt
      have hf := hrow.frozen k
      by_cases h16 : k < 16
      · go_wp2_with fail
        have hw := word_any g (o + 4 * k) (len - 4 * k) (cap - 4 * k) _ _ _ _ wr (by omega) (HC.out (4 * k) (by omega)) (HC.out (4 * k + 1) (by omega)) (HC.out (4 * k + 2) (by omega)) (HC.out (4 * k + 3) (by omega))
        refine hw.mono ?_
        clear hw
        rintro e w' ⟨rfl, nq, rfl⟩
        go_wp2
        go_roundw
        case rel =>
          exact ⟨k + 1, by omega, by go_num, (Below.drewN hbl nq).setCell (by simp) _, ((hrow.drewN nq).set_ k _).congr fun i _ => upd_wL b k _ (wNext_low b k h16) i, (hres.drewN nq).far (by simp) _⟩
        case measure => simp [intOf]; omega
      · have h16' : (16 : Int) ≤ k := by omega
        have c15 : wr.cell? ⟨w.heap.size + 1, k - 15, none⟩ = some (.int .u32 (un (wG b k (k - 15)))) := hrow.cell (i := k - 15) (by omega)
        have c2 : wr.cell? ⟨w.heap.size + 1, k - 2, none⟩ = some (.int .u32 (un (wG b k (k - 2)))) := hrow.cell (i := k - 2) (by omega)
        have c16 : wr.cell? ⟨w.heap.size + 1, k - 16, none⟩ = some (.int .u32 (un (wG b k (k - 16)))) := hrow.cell (i := k - 16) (by omega)
        have c7 : wr.cell? ⟨w.heap.size + 1, k - 7, none⟩ = some (.int .u32 (un (wG b k (k - 7)))) := hrow.cell (i := k - 7) (by omega)
        go_wp2_with fail
        go_quiet (fail)
        go_wp2_with fail
        refine (rotl_any _ _ _ (by decide) (by decide)).mono ?_
        rintro e w' ⟨rfl, rfl⟩
        go_wp2_with fail
        refine (rotl_any _ _ _ (by decide) (by decide)).mono ?_
        rintro e w' ⟨rfl, rfl⟩
        go_wp2_with fail
        refine (rotl_any _ _ _ (by decide) (by decide)).mono ?_
        rintro e w' ⟨rfl, rfl⟩
        go_wp2_with fail
        refine (rotl_any _ _ _ (by decide) (by decide)).mono ?_
        rintro e w' ⟨rfl, rfl⟩
        go_wp2_with fail
        go_region
        go_wp2
        go_roundw
        case rel =>
          exact ⟨k + 1, by omega, by go_num, (Below.drewN hbl _).setCell (by simp) _, ((hrow.drewN _).set_ k _).congr fun i _ => upd_wL b k _ (wNext_high b k h16) i, (hres.drewN _).far (by simp) _⟩
        case measure => simp [intOf]; omega
    · have hge : (64 : Int) ≤ k := by omega
      obtain rfl : k = 64 := by omega
      go_wp2_with (first | (refine wpList_load_is rfl 97 _ rfl (w.heap.size + 1) rfl 97 64 _ hrow Try.underlying97 (by kernel_rfl) ?_) | (refine wpList_store_is rfl 97 _ _ rfl w.heap.size 64 _ _ rfl rfl 97 hres (by kernel_rfl) (fun _ _ => rfl) ?_))
      exact ret_row rfl w.heap.size rfl (hres.setRow _) Try.underlying97 (by kernel_rfl) rfl ⟨rfl, Below.setRow hbl (Nat.le_refl _) _⟩
end Go.Proofs.Ytijhdfllffkfjaa
