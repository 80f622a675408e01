/- sortesref03.Read. -/
import Derived.Test.YtaphhcalpgibaaaReadB
namespace Go.Proofs.Ytaphhcalpgibaaa
open Go.RowKit

attribute [local go_sem] digs_get
theorem add_digit2 (a : UInt8) (n : Nat) (ha : a.toNat < 16) (hn : n < 16) : ub a * 16 % 256 + (n : Int) = ub (UInt8.ofNat (16 * a.toNat + n)) := by
  rw [← add_digit a n ha hn]
  unfold ub
  omega

set_option maxHeartbeats 2000000 in
theorem refread_any {l : List UInt8} {w : World} :
    Calls Try.prog 19 #[.string (bs l)] w fun e w' => e = .returned (.tuple #[.agg (arr 32 (U8 (rd l))), .bool (decide (good l))]) ∧ Below w.heap.size w w' := by
  go_enter Try.func19, Try.ntmps19
  have hr0 : Row ((w.alloc (.cells (arr 32 fun _ => .int .u8 0) 24)).alloc (.cells (arr 32 fun _ => .int .u8 0) 24)) w.heap.size 24 32 (fun _ => .int .u8 0) := (Row.newArr w _ 32 _).alloc _
  have ho0 : Row ((w.alloc (.cells (arr 32 fun _ => .int .u8 0) 24)).alloc (.cells (arr 32 fun _ => .int .u8 0) 24)) (w.heap.size + 1) 24 32 (fun _ => .int .u8 0) := Row.newAt _ _ 32 _ (by simp)
  have hb0 : Below w.heap.size w ((w.alloc (.cells (arr 32 fun _ => .int .u8 0) 24)).alloc (.cells (arr 32 fun _ => .int .u8 0) 24)) := ((Below.refl _ _).alloc (Nat.le_refl _) _).alloc (by simp) _
  have HR := Lib.hid hr0
  have HO := Lib.hid ho0
  clear hr0 ho0
  by_cases h64 : l.length = 64
  · have h64' : (l.length : Int) = 64 := by omega
    have hn : ((l.length : Int) != 64) = false := by rw [h64']; rfl
    go_wp2_with (refine wpList_alloc_is rfl 24 rfl 32 (.int .u8 0) (by kernel_rfl) ?_; try simp only [World.size_alloc])
    have hr0 := HR.out
    have ho0 := HO.out.congr (g := U8 (rdF l 0)) fun i _ => by unfold U8 rdF; rw [if_neg (by omega), if_neg (by omega)]; rfl
    clear HR HO
    generalize (w.alloc (.cells (arr 32 fun _ => .int .u8 0) 24)).alloc (.cells (arr 32 fun _ => .int .u8 0) 24) = w0 at *
    go_loopw [5, 6, 7] (fun v _ _ wr => ∃ k : Nat, k ≤ 64 ∧ v = .int .i64 k ∧ goodTo l k ∧ Row wr w.heap.size 24 32 (fun _ => .int .u8 0) ∧ Row wr (w.heap.size + 1) 24 32 (U8 (rdF l k)) ∧ Below w.heap.size w wr) (fun v _ _ _ => 64 - (intOf v).toNat)
    case atStart => exact ⟨0, by omega, rfl, fun j hj => by omega, hr0, ho0, hb0⟩
    case round =>
      clear hr0 ho0 hb0
      obtain ⟨k, hk, rfl, hgt, hr, ho, hb⟩ := hrel
      by_cases hlt : k < 64
      · have hlt' : (k : Int) < 64 := by omega
        have hlk : k < l.length := by omega
        go_wp2_with fail
        go_loopw [6, 7] (fun n v ws => ∃ j : Nat, j ≤ 16 ∧ v = .int .i64 j ∧ n = .int .i64 (dgTo (bg l k) j) ∧ Row ws w.heap.size 24 32 (fun _ => .int .u8 0) ∧ Row ws (w.heap.size + 1) 24 32 (U8 (rdF l k)) ∧ Below w.heap.size w ws) (fun _ v _ => 16 - (intOf v).toNat)
        case atStart => exact ⟨0, by omega, rfl, rfl, hr, ho, hb⟩
        case round =>
          clear hr ho hb
          obtain ⟨j, hj, rfl, rfl, hr, ho, hb⟩ := hrel
          by_cases hj16 : j < 16
          · have hj16' : (j : Int) < 16 := by omega
            by_cases he : ub (hexDigit j) = ub (bg l k)
            · have hbe : (ub (hexDigit j) == ub (bg l k)) = true := by simpa using he
              have HE := Lib.hid he
              clear he
              go_wp2_with fail
              go_quiet (fail)
              go_wp2
              go_roundw
              case rel => exact ⟨j + 1, by omega, by go_num, by rw [dgTo, if_pos HE.out], hr.drewN _, ho.drewN _, Below.drewN hb _⟩
              case measure => simp [intOf]; omega
            · have hbe : (ub (hexDigit j) == ub (bg l k)) = false := by simpa using he
              have HE := Lib.hid he
              clear he
              go_wp2_with fail
              go_quiet (fail)
              go_wp2
              go_roundw
              case rel => exact ⟨j + 1, by omega, by go_num, by rw [dgTo, if_neg HE.out], hr.drewN _, ho.drewN _, Below.drewN hb _⟩
              case measure => simp [intOf]; omega
          · have hge : (16 : Int) ≤ j := by omega
            obtain rfl : j = 16 := by omega
            have hde := dgTo_end (bg l k)
            by_cases hd : 0 ≤ dg (bg l k)
            · have hnb : dg (bg l k) = (nib l k : Nat) := by unfold nib; omega
              have hnl := nib_lt l k
              have p0 : (k : Int) / 2 < 32 := by omega
              have c1 : wr.cell? ⟨w.heap.size + 1, k / 2, none⟩ = some (.int .u8 (ub (rdF l k (k / 2)))) := ho.cell (i := k / 2) (by omega)
              have f1 := ho.frozen (k / 2)
              go_wp2_with fail
              rw [add_digit2 _ _ (rdF_half l k) hnl]
              go_roundw
              case rel => exact ⟨k + 1, by omega, by go_num, goodTo_succ hgt hd, hr.far (by simp) _, by rw [rdF_succ]; exact ho.setU8 _ _, hb.setCell (by simp) _⟩
              case measure => simp [intOf]; omega
            · have hd2 : dg (bg l k) < 0 := by omega
              have hng := not_good hlt hd2
              go_wp2_with (first | (refine wpList_build_is rfl 24 _ rfl (arr 32 fun _ => .int .u8 0) (by kernel_rfl) ?_) | (refine wpList_store_is rfl 24 (.tmp 2) (.tmp 29) rfl w.heap.size 32 (fun _ => .int .u8 0) (fun _ => .int .u8 0) rfl rfl 24 hr (by kernel_rfl) (fun _ _ => rfl) ?_))
              refine ret_row_tmp rfl w.heap.size rfl (hr.setRow _) Try.underlying24 (by kernel_rfl) _ rfl rfl ⟨?_, Below.setRow hb (by omega) _⟩
              rw [rd_bad hng]
              first | rfl | (rw [decide_eq_false hng]; rfl)
      · have hge : (64 : Int) ≤ k := by omega
        obtain rfl : k = 64 := by omega
        have hgd : good l := ⟨h64, hgt⟩
        go_wp2_with (first | (refine wpList_load_is rfl 24 (.tmp 4) rfl (w.heap.size + 1) rfl 24 32 _ ho Try.underlying24 (by kernel_rfl) ?_) | (refine wpList_store_is rfl 24 (.tmp 2) (.tmp 41) rfl w.heap.size 32 (U8 (rdF l 64)) (fun _ => .int .u8 0) rfl rfl 24 hr (by kernel_rfl) (fun _ _ => rfl) ?_))
        refine ret_row_tmp rfl w.heap.size rfl (hr.setRow _) Try.underlying24 (by kernel_rfl) _ rfl rfl ⟨?_, Below.setRow hb (by omega) _⟩
        rw [rd_good hgd]
        first | rfl | (rw [decide_eq_true hgd]; rfl)
  · have hn : ((l.length : Int) != 64) = true := by simp; omega
    have hng : ¬ good l := fun h => h64 h.1
    go_wp2_with (first | (refine wpList_alloc_is rfl 24 rfl 32 (.int .u8 0) (by kernel_rfl) ?_; try simp only [World.size_alloc]) | (refine wpList_load_is rfl 24 (.tmp 4) rfl (w.heap.size + 1) rfl 24 32 _ HO.out Try.underlying24 (by kernel_rfl) ?_) | (refine wpList_store_is rfl 24 (.tmp 2) (.tmp 11) rfl w.heap.size 32 (fun _ => .int .u8 0) (fun _ => .int .u8 0) rfl rfl 24 HR.out (by kernel_rfl) (fun _ _ => rfl) ?_))
    refine ret_row_tmp rfl w.heap.size rfl (HR.out.setRow _) Try.underlying24 (by kernel_rfl) _ rfl rfl ⟨?_, Below.setRow hb0 (by omega) _⟩
    rw [rd_bad hng]
    rfl
end Go.Proofs.Ytaphhcalpgibaaa
