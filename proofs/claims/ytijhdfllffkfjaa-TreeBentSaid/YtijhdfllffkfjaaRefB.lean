/- sortesref03.block, sortesref03.Sum. -/
import Derived.Test.YtijhdfllffkfjaaRefA
import Derived.Test.YtijhdfllffkfjaaDigC
import Derived.Test.YtijhdfllffkfjaaMore
import Derived.Deep.RegionHeld3
namespace Go.Proofs.Ytijhdfllffkfjaa
open Go.RowKit

theorem run_box_arr {P : Program} (t : TypeId) (n : Nat) (f : Nat → Value) (w : World) : (Instr.box t (.agg (arr n f))).run P w = .ok (.pointer (some ⟨w.heap.size, 0, none⟩)) (w.alloc (.cells (arr n f) t)) := by
  simp [Instr.box, newVar, newRow, Value.cells]

set_option maxHeartbeats 2000000 in
set_option maxRecDepth 100000 in
theorem block_any (s : St) (b : List UInt8) (hb : b.length = 64) (w : World) :
    Calls Try.prog 56 #[.agg (arr 8 (UW s.get)), .string (bs b)] w fun e w' => e = .returned (.agg (arr 8 (UW (blk s (bg b)).get))) ∧ Below w.heap.size w w' := by
  have hB : b.length ≤ 64 := by omega
  have hB' : 64 ≤ b.length := by omega
  clear hb
  go_enter Try.func56, Try.ntmps56
  go_wp2_with (first | (go_at_call 64; refine (refrounds_any _).mono ?_; rintro e w1 ⟨rfl, hb1⟩) | (refine wpList_alloc_is rfl 81 rfl 8 (.int .u32 0) (by kernel_rfl) ?_) | (refine wpList_alloc_is rfl 97 rfl 64 (.int .u32 0) (by kernel_rfl) ?_) | (refine wpList_store_is rfl 97 (.tmp 5) (.tmp 17) rfl w1.heap.size 64 (UW K0) (fun _ => .int .u32 0) rfl rfl 97 (Row.newArr w1 _ 64 _) (by kernel_rfl) (fun _ _ => rfl) ?_))
  obtain ⟨w4, hw4⟩ : ∃ w4, w4 = ((w1.alloc (.cells (arr 64 fun _ => .int .u32 0) 97)).setRow w1.heap.size (arr 64 (UW K0))).alloc (.cells (arr 64 fun _ => .int .u32 0) 97) := ⟨_, rfl⟩
  have hsz1 := hb1.size
  simp only [World.size_alloc] at hb1 hsz1
  have hz4 : w4.heap.size = w1.heap.size + 2 := by rw [hw4]; simp
  have hb4 : Below w1.heap.size w1 w4 := by
    rw [hw4]
    exact (Below.setRow ((Below.refl _ _).alloc (Nat.le_refl _) _) (Nat.le_refl _) _).alloc (by simp) _
  have hW4 : Row w4 (w1.heap.size + 1) 97 64 (UW fun j => wG (bg b) 0 j) := by
    rw [hw4]
    exact (Row.newAt _ _ 64 _ (by simp)).congr fun i _ => by simp [UW, wG, wL, un]
  have hK4 : Row w4 w1.heap.size 97 64 (UW K0) := by
    rw [hw4]
    exact (Row.setRow (Row.newArr w1 _ 64 _) _).alloc _
  have hs1 : Row w1 w.heap.size 81 8 (UW s.get) := ((Row.newArr w _ 8 _).alloc _).below hb1 (by omega)
  have ho1 : Row w1 (w.heap.size + 1) 81 8 (fun _ => .int .u32 0) := (Row.newAt _ _ 8 _ (by simp)).below hb1 (by omega)
  have hb0 : Below w.heap.size w w1 := ((((Below.refl _ _).alloc (Nat.le_refl _) _).alloc (by simp) _).trans (hb1.mono (by omega)))
  have hs4 := hs1.belowAll hb4
  have ho4 := ho1.belowAll hb4
  have hbl4 := hb0.trans (hb4.mono (by omega))
  rw [← hw4]
  clear hw4 hs1 ho1 hb0 hb1 hb4
  generalize w1.heap.size = n1 at *
  go_loopw [7] (fun u wr => ∃ k : Nat, k ≤ 64 ∧ u = .int .i64 k ∧ Row wr (n1 + 1) 97 64 (UW fun j => wG (bg b) k j) ∧ Row wr n1 97 64 (UW K0) ∧ Row wr w.heap.size 81 8 (UW s.get) ∧ Row wr (w.heap.size + 1) 81 8 (fun _ => .int .u32 0) ∧ Below w.heap.size w wr) (fun u _ => 64 - (intOf u).toNat)
  case atStart => exact ⟨0, by omega, rfl, hW4, hK4, hs4, ho4, hbl4⟩
  case round =>
    clear hW4 hK4 hs4 ho4 hbl4
    obtain ⟨k, hk, rfl, hW, hK, hst, hou, hbl⟩ := hrel
    by_cases hlt : k < 64
    · have hlt' : (k : Int) < 64 := by omega
      have hc : wr.cell? ⟨n1 + 1, k, none⟩ = some (.int .u32 (un (wG (bg b) k k))) := hW.cell (i := k) hlt
      have hf := hW.frozen k
      by_cases h16 : k < 16
      · have h16' : (k : Int) < 16 := by omega
        have e0 : IntKind.i64.wrap (4 * (k : Int)) = 4 * (k : Int) := IntWalk.i64_in _ (by omega)
        have e1 : IntKind.i64.wrap (4 * (k : Int) + 1) = 4 * (k : Int) + 1 := IntWalk.i64_in _ (by omega)
        have e2 : IntKind.i64.wrap (4 * (k : Int) + 2) = 4 * (k : Int) + 2 := IntWalk.i64_in _ (by omega)
        have e3 : IntKind.i64.wrap (4 * (k : Int) + 3) = 4 * (k : Int) + 3 := IntWalk.i64_in _ (by omega)
        have p0 : 0 ≤ 4 * (k : Int) ∧ 4 * (k : Int) < (b.length : Int) := by omega
        have p1 : 0 ≤ 4 * (k : Int) + 1 ∧ 4 * (k : Int) + 1 < (b.length : Int) := by omega
        have p2 : 0 ≤ 4 * (k : Int) + 2 ∧ 4 * (k : Int) + 2 < (b.length : Int) := by omega
        have p3 : 0 ≤ 4 * (k : Int) + 3 ∧ 4 * (k : Int) + 3 < (b.length : Int) := by omega
        have t0 : (4 * (k : Int)).toNat = 4 * k := by omega
        have t1 : (4 * (k : Int) + 1).toNat = 4 * k + 1 := by omega
        have t2 : (4 * (k : Int) + 2).toNat = 4 * k + 2 := by omega
        have t3 : (4 * (k : Int) + 3).toNat = 4 * k + 3 := by omega
        go_wp2_with fail
        go_region
        clear e0 e1 e2 e3 p0 p1 p2 p3 t0 t1 t2 t3
        go_wp2
        go_roundw
        case rel =>
          exact ⟨k + 1, by omega, by go_num, ((hW.set_ k _).congr fun i _ => upd_wL (bg b) k _ (wNext_low (bg b) k h16) i).drew, (hK.far (by simp) _).drew, (hst.far (by simp; omega) _).drew, (hou.far (by simp; omega) _).drew, (hbl.setCell (by simp; omega) _).drew⟩
        case measure => simp [intOf]; omega
      · have h16' : (16 : Int) ≤ k := by omega
        have c15 : wr.cell? ⟨n1 + 1, k - 15, none⟩ = some (.int .u32 (un (wG (bg b) k (k - 15)))) := hW.cell (i := k - 15) (by omega)
        have c2 : wr.cell? ⟨n1 + 1, k - 2, none⟩ = some (.int .u32 (un (wG (bg b) k (k - 2)))) := hW.cell (i := k - 2) (by omega)
        have c16 : wr.cell? ⟨n1 + 1, k - 16, none⟩ = some (.int .u32 (un (wG (bg b) k (k - 16)))) := hW.cell (i := k - 16) (by omega)
        have c7 : wr.cell? ⟨n1 + 1, k - 7, none⟩ = some (.int .u32 (un (wG (bg b) k (k - 7)))) := hW.cell (i := k - 7) (by omega)
        --HEAVY
        go_wp2_with fail
        have e0 : IntKind.i64.wrap ((k : Int) - 16) = (k : Int) - 16 := IntWalk.i64_in _ (by omega)
        have e1 : IntKind.i64.wrap ((k : Int) - 7) = (k : Int) - 7 := IntWalk.i64_in _ (by omega)
        have p0 : 0 ≤ (k : Int) - 16 ∧ (k : Int) - 16 < 64 := by omega
        have p1 : 0 ≤ (k : Int) - 7 ∧ (k : Int) - 7 < 64 := by omega
        have t0 : ((k : Int) - 16).toNat = k - 16 := by omega
        have t1 : ((k : Int) - 7).toNat = k - 7 := by omega
        have q0 : (7 : Int) ≤ k := by omega
        have q1 : (k : Int) < 71 := by omega
        have q2 : (k : Int) < 80 := by omega
        go_region_held3 (fun w' => w'.cell? ⟨n1 + 1, k - 16, none⟩ = some (.int .u32 (un (wG (bg b) k (k - 16)))) ∧ w'.cell? ⟨n1 + 1, k - 7, none⟩ = some (.int .u32 (un (wG (bg b) k (k - 7))))) (first | go_keep | exact ⟨(World.cell?_setCell_other _ _ _ _ (by simp)).trans c16, (World.cell?_setCell_other _ _ _ _ (by simp)).trans c7⟩)
          (first | (go_at_call 65; refine (rot_any _ _ _ (by decide) (by decide)).mono ?_; rintro e w' ⟨rfl, nq, rfl⟩))
        clear e0 e1 p0 p1 t0 t1 q0 q1 q2
        go_wp2
        go_roundw
        case rel =>
          exact ⟨k + 1, by omega, by go_num, ((hW.drewN _).set_ k _).congr fun i _ => upd_wL (bg b) k _ (wNext_high (bg b) k h16) i, (hK.drewN _).far (by simp) _, (hst.drewN _).far (by simp; omega) _, (hou.drewN _).far (by simp; omega) _, (Below.drewN hbl _).setCell (by simp; omega) _⟩
        case measure => simp [intOf]; omega
        --/HEAVY
    · have hge : (64 : Int) ≤ k := by omega
      obtain rfl : k = 64 := by omega
      have hW0 : Row wr (n1 + 1) 97 64 (UW (W0 (bg b))) := hW
      clear hW
      go_wp2_with (first | (refine wpList_load_is rfl 81 (.tmp 2) rfl w.heap.size rfl 81 8 _ hst Try.underlying81 (by kernel_rfl) ?_) | (refine wpList_alloc_is rfl 81 rfl 8 (.int .u32 0) (by kernel_rfl) ?_) | (refine wpList_store_is rfl 81 (.tmp 10) (.tmp 92) rfl wr.heap.size 8 (UW s.get) (fun _ => .int .u32 0) rfl rfl 81 (Row.newArr wr _ 8 _) (by kernel_rfl) (fun _ _ => rfl) ?_))
      obtain ⟨w5, hw5⟩ : ∃ w5, w5 = (wr.alloc (.cells (arr 8 fun _ => .int .u32 0) 81)).setRow wr.heap.size (arr 8 (UW s.get)) := ⟨_, rfl⟩
      have hb5 : Below wr.heap.size wr w5 := by
        rw [hw5]
        exact Below.setRow ((Below.refl _ _).alloc (Nat.le_refl _) _) (Nat.le_refl _) _
      have hv5 : Row w5 wr.heap.size 81 8 (UW s.get) := by
        rw [hw5]
        exact Row.setRow (Row.newArr wr _ 8 _) _
      have hW5 := hW0.belowAll hb5
      have hK5 := hK.belowAll hb5
      have hs5 := hst.belowAll hb5
      have ho5 := hou.belowAll hb5
      have hbl5 := hbl.trans (hb5.mono hbl.size)
      have hsv := hbl.size
      have hsv2 := hou.lt
      have hsv3 := hW0.lt
      rw [← hw5]
      clear hw5 hb5 hW0 hK hst hou hbl
      generalize wr.heap.size = nv at *
      go_loopw [11] (fun u wr => ∃ (k : Nat) (t : St), k ≤ 64 ∧ Hid (t = rnds s K0 (W0 (bg b)) k) ∧ u = .int .i64 k ∧ Row wr nv 81 8 (UW t.get) ∧ Row wr (n1 + 1) 97 64 (UW (W0 (bg b))) ∧ Row wr n1 97 64 (UW K0) ∧ Row wr w.heap.size 81 8 (UW s.get) ∧ Row wr (w.heap.size + 1) 81 8 (fun _ => .int .u32 0) ∧ Below w.heap.size w wr) (fun u _ => 64 - (intOf u).toNat)
      case atStart => exact ⟨0, s, by omega, rfl, rfl, hv5, hW5, hK5, hs5, ho5, hbl5⟩
      case round =>
        clear hv5 hW5 hK5 hs5 ho5 hbl5
        obtain ⟨k, t, hk, ht, rfl, hv, hW, hK, hst, hou, hbl⟩ := hrel
        by_cases hlt : k < 64
        · have hlt' : (k : Int) < 64 := by omega
          have cW : wr.cell? ⟨n1 + 1, k, none⟩ = some (.int .u32 (un (W0 (bg b) k))) := hW.cell (i := k) hlt
          have cK : wr.cell? ⟨n1, k, none⟩ = some (.int .u32 (un (K0 k))) := hK.cell (i := k) hlt
          have c0 : wr.cell? ⟨nv, 0, none⟩ = some (.int .u32 (un t.a)) := hv.cell (i := 0) (by decide)
          have c1 : wr.cell? ⟨nv, 1, none⟩ = some (.int .u32 (un t.b)) := hv.cell (i := 1) (by decide)
          have c2 : wr.cell? ⟨nv, 2, none⟩ = some (.int .u32 (un t.c)) := hv.cell (i := 2) (by decide)
          have c3 : wr.cell? ⟨nv, 3, none⟩ = some (.int .u32 (un t.d)) := hv.cell (i := 3) (by decide)
          have c4 : wr.cell? ⟨nv, 4, none⟩ = some (.int .u32 (un t.e)) := hv.cell (i := 4) (by decide)
          have c5 : wr.cell? ⟨nv, 5, none⟩ = some (.int .u32 (un t.f)) := hv.cell (i := 5) (by decide)
          have c6 : wr.cell? ⟨nv, 6, none⟩ = some (.int .u32 (un t.g)) := hv.cell (i := 6) (by decide)
          have c7 : wr.cell? ⟨nv, 7, none⟩ = some (.int .u32 (un t.h)) := hv.cell (i := 7) (by decide)
          go_wp2_with fail
          go_quiet ((go_at_call 65; exact quiet_drawn (rot_any _ _ _ (by decide) (by decide))))
          go_wp2_with fail
          go_quiet ((go_at_call 65; exact quiet_add_drawn (rot_any _ _ _ (by decide) (by decide))))
          go_wp2_with (first | (refine wpList_build_is rfl 81 _ rfl (arr 8 (UW (rnd t (K0 k) (W0 (bg b) k)).get)) (by kernel_rfl) ?_) | (refine wpList_store_is rfl 81 (.tmp 10) (.tmp 174) rfl nv 8 (UW (rnd t (K0 k) (W0 (bg b) k)).get) (UW t.get) rfl rfl 81 (hv.drewN _) (by kernel_rfl) (fun _ _ => rfl) ?_))
          go_roundw
          case rel =>
            exact ⟨k + 1, rnd t (K0 k) (W0 (bg b) k), by omega, by have := ht.out; subst this; rfl, by go_num, (hv.drewN _).setRow _, (hW.drewN _).farRow (by omega) _, (hK.drewN _).farRow (by omega) _, (hst.drewN _).farRow (by omega) _, (hou.drewN _).farRow (by omega) _, Below.setRow (Below.drewN hbl _) (by omega) _⟩
          case measure => simp [intOf]; omega
        · have hge : (64 : Int) ≤ k := by omega
          obtain rfl : k = 64 := by omega
          clear hW hK
          go_wp2_with fail
          go_loopw [16] (fun u wr => ∃ k : Nat, k ≤ 8 ∧ u = .int .i64 k ∧ Row wr w.heap.size 81 8 (UW (mid s t k)) ∧ Row wr nv 81 8 (UW t.get) ∧ Row wr (w.heap.size + 1) 81 8 (fun _ => .int .u32 0) ∧ Below w.heap.size w wr) (fun u _ => 8 - (intOf u).toNat)
          case atStart => exact ⟨0, by omega, rfl, hst.congr (fun i _ => by simp [UW, mid]), hv, hou, hbl⟩
          case round =>
            clear hst hv hou hbl
            obtain ⟨k, hk8, rfl, hst, hv, hou, hbl⟩ := hrel
            by_cases hlt8 : k < 8
            · have hlt' : (k : Int) < 8 := by omega
              have hm : mid s t k k = s.get k := by simp [mid]
              have cs : wr.cell? ⟨w.heap.size, k, none⟩ = some (.int .u32 (un (mid s t k k))) := hst.cell (i := k) hlt8
              rw [hm] at cs
              have cv : wr.cell? ⟨nv, k, none⟩ = some (.int .u32 (un (t.get k))) := hv.cell (i := k) hlt8
              have cf := hst.frozen k
              clear hm
              go_wp2_with fail
              go_region
              go_wp2
              go_roundw
              case rel =>
                exact ⟨k + 1, by omega, by go_num, (hst.drew.set_ k _).congr fun i _ => upd_mid s t k i, hv.drew.far (by simp; omega) _, hou.drew.far (by simp) _, hbl.drew.setCell (by simp) _⟩
              case measure => simp [intOf]; omega
            · have hge8 : (8 : Int) ≤ k := by omega
              obtain rfl : k = 8 := by omega
              go_wp2_with (first | (refine wpList_load_is rfl 81 (.tmp 2) rfl w.heap.size rfl 81 8 _ hst Try.underlying81 (by kernel_rfl) ?_) | (refine wpList_store_is rfl 81 (.tmp 4) (.tmp 188) rfl (w.heap.size + 1) 8 (UW (mid s t 8)) (fun _ => .int .u32 0) rfl rfl 81 hou (by kernel_rfl) (fun _ _ => rfl) ?_))
              refine ret_row rfl (w.heap.size + 1) rfl (hou.setRow _) Try.underlying81 (by rw [size_arr]; kernel_rfl) rfl ⟨?_, Below.setRow hbl (by omega) _⟩
              refine congrArg (fun c => Ending.returned (.agg c)) (arr_congr fun i hi => ?_)
              have hm : mid s t 8 i = (blk s (bg b)).get i := by
                unfold mid blk; rw [if_pos hi, ← ht.out]; exact St.plus_get s t i hi
              unfold UW
              rw [hm]
end Go.Proofs.Ytijhdfllffkfjaa
