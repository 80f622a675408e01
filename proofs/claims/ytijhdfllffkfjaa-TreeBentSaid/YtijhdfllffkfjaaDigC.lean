/- digest.add: a block added to a state. -/
import Derived.Test.YtijhdfllffkfjaaDigB
import Derived.Test.YtijhdfllffkfjaaMem2
namespace Go.Proofs.Ytijhdfllffkfjaa
open Go.RowKit

theorem St.plus_get (s t : St) (i : Nat) (h : i < 8) : s.get i + t.get i = (s.plus t).get i := by
  match i, h with
  | 0, _ | 1, _ | 2, _ | 3, _ | 4, _ | 5, _ | 6, _ | 7, _ => rfl
def mid (s t : St) (k i : Nat) : BitVec 32 := if i < k then s.get i + t.get i else s.get i
theorem upd_mid (s t : St) (k i : Nat) : upd (UW (mid s t k)) k (.int .u32 (un (s.get k + t.get k))) i = UW (mid s t (k + 1)) i := by
  unfold upd UW mid
  by_cases h : i = k
  · subst h; rw [if_pos rfl, if_pos (by omega)]
  · rw [if_neg h]
    by_cases h2 : i < k
    · rw [if_pos h2, if_pos (by omega)]
    · rw [if_neg h2, if_neg (by omega)]

set_option maxHeartbeats 1000000 in
set_option maxRecDepth 100000 in
theorem add_any (gs g o len cap : Nat) (s : St) (b : Nat → UInt8) (w : World) (hl : 64 ≤ len) (hlc : len ≤ cap) (hcap : cap ≤ 9223372036854775807) (hgb : g < w.heap.size)
    (hb : ∀ j, j < 64 → w.cell? ⟨g, o + j, none⟩ = some (.int .u8 (ub (b j)))) (hs : Row w gs 81 8 (UW s.get)) :
    Calls Try.prog 54 #[.pointer (some ⟨gs, 0, none⟩), .slice (some ⟨g, o, none⟩) len cap] w fun e w' => e = .returned (.tuple #[]) ∧ Row w' gs 81 8 (UW (blk s b).get) ∧ w.grownBy w' (some gs) := by
  have HB := Lib.hid hb
  clear hb
  go_enter Try.func54, Try.ntmps54
  go_wp2_with fail
  refine (schedule_any g o len cap b w hl hlc hcap hgb HB.out).mono ?_
  rintro e w1 ⟨rfl, hb1⟩
  go_wp2_with fail
  refine (rounds_any w1).mono ?_
  rintro e w2 ⟨rfl, hb2⟩
  have hb3 := hb1.trans (hb2.mono hb1.size)
  have hs2 := hs.belowAll hb3
  clear hb1 hb2
  go_wp2_with (first | (refine wpList_alloc_is rfl 97 rfl 64 (.int .u32 0) (by kernel_rfl) ?_; try simp only [World.size_alloc]) | (refine wpList_store_is rfl 97 (.tmp 4) _ rfl w2.heap.size 64 (UW (W0 b)) (fun _ => .int .u32 0) rfl rfl 97 ?h4 (by kernel_rfl) (fun _ _ => rfl) ?_) | (refine wpList_store_is rfl 97 (.tmp 5) _ rfl (w2.heap.size + 1) 64 (UW K0) (fun _ => .int .u32 0) rfl rfl 97 ?h5 (by kernel_rfl) (fun _ _ => rfl) ?_))
  case h4 => exact (Row.newArr w2 _ 64 _).alloc _
  case h5 => exact (Row.newAt (w2.alloc _) _ 64 _ (by simp)).farRow (by omega) _
  obtain ⟨w4, hw4⟩ : ∃ w4 : World, w4 = ((((w2.alloc (.cells (arr 64 fun _ => .int .u32 0) 97)).alloc (.cells (arr 64 fun _ => .int .u32 0) 97)).setRow w2.heap.size (arr 64 (UW (W0 b)))).setRow (w2.heap.size + 1) (arr 64 (UW K0))) := ⟨_, rfl⟩
  have hz : w2.heap.size + 2 = w4.heap.size := by rw [hw4]; simp
  have hsz := hb3.size
  have hgsz := hs.lt
  have b4 : Below w2.heap.size w2 w4 := by
    rw [hw4]
    exact Below.setRow (Below.setRow (((Below.refl _ _).alloc (Nat.le_refl _) _).alloc (by simp) _) (Nat.le_refl _) _) (Nat.le_succ _) _
  have hW : Row w4 w2.heap.size 97 64 (UW (W0 b)) := by
    rw [hw4]
    exact (Row.setRow ((Row.newArr w2 _ 64 _).alloc _) _).farRow (by omega) _
  have hK : Row w4 (w2.heap.size + 1) 97 64 (UW K0) := by
    rw [hw4]
    exact Row.setRow ((Row.newAt (w2.alloc _) _ 64 _ (by simp)).farRow (by omega) _) _
  rw [← hw4]
  have hs4 := hs2.belowAll b4
  have hbl := hb3.trans (b4.mono hsz)
  clear hw4 b4 hb3 hs2
  generalize w2.heap.size = n2 at *
  have c0 : w4.cell? ⟨gs, 0, none⟩ = some (.int .u32 (un s.a)) := hs4.cell (i := 0) (by decide)
  have c1 : w4.cell? ⟨gs, 1, none⟩ = some (.int .u32 (un s.b)) := hs4.cell (i := 1) (by decide)
  have c2 : w4.cell? ⟨gs, 2, none⟩ = some (.int .u32 (un s.c)) := hs4.cell (i := 2) (by decide)
  have c3 : w4.cell? ⟨gs, 3, none⟩ = some (.int .u32 (un s.d)) := hs4.cell (i := 3) (by decide)
  have c4 : w4.cell? ⟨gs, 4, none⟩ = some (.int .u32 (un s.e)) := hs4.cell (i := 4) (by decide)
  have c5 : w4.cell? ⟨gs, 5, none⟩ = some (.int .u32 (un s.f)) := hs4.cell (i := 5) (by decide)
  have c6 : w4.cell? ⟨gs, 6, none⟩ = some (.int .u32 (un s.g)) := hs4.cell (i := 6) (by decide)
  have c7 : w4.cell? ⟨gs, 7, none⟩ = some (.int .u32 (un s.h)) := hs4.cell (i := 7) (by decide)
  go_quiet (fail)
  go_wp2_with fail
  clear c0 c1 c2 c3 c4 c5 c6 c7
  go_loopw [6, 7, 8, 9, 10, 11, 12, 13, 54] (fun a6 a7 a8 a9 a10 a11 a12 a13 u wr => ∃ (k : Nat) (t : St), k ≤ 64 ∧ Hid (t = rnds s K0 (W0 b) k) ∧ u = .int .i64 k ∧ Below w.heap.size w wr ∧ Row wr gs 81 8 (UW s.get) ∧ Row wr n2 97 64 (UW (W0 b)) ∧ Row wr (n2 + 1) 97 64 (UW K0) ∧
    a6 = .int .u32 (un t.a) ∧ a7 = .int .u32 (un t.b) ∧ a8 = .int .u32 (un t.c) ∧ a9 = .int .u32 (un t.d) ∧ a10 = .int .u32 (un t.e) ∧ a11 = .int .u32 (un t.f) ∧ a12 = .int .u32 (un t.g) ∧ a13 = .int .u32 (un t.h)) (fun _ _ _ _ _ _ _ _ u _ => 64 - (intOf u).toNat)
  case atStart =>
    exact ⟨0, s, by omega, rfl, rfl, Below.drewN hbl _, hs4.drewN _, hW.drewN _, hK.drewN _, rfl, rfl, rfl, rfl, rfl, rfl, rfl, rfl⟩
  case round =>
    obtain ⟨k, t, hk, ht, rfl, hbr, hsr, hWr, hKr, rfl, rfl, rfl, rfl, rfl, rfl, rfl, rfl⟩ := hrel
    clear hbl hs4 hW hK hz
    by_cases hlt : k < 64
    · have hlt' : (k : Int) < 64 := by omega
      have cW : wr.cell? ⟨n2, k, none⟩ = some (.int .u32 (un (W0 b k))) := hWr.cell (i := k) hlt
      have cK : wr.cell? ⟨n2 + 1, k, none⟩ = some (.int .u32 (un (K0 k))) := hKr.cell (i := k) hlt
      go_wp2_with fail
      go_quiet ((go_at_call 63; exact quiet_left (mixed_any _ _ _ _ _ (by decide) (by decide) (by decide))))
      go_wp2_with fail
      refine (mixed_any _ _ _ _ _ (by decide) (by decide) (by decide)).mono ?_
      rintro e w' ⟨rfl, rfl⟩
      go_wp2_with fail
      go_roundw
      case rel =>
        exact ⟨k + 1, rnd t (K0 k) (W0 b k), by omega, by have := ht.out; subst this; rfl, by go_num, Below.drewN hbr _, hsr.drewN _, hWr.drewN _, hKr.drewN _, rfl, rfl, rfl, rfl, rfl, rfl, rfl, rfl⟩
      case measure => simp [intOf]; omega
    · have hge : (64 : Int) ≤ k := by omega
      obtain rfl : k = 64 := by omega
      have hix : ∀ (k : Nat), k < 8 → ∀ W : World, (Instr.index 81 (.agg (arr 8 (UW t.get))) (.int .i64 (k : Int))).run Try.prog W = .ok (.int .u32 (un (t.get k))) W :=
        fun k hk W => run_index_arr _ _ 8 (UW t.get) _ Try.underlying81 (by kernel_rfl) Try.underlying79 rfl _ k hk W
      have HX := Lib.hid hix
      clear hix hWr hKr
      go_wp2_with (refine wpList_build_is rfl 81 _ rfl (arr 8 (UW t.get)) (by kernel_rfl) ?_)
      have hg0 : w.grownBy wr (some gs) := grown_below hbr
      clear hbr
      go_loopw [114] (fun u wx => ∃ k : Nat, k ≤ 8 ∧ u = .int .i64 k ∧ Row wx gs 81 8 (UW (mid s t k)) ∧ w.grownBy wx (some gs)) (fun u _ => 8 - (intOf u).toNat)
      case atStart => exact ⟨0, by omega, rfl, hsr.congr (fun i _ => by simp [UW, mid]), hg0⟩
      case round =>
        obtain ⟨k, hk8, rfl, hr, hg⟩ := hrel
        by_cases hlt8 : k < 8
        · have hlt' : (k : Int) < 8 := by omega
          have hx := HX.out k hlt8
          have cc : wr.cell? ⟨gs, k, none⟩ = some (.int .u32 (un (mid s t k k))) := hr.cell (i := k) hlt8
          have hm : mid s t k k = s.get k := by simp [mid]
          rw [hm] at cc
          have cf := hr.frozen k
          clear hm
          go_wp2_with fail
          go_region
          go_wp2
          go_roundw
          case rel =>
            exact ⟨k + 1, by omega, by go_num, (hr.drew.set_ k _).congr fun i _ => upd_mid s t k i, grown_set (grown_drew hg) (.inl rfl) _⟩
          case measure => simp [intOf]; omega
        · have hge8 : (8 : Int) ≤ k := by omega
          obtain rfl : k = 8 := by omega
          go_wp2
          go_end0
          exact ⟨rfl, hr.congr (fun i hi => by
            have hm : mid s t 8 i = (blk s b).get i := by
              unfold mid blk; rw [if_pos hi, ← ht.out]; exact St.plus_get s t i hi
            unfold UW; rw [hm]), hg⟩
end Go.Proofs.Ytijhdfllffkfjaa
