/- The small functions of digest and its reference: rotations, words of bytes, constants. No condition but the ranges that are named. -/
import Derived.Test.YtijhdfllffkfjaaSha
import Derived.Test.YtijhdfllffkfjaaMem
import Derived.Test.YtijhdfllffkfjaaProg
namespace Go.Proofs.Ytijhdfllffkfjaa
open Go.RowKit

def UW (f : Nat → BitVec 32) (i : Nat) : Value := .int .u32 (un (f i))

theorem rot_mask (k : Int) (h0 : 0 < k) (h : k < 32) : bits BinOp.and .u64 (IntKind.u64.wrap (-k)) 31 = 32 - k := by
  have H : ∀ n : Fin 32, 0 < n.val → bits BinOp.and .u64 (IntKind.u64.wrap (-(n.val : Int))) 31 = 32 - (n.val : Int) := by decide
  have := H ⟨k.toNat, by omega⟩ (by show 0 < k.toNat; omega)
  rw [show ((k.toNat : Nat) : Int) = k by omega] at this
  exact this

set_option maxHeartbeats 400000 in
theorem rotl_any (x : BitVec 32) (k : Int) (w : World) (hk : 0 < k) (hk2 : k < 32) :
    Calls Try.prog 68 #[.int .u32 (un x), .int .i64 (-k)] w fun e w' => e = .returned (.int .u32 (un (ror x k.toNat))) ∧ w = w' := by
  have hm := rot_mask k hk hk2
  have hs : Ending.returned (.int .u32 (un (x <<< (32 - k).toNat ||| x >>> (32 - (32 - k)).toNat))) = Ending.returned (.int .u32 (un (ror x k.toNat))) := by
    unfold ror
    rw [show (32 - k).toNat = 32 - k.toNat by omega, show (32 - (32 - k)).toNat = k.toNat by omega, BitVec.or_comm]
  have HS := Lib.hid hs
  clear hs
  go_enter Try.func68, Try.ntmps68
  go_wp2
  go_ret
  exact ⟨HS.out, rfl⟩

set_option maxHeartbeats 400000 in
theorem rot_any (x : BitVec 32) (k : Int) (w : World) (hk : 0 < k) (hk2 : k < 32) :
    Calls Try.prog 65 #[.int .u32 (un x), .int .i64 k] w fun e w' => e = .returned (.int .u32 (un (ror x k.toNat))) ∧ ∃ n, w' = w.drewN n := by
  have HS : Ending.returned (.int .u32 (un (x >>> k.toNat ||| x <<< (32 - k).toNat))) = Ending.returned (.int .u32 (un (ror x k.toNat))) := by
    unfold ror
    rw [show (32 - k).toNat = 32 - k.toNat by omega]
  have HS := Lib.hid HS
  go_enter Try.func65, Try.ntmps65
  go_wp2
  go_quiet (fail)
  go_wp2
  go_ret
  exact ⟨HS, _, rfl⟩

set_option maxHeartbeats 400000 in
theorem mixed_any (x : BitVec 32) (a b c : Int) (w : World) (ha : 0 < a ∧ a < 32) (hb : 0 < b ∧ b < 32) (hc : 0 < c ∧ c < 32) :
    Calls Try.prog 63 #[.int .u32 (un x), .int .i64 a, .int .i64 b, .int .i64 c] w fun e w' => e = .returned (.int .u32 (un (mix3 x a.toNat b.toNat c.toNat))) ∧ w = w' := by
  obtain ⟨a1, a2⟩ := ha
  obtain ⟨b1, b2⟩ := hb
  obtain ⟨c1, c2⟩ := hc
  go_enter Try.func63, Try.ntmps63
  go_wp2_with fail
  refine (rotl_any _ _ _ a1 a2).mono ?_
  rintro e w' ⟨rfl, rfl⟩
  go_wp2_with fail
  refine (rotl_any _ _ _ b1 b2).mono ?_
  rintro e w' ⟨rfl, rfl⟩
  go_wp2_with fail
  refine (rotl_any _ _ _ c1 c2).mono ?_
  rintro e w' ⟨rfl, rfl⟩
  go_wp2_with fail
  go_ret
  exact ⟨rfl, rfl⟩

set_option maxHeartbeats 400000 in
theorem word_any (g o len cap : Nat) (b0 b1 b2 b3 : UInt8) (w : World) (hl : 4 ≤ len) (h0 : w.cell? ⟨g, o, none⟩ = some (.int .u8 (ub b0))) (h1 : w.cell? ⟨g, o + 1, none⟩ = some (.int .u8 (ub b1)))
    (h2 : w.cell? ⟨g, o + 2, none⟩ = some (.int .u8 (ub b2))) (h3 : w.cell? ⟨g, o + 3, none⟩ = some (.int .u8 (ub b3))) :
    Calls Try.prog 67 #[.slice (some ⟨g, o, none⟩) len cap] w fun e w' => e = .returned (.int .u32 (un (wd b0 b1 b2 b3))) ∧ ∃ n, w' = w.drewN n := by
  go_enter Try.func67, Try.ntmps67
  go_wp2
  go_quiet (fail)
  go_wp2
  go_ret
  exact ⟨rfl, _, rfl⟩

set_option maxHeartbeats 400000 in
theorem bytes_any (x : BitVec 32) (w : World) :
    Calls Try.prog 51 #[.int .u32 (un x)] w fun e w' => e = .returned (.slice (some ⟨w.heap.size, 0, none⟩) 4 4) ∧
      w.alloc (.cells #[.int .u8 (ub (lo8 (x >>> 24))), .int .u8 (ub (lo8 (x >>> 16))), .int .u8 (ub (lo8 (x >>> 8))), .int .u8 (ub (lo8 x))] 5) = w' := by
  go_enter Try.func51, Try.ntmps51
  go_wp2
  go_ret
  exact ⟨rfl, rfl⟩

set_option maxHeartbeats 400000 in
theorem start_any (w : World) :
    Calls Try.prog 52 #[] w fun e w' => e = .returned (.agg (arr 8 (UW H0.get))) ∧ Below w.heap.size w w' := by
  go_enter Try.func52, Try.ntmps52
  go_wp2
  exact ret_row rfl _ rfl (heap_alloc_new _ _) Try.underlying81 (by kernel_rfl) rfl ⟨by kernel_rfl, by go_grown⟩

set_option maxHeartbeats 1000000 in
set_option maxRecDepth 100000 in
theorem rounds_any (w : World) :
    Calls Try.prog 62 #[] w fun e w' => e = .returned (.agg (arr 64 (UW K0))) ∧ Below w.heap.size w w' := by
  go_enter Try.func62, Try.ntmps62
  iterate 11 go_step
  refine wpList_build_is rfl 97 _ rfl (arr 64 (UW K0)) (by kernel_rfl) ?_
  refine wpList_store_is rfl 97 _ _ rfl w.heap.size 64 (UW K0) (fun _ => .int .u32 0) rfl rfl 97 ((heap_alloc_new w _).trans (by kernel_rfl)) (by kernel_rfl) (fun _ _ => rfl) ?_
  refine wpList_nil ?_
  go_wp2
  exact ret_row rfl w.heap.size rfl (setRow_heap _ _ _ _ _ _ (heap_alloc_new _ _)) Try.underlying97 (by kernel_rfl) rfl ⟨rfl, Below.setRow (by go_grown) (Nat.le_refl _) _⟩

set_option maxHeartbeats 1000000 in
set_option maxRecDepth 100000 in
theorem refrounds_any (w : World) :
    Calls Try.prog 64 #[] w fun e w' => e = .returned (.agg (arr 64 (UW K0))) ∧ Below w.heap.size w w' := by
  go_enter Try.func64, Try.ntmps64
  iterate 11 go_step
  refine wpList_build_is rfl 97 _ rfl (arr 64 (UW K0)) (by kernel_rfl) ?_
  refine wpList_store_is rfl 97 _ _ rfl w.heap.size 64 (UW K0) (fun _ => .int .u32 0) rfl rfl 97 ((heap_alloc_new w _).trans (by kernel_rfl)) (by kernel_rfl) (fun _ _ => rfl) ?_
  refine wpList_nil ?_
  go_wp2
  exact ret_row rfl w.heap.size rfl (setRow_heap _ _ _ _ _ _ (heap_alloc_new _ _)) Try.underlying97 (by kernel_rfl) rfl ⟨rfl, Below.setRow (by go_grown) (Nat.le_refl _) _⟩
end Go.Proofs.Ytijhdfllffkfjaa
