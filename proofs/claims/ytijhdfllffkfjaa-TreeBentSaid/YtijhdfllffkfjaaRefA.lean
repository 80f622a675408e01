/- sortesref03.padded: the message of a string. -/
import Derived.Test.YtijhdfllffkfjaaStr
import Derived.Test.YtijhdfllffkfjaaDigA
import Derived.Deep.LoopGhost
namespace Go.Proofs.Ytijhdfllffkfjaa
open Go.RowKit

def lenBytes (n : Nat) : List UInt8 := [lenByte n 7, lenByte n 6, lenByte n 5, lenByte n 4, lenByte n 3, lenByte n 2, lenByte n 1, lenByte n 0]
def padTo (l : List UInt8) (k : Nat) : List UInt8 := l ++ [128] ++ List.replicate k 0
def padTo2 (l : List UInt8) (k : Nat) : List UInt8 := padTo l (padN l.length) ++ (lenBytes l.length).take k
theorem padTo_len (l : List UInt8) (k : Nat) : (padTo l k).length = l.length + 1 + k := by simp [padTo]; omega
theorem padTo_succ (l : List UInt8) (k : Nat) : padTo l k ++ [0] = padTo l (k + 1) := by
  unfold padTo
  rw [List.append_assoc, ← List.replicate_succ']
theorem padTo2_len (l : List UInt8) (k : Nat) (hk : k ≤ 8) : (padTo2 l k).length = l.length + 1 + padN l.length + k := by
  unfold padTo2
  rw [List.length_append, padTo_len, List.length_take]
  have : (lenBytes l.length).length = 8 := rfl
  omega
theorem padTo2_succ (l : List UInt8) (k : Nat) (hk : k < 8) : padTo2 l k ++ [lenByte l.length (7 - k)] = padTo2 l (k + 1) := by
  unfold padTo2
  rw [List.append_assoc, List.take_succ_eq_append_getElem (show k < (lenBytes l.length).length from hk)]
  congr 2
  match k, hk with
  | 0, _ | 1, _ | 2, _ | 3, _ | 4, _ | 5, _ | 6, _ | 7, _ => rfl
theorem padTo2_end (l : List UInt8) : padTo2 l 8 = pad l := by unfold padTo2 padTo pad; rfl

theorem ub_lenByte (n i : Nat) : (n : Int) * 8 / 2 ^ (8 * i) % 256 = ub (lenByte n i) := by
  unfold ub lenByte
  rw [show (n : Int) * 8 = ((8 * n : Nat) : Int) by omega, show ((2 : Int) ^ (8 * i)) = ((2 ^ (8 * i) : Nat) : Int) by push_cast; rfl]
  simp
theorem run_conv_one (w : World) (b : UInt8) : (convert 30 9 (.slice (some ⟨w.heap.size, 0, none⟩) 1 1)).run Try.prog (w.alloc (.cells #[.int .u8 (ub b)] 5)) =
    .ok (.string (bs [b])) (w.alloc (.cells #[.int .u8 (ub b)] 5)) :=
  run_conv_cells _ _ 5 Try.underlying30 Try.underlying5 Try.underlying9 _ _ 0 1 1 [b] rfl (fun j hj => by
    obtain rfl : j = 0 := by simpa using hj
    rw [World.cell?_alloc_at _ _ _ _ rfl]; rfl)

set_option maxHeartbeats 1000000 in
set_option maxRecDepth 100000 in
theorem padded_any (l : List UInt8) (w : World) (hs : l.length ≤ 140737488355128) :
    Calls Try.prog 55 #[.string (bs l)] w fun e w' => e = .returned (.string (bs (pad l))) ∧ Below w.heap.size w w' := by
  have hpn : padN l.length < 64 := by unfold padN; omega
  go_enter Try.func55, Try.ntmps55
  go_wp2
  go_loopg [3] (padN l.length) (fun g t wr => ∃ k : Nat, k + g = padN l.length ∧ t = .string (bs (padTo l k)) ∧ wr = w)
  case atStart => exact ⟨0, by omega, by simp [padTo], rfl⟩
  case round =>
    obtain ⟨k, hk, rfl, rfl⟩ := hrel
    have hl := padTo_len l k
    have HL := Lib.hid hl
    clear hl
    by_cases hg : k < padN l.length
    · have hc : (((padTo l k).length : Int) % 64 != 56) = true := by rw [HL.out, bne_iff_ne]; unfold padN at hg hk; omega
      have hlb : (padTo l k).length ≤ 140737488355328 := by rw [HL.out]; omega
      go_wp2
      rw [padTo_succ]
      go_roundg (gk - 1)
      case measure => omega
      case rel => exact ⟨k + 1, by omega, rfl, rfl⟩
    · have hc : (((padTo l k).length : Int) % 64 != 56) = false := by rw [HL.out, bne_eq_false_iff_eq]; unfold padN at hg hk; omega
      obtain rfl : k = padN l.length := by omega
      go_wp2
      clear hc hg hk
      go_loopw [3, 5] (fun t i wx => ∃ k : Nat, k ≤ 8 ∧ i = .int .i64 (7 - (k : Int)) ∧ t = .string (bs (padTo2 l k)) ∧ Below wr.heap.size wr wx) (fun _ i _ => (intOf i + 1).toNat)
      case atStart => exact ⟨0, by omega, rfl, by simp [padTo2], Below.refl _ _⟩
      case round =>
        obtain ⟨k, hk, rfl, rfl, hb⟩ := hrel
        by_cases hlt : k < 8
        · have hlt' : (0 : Int) ≤ 7 - (k : Int) := by omega
          have hl2 := padTo2_len l k hk
          have hlb : (padTo2 l k).length ≤ 140737488355328 := by rw [hl2]; omega
          clear hl2
          have hb8 : (l.length : Int) * 8 / 2 ^ (8 * (7 - k)) % 256 = ub (lenByte l.length (7 - k)) := ub_lenByte _ _
          have hcv := run_conv_one wr (lenByte l.length (7 - k))
          go_wp2
          rw [padTo2_succ l k hlt]
          go_roundw
          case rel => exact ⟨k + 1, by omega, by go_num, rfl, hb.alloc hb.size _⟩
          case measure => simp [intOf]; omega
        · have hlt' : 7 - (k : Int) < 0 := by omega
          obtain rfl : k = 8 := by omega
          go_wp2
          go_ret
          exact ⟨by rw [← padTo2_end]; rfl, hb⟩
end Go.Proofs.Ytijhdfllffkfjaa
