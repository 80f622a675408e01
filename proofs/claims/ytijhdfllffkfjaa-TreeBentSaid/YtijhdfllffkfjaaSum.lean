/- The sum of a text, both implementations, on lists of bytes; for the chapters that build on it. -/
import Derived.Test.YtijhdfllffkfjaaDigE
import Derived.Test.YtijhdfllffkfjaaRefC
namespace Go.Proofs.Ytijhdfllffkfjaa
open Go.RowKit

/-- an array of bytes -/
def U8 (f : Nat → UInt8) : Nat → Value := fun i => .int .u8 (ub (f i))
/-- the hash's bytes -/
@[irreducible] def sb (l : List UInt8) (i : Nat) : UInt8 := outByte (shaSt l) i
theorem sumL {l : List UInt8} {w : World} (hs : l.length ≤ 140737488355128) :
    Calls Try.prog 36 #[.string (bs l)] w fun e w' => e = .returned (.agg (arr 32 (U8 (sb l)))) ∧ Below w.heap.size w w' := by
  have h := sum_any (bs l) w (by rw [bs_size]; exact hs)
  rw [bs_data] at h
  unfold U8 sb
  exact h
theorem refsumL {l : List UInt8} {w : World} (hs : l.length ≤ 140737488355128) :
    Calls Try.prog 37 #[.string (bs l)] w fun e w' => e = .returned (.agg (arr 32 (U8 (sb l)))) ∧ Below w.heap.size w w' := by
  unfold U8 sb
  exact refsum_any l w hs
end Go.Proofs.Ytijhdfllffkfjaa
