/- Pairs of heads in memory; a frame after a region by an invariant. No step of the program here. -/
import Derived.Test.YtijhdfllffkfjaaArgsL
import Derived.Test.YtijhdfllffkfjaaBent
namespace Go.Proofs.Ytijhdfllffkfjaa
open Go.ChangeShapes Go.WideShapes Go.ChangeAt Go.RowKit

def two (a : Int) (f : HF) (b : Int) (g : HF) : Array Value := hd a f ++ hd b g
theorem two_size (a : Int) (f : HF) (b : Int) (g : HF) : (two a f b g).size = 66 := by simp [two, hd_size]
theorem two_one (a : Int) (f : HF) (b : Int) (g : HF) : (two a f b g).all (·.oneCell') = true := by
  unfold two
  rw [Array.all_append, hd_one, hd_one]; rfl
theorem build_two (a : Int) (f : HF) (b : Int) (g : HF) : Try.prog.built 57 [(0, .agg (hd a f)), (1, .agg (hd b g))] = some (two a f b g) := by kernel_rfl
theorem Try.infoTwo : (Try.prog.info? 57).map (fun i => (i.zero, i.size, i.bytes)) = some (some (.agg (two 0 (fun _ => 0) 0 fun _ => 0)), 66, 80) := by kernel_rfl
theorem Try.infoTwoZ : (Try.prog.info? 57).map (·.zero) = some (some (.agg (two 0 (fun _ => 0) 0 fun _ => 0))) := by kernel_rfl
theorem fill7 (a0 b0 a1 b1 a2 b2 a3 b3 a4 b4 a5 b5 a6 b6 : Int) (f0 g0 f1 g1 f2 g2 f3 g3 f4 g4 f5 g5 f6 g6 : HF) :
    Instr.fill (fun i => some (i * 66, 66)) ((Array.range (7 * 66)).map ((Value.agg (two 0 (fun _ => 0) 0 fun _ => 0)).cells[· % (Value.agg (two 0 (fun _ => 0) 0 fun _ => 0)).cells.size]!)) [(0, .agg (two a0 f0 b0 g0)), (1, .agg (two a1 f1 b1 g1)), (2, .agg (two a2 f2 b2 g2)), (3, .agg (two a3 f3 b3 g3)), (4, .agg (two a4 f4 b4 g4)), (5, .agg (two a5 f5 b5 g5)), (6, .agg (two a6 f6 b6 g6))] =
    some (two a0 f0 b0 g0 ++ (two a1 f1 b1 g1 ++ (two a2 f2 b2 g2 ++ (two a3 f3 b3 g3 ++ (two a4 f4 b4 g4 ++ (two a5 f5 b5 g5 ++ two a6 f6 b6 g6)))))) := by kernel_rfl
end Go.Proofs.Ytijhdfllffkfjaa
