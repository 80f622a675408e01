/- Two contracts on one call speak of one value. No step of the program here. -/
import Derived.Test.YtijhdfllffkfjaaMem2
import Derived.Barred
namespace Go.Proofs.Ytijhdfllffkfjaa
open Go.RowKit
theorem sum_ge (l : List Nat) (g : Nat) (h : g ∈ l) : g ≤ l.sum := by
  induction l with
  | nil => cases h
  | cons x l ih =>
    rw [List.sum_cons]
    rcases List.mem_cons.1 h with rfl | h
    · omega
    · have := ih h; omega
theorem no_init (P : Program) : ∃ g : FuncId, P.funcs[g]? = none ∧ P.inits.idxOf? g = none := by
  refine ⟨P.funcs.size + P.inits.toList.sum + 1, Array.getElem?_eq_none (by omega), ?_⟩
  rw [Array.idxOf?_eq_none_iff]
  intro h
  have := sum_ge _ _ (Array.mem_toList_iff.2 h)
  omega
/-- a caller at which the machine ends with what it was handed -/
def stopC (g : FuncId) : Frame := { fn := g, tmps := #[], todo := [.extern default #[]], defers := [], mode := .returning, kind := .normal }
theorem stop_step {P : Program} {g : FuncId} (h1 : P.funcs[g]? = none) (h2 : P.inits.idxOf? g = none) (v : Value) (w : World) : step P (lone ((stopC g).finish v) [] w) = .ended (.done v) w := by
  refine step_lone_ended ?_
  simp [stepG, unwind, stopC, Frame.finish, h1, doReturn, h2]
theorem Calls.one {P : Program} {f : FuncId} {args : Array Value} {w : World} {v v' : Value} {R R' : World → Prop}
    (h : Calls P f args w fun e w' => e = .returned v ∧ R w') (h' : Calls P f args w fun e w' => e = .returned v' ∧ R' w') : v = v' := by
  obtain ⟨g, h1, h2⟩ := no_init P
  obtain ⟨e, w1, fr, ⟨rfl, -⟩, ⟨n, hn⟩, -, hl⟩ := h [stopC g]
  obtain ⟨e, w2, fr', ⟨rfl, -⟩, ⟨m, hm⟩, -, hl'⟩ := h' [stopC g]
  have a : runN P (n + (1 + 1)) (lone (Frame.enter P f args .normal) [stopC g] w) = .ended (.done v) w1 := by
    rw [runN_add, hn]
    simp only [runN_add]
    simp [runN, step_leave_returned hl, stop_step h1 h2]
  have b : runN P (m + (1 + 1)) (lone (Frame.enter P f args .normal) [stopC g] w) = .ended (.done v') w2 := by
    rw [runN_add, hm]
    simp only [runN_add]
    simp [runN, step_leave_returned hl', stop_step h1 h2]
  have := runN_same_end a b
  injection this
end Go.Proofs.Ytijhdfllffkfjaa
