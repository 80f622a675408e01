/- Memory, more: a new array's block, its cells by the index. -/
import Derived.Test.YtijhdfllffkfjaaMem
namespace Go.Proofs.Ytijhdfllffkfjaa
open Go.RowKit

theorem run_alloc_arr {P : Program} (t : TypeId) (n : Nat) (z : Value) (h : (P.info? t).map (fun i => (i.zero, i.size)) = some (some (.agg (arr n fun _ => z)), n)) (w : World) :
    (Instr.alloc t true (.tuple #[])).run P w = .ok (.pointer (some ⟨w.heap.size, 0, none⟩)) (w.alloc (.cells (arr n fun _ => z) t)) := by
  obtain ⟨i, hi, hz⟩ := Option.map_eq_some_iff.1 h
  simp only [Prod.mk.injEq] at hz
  obtain ⟨hz1, hz2⟩ := hz
  simp [Instr.alloc, newVar, newRow, zeroValue, typeInfo, hi, hz1, Value.cells]
theorem wpList_alloc_is {P : Program} {ops : Array Oper} {rest : List Oper} {o : Oper} {a : Act} {w : World} {Q : Exit → Act → World → Prop} (hg : o.guard = none) (t : TypeId) (ho : o.op = .alloc t)
    (n : Nat) (z : Value) (h : (P.info? t).map (fun i => (i.zero, i.size)) = some (some (.agg (arr n fun _ => z)), n))
    (hK : wpList P ops Q rest (a.put o.dst (.pointer (some ⟨w.heap.size, 0, none⟩))) (w.alloc (.cells (arr n fun _ => z) t))) : wpList P ops Q (o :: rest) a w := by
  refine wpList_plain hg fun K hK' => ?_
  unfold Oper.wp execOp
  simp only [ho, Sem.run_bind, Sem.run_pure, Result.andThen_ok, run_alloc_arr t n z h]
  exact hK' _ _ hK
theorem Row.newAt (w : World) (t : TypeId) (n : Nat) (f : Nat → Value) {b : Nat} (hb : b = w.heap.size) : Row (w.alloc (.cells (arr n f) t)) b t n f := by subst hb; exact Row.newArr w t n f
theorem quiet_left {P : Program} {f : FuncId} {args : Array Value} {w : World} {n : Nat} {v : Value}
    (h : Calls P f args (w.drewN n) fun e w' => e = .returned v ∧ w.drewN n = w') : Calls P f args (w.drewN n) fun e w' => e = .returned v ∧ ∃ m, w' = w.drewN m :=
  h.mono fun _ _ ⟨he, hm⟩ => ⟨he, n, hm.symm⟩
theorem quiet_drawn {P : Program} {f : FuncId} {args : Array Value} {w : World} {n : Nat} {v : Value}
    (h : Calls P f args (w.drewN n) fun e w' => e = .returned v ∧ ∃ m, w' = (w.drewN n).drewN m) : Calls P f args (w.drewN n) fun e w' => e = .returned v ∧ ∃ m, w' = w.drewN m :=
  h.mono fun _ _ ⟨he, m, hm⟩ => ⟨he, n + m, by rw [hm, World.drewN_drewN]⟩
/-- a goal held still, so that the walk stops before it -/
def Held (p : Prop) : Prop := p
theorem unheld {p : Prop} (h : Held p) : p := h
theorem Held.of {p : Prop} (h : p) : Held p := h
/-- the same word on every way out but a panic, of which it says False -/
def NoPanic (Q : Exit → Act → World → Prop) : Exit → Act → World → Prop
  | .panic _, _, _ => False
  | .normal, a, w => Q .normal a w
  | .ret, a, w => Q .ret a w
  | .exit i, a, w => Q (.exit i) a w
  | .goto t, a, w => Q (.goto t) a w
  | .outgrown, a, w => Q .outgrown a w
theorem NoPanic.wp {P : Program} {c : Code} {Q : Exit → Act → World → Prop} {a : Act} {w : World} (h : c.wp P (NoPanic Q) a w) : c.wp P Q a w := by
  refine Code.wp_mono (fun e a w hq => ?_) h
  cases e <;> first | exact hq | exact hq.elim
end Go.Proofs.Ytijhdfllffkfjaa
