/- Regions that draw their order and whose calls make memory: one walk in the text's order, over the class of all worlds in which nothing that was there has turned. -/
import Derived.Test.YtaphhcalpgibaaaRow
import Derived.BigQuiet
namespace Go.Proofs.Ytaphhcalpgibaaa
open Go.RowKit

/-- a world in which all of w stands as it stood -/
def Ext (w : World) : Type := { w' : World // Below w.heap.size w w' }
def Ext.at {w : World} (e : Ext w) : World := e.val
theorem Ext.below {w : World} (e : Ext w) : Below w.heap.size w e.at := e.property
instance (w : World) : Nonempty (Ext w) := ⟨⟨w, Below.refl _ _⟩⟩
section
variable {P : Program} {w : World}
theorem wp_region_ext {id : Nat} {Q : Exit → Act → World → Prop} {a : Act} {l : List Oper} (hm : P.follows .mixedOrders = true) (hB : Region.lexB .any l.toArray = true)
    (h : wpQuiet P l.toArray (fun w' => ∃ e : Ext w, w' = e.at) (fun a' => ∀ w', (∃ e : Ext w, w' = e.at) → Q .normal a' w') l a) : (Code.region id l.toArray true).wp P Q a w :=
  wp_region_quiet (C := fun w' => ∃ e : Ext w, w' = e.at) hm hB ⟨⟨w.drew, (Below.refl _ w).drew⟩, rfl⟩ (by simpa using h)
theorem ext_call {f : FuncId} {args : Array Value} {e : Ext w} {v : Value} (h : Calls P f args e.at fun x w' => x = .returned v ∧ Below e.at.heap.size e.at w') :
    Calls P f args e.at fun x w'' => x = .returned v ∧ ∃ e2 : Ext w, w'' = e2.at :=
  h.mono fun _ _ ⟨hx, hb⟩ => ⟨hx, ⟨⟨_, e.below.trans (hb.mono e.below.size)⟩, rfl⟩⟩
theorem ext_same {f : FuncId} {args : Array Value} {e : Ext w} {v : Value} (h : Calls P f args e.at fun x w' => x = .returned v ∧ w' = e.at) :
    Calls P f args e.at fun x w'' => x = .returned v ∧ ∃ e2 : Ext w, w'' = e2.at :=
  h.mono fun _ _ ⟨hx, hb⟩ => ⟨hx, ⟨e, hb⟩⟩
theorem Row.ext {b : Nat} {t : TypeId} {n : Nat} {f : Nat → Value} (h : Row w b t n f) (e : Ext w) : Row e.at b t n f := h.belowAll e.below
theorem ext_cell {p : Addr} {v : Value} (h : w.cell? p = some v) (e : Ext w) : e.at.cell? p = some v := by
  have hlt : p.block < w.heap.size := by
    rcases Nat.lt_or_ge p.block w.heap.size with h' | h'
    · exact h'
    · simp [World.cell?, Array.getElem?_eq_none h'] at h
  exact (e.below.cell hlt).trans h
theorem quiet_load_is {o : Oper} {a : Act} {K : Act → Prop} (ty : TypeId) (x : Operand) (ho : o.op = .load ty x)
    (g : Nat) (hx : a.eval x = .pointer (some ⟨g, 0, none⟩)) (t : TypeId) (n : Nat) (f : Nat → Value) (hg : Row w g t n f) {e : TypeId}
    (hu : P.underlying ty = some (.array n e)) (hi : (P.info? ty).map (·.size) = some n)
    (h : K (a.put o.dst (.agg (arr n f)))) : o.quiet P a (fun w' => ∃ e : Ext w, w' = e.at) K := by
  refine ⟨_, ?_, h⟩
  rintro w' ⟨ex, rfl⟩
  unfold Oper.quietAt execOp
  simp only [ho, hx, Sem.run_bind, load_row (hg.ext ex) hu hi, Sem.run_pure]
  exact ⟨rfl, rfl⟩
end
end Go.Proofs.Ytaphhcalpgibaaa
