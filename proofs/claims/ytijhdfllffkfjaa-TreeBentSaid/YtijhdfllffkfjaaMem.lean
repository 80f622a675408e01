/- Memory: a block that is known whole, its content by the index; whole arrays out of it and into it. -/
import Derived.Test.YtijhdfllffkfjaaBase
import Derived.Handy
import Derived.Laws.Rows
import Derived.Laws.Tables
namespace Go.Proofs.Ytijhdfllffkfjaa
open Go.RowKit

/-- n values, by the index -/
def arr (n : Nat) (f : Nat → Value) : Array Value := ((List.range n).map f).toArray
theorem size_arr (n : Nat) (f : Nat → Value) : (arr n f).size = n := by simp [arr]
theorem arr_get (n : Nat) (f : Nat → Value) (i : Nat) (h : i < n) : (arr n f)[i]? = some (f i) := by simp [arr, h]
theorem arr_get_none (n : Nat) (f : Nat → Value) (i : Nat) (h : n ≤ i) : (arr n f)[i]? = none := by simp [arr, h]
theorem arr_congr {n : Nat} {f g : Nat → Value} (h : ∀ i, i < n → f i = g i) : arr n f = arr n g := by
  unfold arr
  congr 1
  apply List.map_congr_left
  intro i hi
  exact h i (by simpa using hi)
theorem arr_of {n : Nat} {f : Nat → Value} {c : Array Value} (hs : c.size = n) (h : ∀ i, i < n → c[i]? = some (f i)) : c = arr n f := by
  apply Array.ext_getElem?
  intro i
  by_cases hi : i < n
  · rw [h i hi, arr_get n f i hi]
  · rw [arr_get_none n f i (by omega)]
    exact Array.getElem?_eq_none (by omega)
/-- a function turned at one place -/
def upd (f : Nat → Value) (i : Nat) (v : Value) : Nat → Value := fun j => if j = i then v else f j
theorem arr_set (n : Nat) (f : Nat → Value) (i : Nat) (v : Value) : (arr n f).setIfInBounds i v = arr n (upd f i v) := by
  apply arr_of (by simp [size_arr])
  intro j hj
  rw [Array.getElem?_setIfInBounds]
  unfold upd
  by_cases e : j = i
  · subst e; simp [size_arr, hj]
  · rw [if_neg (fun h => e h.symm), if_neg e, arr_get n f j hj]

/-- block b: n cells of type t, none frozen -/
def Row (w : World) (b : Nat) (t : TypeId) (n : Nat) (f : Nat → Value) : Prop := w.heap[b]? = some (.cells (arr n f) t (0, 0))
section
variable {w w' : World} {b : Nat} {t : TypeId} {n : Nat} {f g : Nat → Value}
theorem Row.lt (h : Row w b t n f) : b < w.heap.size := by
  unfold Row at h
  exact (Array.getElem?_eq_some_iff.1 h).1
theorem Row.cell (h : Row w b t n f) {i : Nat} (hi : i < n) : w.cell? ⟨b, i, none⟩ = some (f i) := by
  rw [cell_of_row w b i _ t (0, 0) h, arr_get n f i hi]
theorem Row.frozen (h : Row w b t n f) (i : Nat) : w.frozen? ⟨b, i, none⟩ = false := frozen_of_row w b i _ t h
theorem Row.congr (h : Row w b t n f) (e : ∀ i, i < n → f i = g i) : Row w b t n g := by
  unfold Row at h ⊢
  rw [h, arr_congr e]
theorem Row.new (w : World) (c : Array Value) (t : TypeId) (n : Nat) (f : Nat → Value) (hs : c.size = n) (h : ∀ i, i < n → c[i]? = some (f i)) : Row (w.alloc (.cells c t)) w.heap.size t n f := by
  unfold Row
  rw [heap_alloc_new, arr_of hs h]
theorem Row.newArr (w : World) (t : TypeId) (n : Nat) (f : Nat → Value) : Row (w.alloc (.cells (arr n f) t)) w.heap.size t n f := heap_alloc_new w _
theorem Row.of_block (h : Row w b t n f) (e : w'.heap[b]? = w.heap[b]?) : Row w' b t n f := e.trans h
theorem Row.alloc (h : Row w b t n f) (o : Obj) : Row (w.alloc o) b t n f := h.of_block (Below.heap_alloc w o b h.lt)
theorem Row.drew (h : Row w b t n f) : Row w.drew b t n f := h
theorem Row.drewN (h : Row w b t n f) (k : Nat) : Row (w.drewN k) b t n f := h
theorem Row.set_ (h : Row w b t n f) (i : Nat) (v : Value) : Row (w.setCell ⟨b, i, none⟩ v) b t n (upd f i v) := by
  unfold Row at h ⊢
  rw [heap_setCell_same w b i _ t v h, arr_set]
theorem Row.far (h : Row w b t n f) {p : Addr} (hp : b ≠ p.block) (v : Value) : Row (w.setCell p v) b t n f := h.of_block (Below.heap_setCell w p v b hp)
theorem Row.below {B : Nat} (h : Row w b t n f) (hb : Below B w w') (hg : b < B) : Row w' b t n f := h.of_block (hb.block b hg)
theorem Row.belowAll (h : Row w b t n f) (hb : Below w.heap.size w w') : Row w' b t n f := h.below hb h.lt
theorem Row.setRow (h : Row w b t n f) (g : Nat → Value) : Row (w.setRow b (arr n g)) b t n g := setRow_heap w b _ _ t _ h
theorem Below.setRow {B : Nat} {a w : World} (h : Below B a w) {g : Nat} (hp : B ≤ g) (cs : Array Value) : Below B a (w.setRow g cs) :=
  h.trans ⟨rfl, rfl, rfl, by simp, fun k hk => setRow_other w g k cs (by omega)⟩
theorem Below.drewN {B : Nat} {a w : World} (h : Below B a w) (n : Nat) : Below B a (w.drewN n) := ⟨h.os, h.tape, h.output, h.size, h.block⟩
end
theorem oneCell_arr (n : Nat) (f : Nat → Value) (h : ∀ i, i < n → (f i).oneCell' = true) : (arr n f).all (·.oneCell') = true := by
  rw [Array.all_eq_true_iff_forall_mem]
  intro x hx
  simp [arr] at hx
  obtain ⟨i, hi, rfl⟩ := hx
  exact h i hi
/-- the end of a function whose one result, an array, lies in a block -/
theorem ret_row {P : Program} {fn : Func} {R : Ending → World → Prop} {a : Act} {w : World} {p : Tmp} {ty : TypeId} (h : fn.results = #[.cell p ty]) (g : Nat) (hp : a.tmps.getD p undef = .pointer (some ⟨g, 0, none⟩))
    {t : TypeId} {cs : Array Value} {fr : Nat × Nat} (hg : w.heap[g]? = some (.cells cs t fr)) {n : Nat} {e : TypeId}
    (hu : P.underlying ty = some (.array n e)) (hi : (P.info? ty).map (·.size) = some cs.size)
    (hdf : a.defers = []) (hR : R (.returned (.agg cs)) w) : bodyPost P fn R .ret a w :=
  bodyPost_ret (results_cell_row h _ _ g t cs fr _ hp hg hu rfl hi) hdf hR
/-- a whole array out of a block -/
theorem load_row {P : Program} {w : World} {g : Nat} {t ty : TypeId} {n : Nat} {f : Nat → Value} (hg : Row w g t n f) {e : TypeId} (hu : P.underlying ty = some (.array n e)) (hi : (P.info? ty).map (·.size) = some n) :
    (Instr.loadAt ty (.pointer (some ⟨g, 0, none⟩))).run P w = .ok (.agg (arr n f)) w := by
  simp only [Instr.loadAt, Instr.sureAddr, Sem.run_bind, Sem.run_pure, Result.andThen]
  exact run_loadVar_row w g t ty (arr n f) (0, 0) _ hg hu rfl (by rw [hi, size_arr])
/-- a whole array into a block -/
theorem store_row {P : Program} {w : World} {g : Nat} {t ty : TypeId} {n : Nat} {f : Nat → Value} (hg : Row w g t n f) (c : Array Value) (hc : c.size = n) (hi : (P.info? ty).map (·.size) = some n) (h1 : c.all (·.oneCell') = true) :
    (Instr.storeAt ty (.pointer (some ⟨g, 0, none⟩)) (.agg c)).run P w = .ok () (w.setRow g c) := by
  simp only [Instr.storeAt, Instr.sureAddr, Sem.run_bind, Sem.run_pure, Result.andThen]
  exact run_storeVar_row w g t ty (arr n f) c hg (by rw [hi, hc]) (by rw [size_arr, hc]) h1
/-- an array literal, its cells given; a whole array into a block known as a Row -/
theorem wpList_build_is {P : Program} {ops : Array Oper} {rest : List Oper} {o : Oper} {a : Act} {w : World} {Q : Exit → Act → World → Prop} (hg : o.guard = none) (t : TypeId) (parts : Array (Nat × Operand)) (ho : o.op = .build t parts)
    (cs : Array Value) (hf : P.built t (parts.map fun (i, x) => (i, a.eval x)).toList = some cs)
    (h : wpList P ops Q rest (a.put o.dst (.agg cs)) w) : wpList P ops Q (o :: rest) a w :=
  wpList_build hg t parts ho (by rw [hf]; rfl) (by rw [hf]; exact h)
theorem wpList_store_is {P : Program} {ops : Array Oper} {rest : List Oper} {o : Oper} {a : Act} {w : World} {Q : Exit → Act → World → Prop} (hgd : o.guard = none) (ty : TypeId) (x y : Operand) (ho : o.op = .store ty x y)
    (g : Nat) (n : Nat) (f f0 : Nat → Value) (hx : a.eval x = .pointer (some ⟨g, 0, none⟩)) (hy : a.eval y = .agg (arr n f))
    (t : TypeId) (hg : Row w g t n f0) (hi : (P.info? ty).map (·.size) = some n) (h1 : ∀ i, i < n → (f i).oneCell' = true)
    (h : wpList P ops Q rest (a.put o.dst undef) (w.setRow g (arr n f))) : wpList P ops Q (o :: rest) a w :=
  wpList_store_row hgd ty x y ho g (arr n f) hx hy t (arr n f0) hg (by rw [hi, size_arr]) (by rw [size_arr, size_arr]) (oneCell_arr n f h1) h
theorem wpList_load_is {P : Program} {ops : Array Oper} {rest : List Oper} {o : Oper} {a : Act} {w : World} {Q : Exit → Act → World → Prop} (hgd : o.guard = none) (ty : TypeId) (x : Operand) (ho : o.op = .load ty x)
    (g : Nat) (hx : a.eval x = .pointer (some ⟨g, 0, none⟩)) (t : TypeId) (n : Nat) (f : Nat → Value) (hg : Row w g t n f) {m : Nat} {e : TypeId}
    (hu : P.underlying ty = some (.array m e)) (hi : (P.info? ty).map (·.size) = some n)
    (h : wpList P ops Q rest (a.put o.dst (.agg (arr n f))) w) : wpList P ops Q (o :: rest) a w :=
  wpList_load_row hgd ty x ho g hx t (arr n f) (0, 0) _ hg hu rfl (by rw [hi, size_arr]) h
/-- an element of an array's value, the index a number -/
theorem run_index_arr {P : Program} (t e : TypeId) (n : Nat) (f : Nat → Value) (d : TypeDesc) (hu : P.underlying t = some (.array n e)) (hsz : (P.info? e).map (·.size) = some 1) (he : P.underlying e = some d)
    (hd : (match d with | .struct _ | .array _ _ => true | _ => false) = false) (k : IntKind) (i : Nat) (h : i < n) (w : World) :
    (Instr.index t (.agg (arr n f)) (.int k (i : Int))).run P w = .ok (f i) w := by
  have hagg : (isAgg e).run P w = .ok false w := by
    unfold isAgg
    rw [Sem.run_bind, run_underlying he w]
    cases d <;> simp_all
  obtain ⟨inf, hi, hs⟩ := Option.map_eq_some_iff.1 hsz
  have hc : (arr n f)[i]? = some (f i) := arr_get n f i h
  simp [Instr.index, asIntOf, run_underlying hu, h, part, hagg, sizeOf, typeInfo, hi, hs, hc]

/-! only block g, and what is new, may have turned -/
section
variable {a b c w w' : World} {g : Nat}
theorem grown_trans {r : Option Nat} (h : a.grownBy b r) (k : b.grownBy c r) : a.grownBy c r :=
  ⟨k.os.trans h.os, k.tape.trans h.tape, k.output.trans h.output, Nat.le_trans h.size k.size, fun i hi hn => (k.block i (Nat.lt_of_lt_of_le hi h.size) hn).trans (h.block i hi hn)⟩
theorem grown_below {r : Option Nat} (h : Below a.heap.size a w) : a.grownBy w r := ⟨h.os, h.tape, h.output, h.size, fun i hi _ => h.block i hi⟩
theorem grown_refl (a : World) (r : Option Nat) : a.grownBy a r := grown_below (Below.refl _ _)
theorem grown_drew {r : Option Nat} (h : a.grownBy w r) : a.grownBy w.drew r := ⟨h.os, h.tape, h.output, h.size, h.block⟩
theorem grown_drewN {r : Option Nat} (h : a.grownBy w r) (n : Nat) : a.grownBy (w.drewN n) r := ⟨h.os, h.tape, h.output, h.size, h.block⟩
theorem grown_alloc {r : Option Nat} (h : a.grownBy w r) (o : Obj) : a.grownBy (w.alloc o) r :=
  ⟨h.os, h.tape, h.output, Nat.le_trans h.size (by simp), fun i hi hne => (Below.heap_alloc w o i (Nat.lt_of_lt_of_le hi h.size)).trans (h.block i hi hne)⟩
theorem grown_set {r : Option Nat} (h : a.grownBy w r) {p : Addr} (hp : some p.block = r ∨ a.heap.size ≤ p.block) (u : Value) : a.grownBy (w.setCell p u) r :=
  ⟨h.os, h.tape, h.output, by simpa [World.setCell] using h.size, fun i hi hne => (Below.heap_setCell w p u i (by
    rintro rfl
    rcases hp with hp | hp
    · exact hne hp
    · omega)).trans (h.block i hi hne)⟩
theorem grown_setRow {r : Option Nat} (h : a.grownBy w r) {p : Nat} (hp : some p = r ∨ a.heap.size ≤ p) (cs : Array Value) : a.grownBy (w.setRow p cs) r :=
  ⟨h.os, h.tape, h.output, by simpa using h.size, fun i hi hne => (setRow_other w p i cs (by
    rintro rfl
    rcases hp with hp | hp
    · exact hne hp
    · omega)).trans (h.block i hi hne)⟩
/-- what is new to a is new to the whole: behind a call that has written block g -/
theorem below_of_grown {B : Nat} (h : Below B a w) (k : w.grownBy w' (some g)) (hg : B ≤ g) (hB : B ≤ w.heap.size) : Below B a w' :=
  h.grown k hB (fun k hk => by cases hk; exact hg)
theorem Row.grown {t : TypeId} {n : Nat} {f : Nat → Value} {x : Nat} {r : Option Nat} (h : Row w x t n f) (k : w.grownBy w' r) (hne : some x ≠ r) : Row w' x t n f := h.of_block (k.block x h.lt hne)
theorem Row.farRow {t : TypeId} {n : Nat} {f : Nat → Value} {x y : Nat} (h : Row w x t n f) (hne : x ≠ y) (cs : Array Value) : Row (w.setRow y cs) x t n f := h.of_block (setRow_other w y x cs (fun e => hne (by omega)))
end
end Go.Proofs.Ytijhdfllffkfjaa
