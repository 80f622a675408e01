/- Seven pairs of heads in a slice; a frame after a region by an invariant; loads of heads and pairs at places. No step of the program here. -/
import Derived.Test.YtijhdfllffkfjaaTwo
namespace Go.Proofs.Ytijhdfllffkfjaa
open Go.ChangeShapes Go.WideShapes Go.ChangeAt Go.RowKit

abbrev PT := Int × HF × Int × HF
def tw (x : PT) : Array Value := two x.1 x.2.1 x.2.2.1 x.2.2.2
theorem tw_size (x : PT) : (tw x).size = 66 := two_size _ _ _ _
theorem seven_get (x0 x1 x2 x3 x4 x5 x6 : PT) (j i : Nat) (hj : j < 7) (hi : i < 66) :
    (tw x0 ++ (tw x1 ++ (tw x2 ++ (tw x3 ++ (tw x4 ++ (tw x5 ++ tw x6))))))[j * 66 + i]? = (tw ([x0, x1, x2, x3, x4, x5, x6].getD j x0))[i]? := by
  rcases (by omega : j = 0 ∨ j = 1 ∨ j = 2 ∨ j = 3 ∨ j = 4 ∨ j = 5 ∨ j = 6) with rfl | rfl | rfl | rfl | rfl | rfl | rfl
  · rw [Array.getElem?_append_left (by rw [tw_size]; omega)]; simp
  · rw [Array.getElem?_append_right (by rw [tw_size]; omega), tw_size, show 1 * 66 + i - 66 = i by omega, Array.getElem?_append_left (by rw [tw_size]; omega)]; rfl
  · rw [Array.getElem?_append_right (by rw [tw_size]; omega), tw_size, Array.getElem?_append_right (by rw [tw_size]; omega), tw_size, show 2 * 66 + i - 66 - 66 = i by omega, Array.getElem?_append_left (by rw [tw_size]; omega)]; rfl
  · rw [Array.getElem?_append_right (by rw [tw_size]; omega), tw_size, Array.getElem?_append_right (by rw [tw_size]; omega), tw_size, Array.getElem?_append_right (by rw [tw_size]; omega), tw_size, show 3 * 66 + i - 66 - 66 - 66 = i by omega, Array.getElem?_append_left (by rw [tw_size]; omega)]; rfl
  · rw [Array.getElem?_append_right (by rw [tw_size]; omega), tw_size, Array.getElem?_append_right (by rw [tw_size]; omega), tw_size, Array.getElem?_append_right (by rw [tw_size]; omega), tw_size, Array.getElem?_append_right (by rw [tw_size]; omega), tw_size, show 4 * 66 + i - 66 - 66 - 66 - 66 = i by omega, Array.getElem?_append_left (by rw [tw_size]; omega)]; rfl
  · rw [Array.getElem?_append_right (by rw [tw_size]; omega), tw_size, Array.getElem?_append_right (by rw [tw_size]; omega), tw_size, Array.getElem?_append_right (by rw [tw_size]; omega), tw_size, Array.getElem?_append_right (by rw [tw_size]; omega), tw_size, Array.getElem?_append_right (by rw [tw_size]; omega), tw_size, show 5 * 66 + i - 66 - 66 - 66 - 66 - 66 = i by omega, Array.getElem?_append_left (by rw [tw_size]; omega)]; rfl
  · rw [Array.getElem?_append_right (by rw [tw_size]; omega), tw_size, Array.getElem?_append_right (by rw [tw_size]; omega), tw_size, Array.getElem?_append_right (by rw [tw_size]; omega), tw_size, Array.getElem?_append_right (by rw [tw_size]; omega), tw_size, Array.getElem?_append_right (by rw [tw_size]; omega), tw_size, Array.getElem?_append_right (by rw [tw_size]; omega), tw_size, show 6 * 66 + i - 66 - 66 - 66 - 66 - 66 - 66 = i by omega]; rfl
section
variable {ops : Array Oper} {rest : List Oper} {o : Oper} {a : Act} {w : World} {Q : Exit → Act → World → Prop}
theorem wpList_seven (hgd : o.guard = none) (y0 y1 y2 y3 y4 y5 y6 : Operand) (ho : o.op = .buildSlice 58 7 #[(0, y0), (1, y1), (2, y2), (3, y3), (4, y4), (5, y5), (6, y6)]) (x0 x1 x2 x3 x4 x5 x6 : PT)
    (h0 : a.eval y0 = .agg (tw x0)) (h1 : a.eval y1 = .agg (tw x1)) (h2 : a.eval y2 = .agg (tw x2)) (h3 : a.eval y3 = .agg (tw x3)) (h4 : a.eval y4 = .agg (tw x4)) (h5 : a.eval y5 = .agg (tw x5)) (h6 : a.eval y6 = .agg (tw x6))
    (h : ∀ w', Below w.heap.size w w' → (∀ j, j < 7 → w'.rangeAt w.heap.size (j * 66) (tw ([x0, x1, x2, x3, x4, x5, x6].getD j x0)).toList) → w.heap.size < w'.heap.size → wpList Try.prog ops Q rest (a.put o.dst (.slice (some ⟨w.heap.size, 0, none⟩) 7 7)) w') : wpList Try.prog ops Q (o :: rest) a w := by
  obtain ⟨i0, hi, hz0, hz1, hz2⟩ := info_parts Try.infoTwo
  refine wpList_buildSlice hgd 58 57 7 _ ho (tw x0 ++ (tw x1 ++ (tw x2 ++ (tw x3 ++ (tw x4 ++ (tw x5 ++ tw x6)))))) i0 _ Try.underlying58 hi hz0 (by rw [hz1]; decide) (by rw [hz1]; decide) ?_ (h _ ((Below.refl _ _).alloc (Nat.le_refl _) _) (fun j hj i v hv => ?_) (by simp))
  · rw [hz1]
    simp only [List.map_toArray, List.map_cons, List.map_nil, h0, h1, h2, h3, h4, h5, h6]
    exact fill7 x0.1 x0.2.2.1 x1.1 x1.2.2.1 x2.1 x2.2.2.1 x3.1 x3.2.2.1 x4.1 x4.2.2.1 x5.1 x5.2.2.1 x6.1 x6.2.2.1 x0.2.1 x0.2.2.2 x1.2.1 x1.2.2.2 x2.2.1 x2.2.2.2 x3.2.1 x3.2.2.2 x4.2.1 x4.2.2.2 x5.2.1 x5.2.2.2 x6.2.1 x6.2.2.2
  · have hi66 : i < 66 := by have := (List.getElem?_eq_some_iff.1 hv).1; rwa [Array.length_toList, tw_size] at this
    rw [Array.getElem?_toList] at hv
    rw [cell_of_row _ _ _ _ 57 (0, 0) (heap_alloc_new w _), seven_get _ _ _ _ _ _ _ j i hj hi66, hv]
theorem wpList_build_two (hgd : o.guard = none) (x y : Operand) (ho : o.op = .build 57 #[(0, x), (1, y)]) (m : Int) (f : HF) (n : Int) (g : HF) (hx : a.eval x = .agg (hd m f)) (hy : a.eval y = .agg (hd n g))
    (h : wpList Try.prog ops Q rest (a.put o.dst (.agg (tw (m, f, n, g)))) w) : wpList Try.prog ops Q (o :: rest) a w := by
  refine wpList_build_is hgd 57 _ ho (two m f n g) ?_ h
  simp only [List.map_toArray, List.map_cons, List.map_nil, hx, hy]
  exact build_two m f n g
theorem wpList_load_two (hgd : o.guard = none) (x : Operand) (ho : o.op = .load 57 x) (b off : Nat) (hx : a.eval x = .pointer (some ⟨b, off, none⟩)) (z : PT) (hr : w.rangeAt b off (tw z).toList)
    (h : wpList Try.prog ops Q rest (a.put o.dst (.agg (tw z))) w) : wpList Try.prog ops Q (o :: rest) a w := by
  refine wpList_load_mid hgd 57 x ho b off hx (tw z).toList _ hr Try.underlying57 rfl (by rw [Array.length_toList, tw_size]; kernel_rfl) ?_
  rw [Array.toArray_toList]
  exact h
theorem wpList_store_two (hgd : o.guard = none) (x y : Operand) (ho : o.op = .store 57 x y) (g : Nat) (z : PT) (t : TypeId) (hx : a.eval x = .pointer (some ⟨g, 0, none⟩)) (hy : a.eval y = .agg (tw z)) (z0 : PT) (hg : w.heap[g]? = some (.cells (tw z0) t (0, 0)))
    (h : wpList Try.prog ops Q rest (a.put o.dst undef) (w.setRow g (tw z))) : wpList Try.prog ops Q (o :: rest) a w :=
  wpList_store_row hgd 57 x y ho g (tw z) hx hy t (tw z0) hg (by rw [tw_size]; kernel_rfl) (by rw [tw_size, tw_size]) (two_one _ _ _ _) h
theorem wpList_load_hdAt (hgd : o.guard = none) (x : Operand) (ho : o.op = .load 36 x) (b : Nat) (hx : a.eval x = .pointer (some ⟨b, 0, none⟩)) (n : Int) (f : HF) (hr : HdAt w b n f)
    (h : wpList Try.prog ops Q rest (a.put o.dst (.agg (hd n f))) w) : wpList Try.prog ops Q (o :: rest) a w := by
  refine wpList_plain hgd fun K hK => ?_
  unfold Oper.wp execOp
  simp only [ho, hx, Sem.run_bind, Result.andThen_ok, load_hdAt hr]
  exact hK _ _ h
theorem quiet_load_hd {K : Act → Prop} (x : Operand) (ho : o.op = .load 36 x) (b off : Nat) (hx : a.eval x = .pointer (some ⟨b, off, none⟩)) (n : Int) (f : HF) (hl : b < w.heap.size) (hr : w.rangeAt b off (hd n f).toList)
    (h : K (a.put o.dst (.agg (hd n f)))) : o.quiet Try.prog a (fun w' => ∃ e : Ext w, w' = e.at) K := by
  refine ⟨_, ?_, h⟩
  rintro w' ⟨ex, rfl⟩
  have := run_loadAt_mid (P := Try.prog) ex.at b off 36 (hd n f).toList _ (range_below hr ex.below hl) Try.underlying36 rfl (by rw [Array.length_toList, hd_size]; kernel_rfl)
  rw [Array.toArray_toList] at this
  unfold Oper.quietAt execOp
  simp only [ho, hx, Sem.run_bind, this, Sem.run_pure]
  exact ⟨rfl, rfl⟩
end
/-- a pair in a block of its own: its two heads -/
theorem two_heads {w : World} {g : Nat} {t : TypeId} {z : PT} (h : w.heap[g]? = some (.cells (tw z) t (0, 0))) : w.rangeAt g 0 (hd z.1 z.2.1).toList ∧ w.rangeAt g 33 (hd z.2.2.1 z.2.2.2).toList := by
  refine ⟨fun j v hv => ?_, fun j v hv => ?_⟩
  · have hj : j < 33 := by have := (List.getElem?_eq_some_iff.1 hv).1; rwa [Array.length_toList, hd_size] at this
    rw [Array.getElem?_toList] at hv
    rw [cell_of_row w g _ _ t (0, 0) h, Nat.zero_add]
    unfold tw two
    rw [Array.getElem?_append_left (by rw [hd_size]; exact hj), hv]
  · rw [Array.getElem?_toList] at hv
    rw [cell_of_row w g _ _ t (0, 0) h]
    unfold tw two
    rw [Array.getElem?_append_right (by rw [hd_size]; omega), hd_size, show 33 + j - 33 = j by omega, hv]
def putsR : Act → List Tmp → (Tmp → Value) → Act
  | a, [], _ => a
  | a, s :: L, f => putsR (a.put (some s) (f s)) L f
theorem putsR_snoc : ∀ (L : List Tmp) (a : Act) (s : Tmp) (f : Tmp → Value), putsR a (L ++ [s]) f = (putsR a L f).put (some s) (f s)
  | [], _, _, _ => rfl
  | t :: L, a, s, f => putsR_snoc L (a.put (some t) (f t)) s f
theorem puts_R (a : Act) : ∀ (L : List Tmp) (f : Tmp → Value), puts a L f = putsR a L.reverse f
  | [], _ => rfl
  | s :: L, f => by rw [List.reverse_cons, putsR_snoc, ← puts_R a L f]; rfl
theorem put_lit (l : List Value) (ds : List Deferred) (s : Tmp) (v : Value) : Act.put ⟨l.toArray, ds⟩ (some s) v = ⟨(l.set s v).toArray, ds⟩ := by simp [Act.put]
theorem wp_forget5 {P : Program} {c : Code} {Q : Exit → Act → World → Prop} {a : Act} {w : World} (L : List Tmp) (S : Act → Prop) (J : (Tmp → Value) → World → Prop) (hS : S a)
    (h : ∀ act Q', S act → (∀ f w', J f w' → Q' .normal (puts act L f) w') → c.wp P Q' act w) (hQ : ∀ f w', J f w' → Q .normal (puts a L f) w') : c.wp P Q a w := h a Q hS hQ
theorem HeadAt.farRow {w : World} {g g' : Nat} {n : Int} {f : HF} (h : HeadAt w g n f) (hg : g ≠ g') (cs : Array Value) : HeadAt (w.setRow g' cs) g n f := by
  obtain ⟨t, h⟩ := h
  exact ⟨t, by rw [setRow_other _ _ _ _ hg]; exact h⟩
theorem HeadAt.resize {w : World} {b : Nat} {n m : Int} {f : HF} (h : HeadAt w b n f) : HeadAt (w.setCell ⟨b, 0, none⟩ (.int .i64 m)) b m f := by
  obtain ⟨t, h⟩ := h
  refine ⟨t, ?_⟩
  simp [World.setCell, Array.getElem?_modify, h, hd]
theorem HeadAt.farCell {w : World} {g o : Nat} {p : Addr} {v : Value} {n : Int} {f : HF} (h : HeadAt w g n f) (hg : g ≠ p.block) (_ho : o = 0) : HeadAt (w.setCell p v) g n f := by
  obtain ⟨t, h⟩ := h
  exact ⟨t, by rw [Below.heap_setCell w p v g hg]; exact h⟩
theorem HeadAt.frozen {w : World} {b o : Nat} {n : Int} {f : HF} (h : HeadAt w b n f) : w.frozen? ⟨b, o, none⟩ = false := by
  obtain ⟨t, h⟩ := h
  exact frozen_of_row w b o _ t h
/-- one byte of a head's root -/
theorem HeadAt.byte {w : World} {g j : Nat} {n : Int} {f : HF} (h : HeadAt w g n f) (hj : j < 32) (b : UInt8) : HdAt (w.setCell ⟨g, 1 + j, none⟩ (.int .u8 (ub b))) g n (fun t => if t = j then b else f t) := by
  have hcell : ∀ t, t < 32 → w.cell? ⟨g, 1 + t, none⟩ = some (U8 f t) := fun t ht => h.root t _ (hc_get f t ht)
  refine ⟨?_, fun t v hv => ?_, fun t ht => ?_⟩
  · rw [World.cell?_setCell_other _ _ _ _ (by intro e; injection e with _ e; omega)]
    exact h.size
  · have ht : t < 32 := by have := (List.getElem?_eq_some_iff.1 hv).1; rwa [hc_length] at this
    rw [hc_get _ t ht] at hv
    by_cases htj : t = j
    · subst htj
      rw [World.cell?_setCell_same' _ _ _ (by rw [hcell t ht]; rfl), ← hv]
      simp [U8]
    · rw [World.cell?_setCell_other _ _ _ _ (by intro e; injection e with _ e; omega), hcell t ht, ← hv]
      simp [U8, htj]
  · have := h.told.there t ht
    rw [World.frozen?_setCell]
    refine ⟨?_, this.2⟩
    by_cases he : (0 : Nat) + t = 1 + j
    · rw [he, World.cell?_setCell_same' _ _ _ (by rw [hcell j hj]; rfl)]; rfl
    · rw [World.cell?_setCell_other _ _ _ _ (by intro e; injection e with _ e; omega)]; exact this.1
theorem HdAt.farCell {w : World} {g : Nat} {p : Addr} {v : Value} {n : Int} {f : HF} (h : HdAt w g n f) (hg : g ≠ p.block) : HdAt (w.setCell p v) g n f := by
  have hh : ∀ o, (w.setCell p v).cell? ⟨g, o, none⟩ = w.cell? ⟨g, o, none⟩ := fun o => by simp only [World.cell?, Below.heap_setCell w p v g hg]
  refine ⟨by rw [hh]; exact h.size, fun j u hu => by rw [hh]; exact h.root j u hu, fun j hj => ?_⟩
  rw [hh, World.frozen?_setCell]
  exact h.there j hj
end Go.Proofs.Ytijhdfllffkfjaa
