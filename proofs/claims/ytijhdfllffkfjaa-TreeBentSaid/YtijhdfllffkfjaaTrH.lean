/- Slices of hashes: rows of the call's own, appended to, turned round; slices that are read. -/
import Derived.Test.YtijhdfllffkfjaaTrB
import Derived.Test.YtijhdfllffkfjaaRev
import Derived.Deep.MidRow
import Derived.Laws.AppendOwn
import Derived.OwnWalk
import Derived.Great.BuildSlice
namespace Go.Proofs.Ytijhdfllffkfjaa
open Go.RowKit

abbrev HF := Nat → UInt8
/-- the cells of a hash, of hashes -/
def hc (f : HF) : List Value := (arr 32 (U8 f)).toList
def HC (H : List HF) : List Value := H.flatMap hc
theorem hc_length (f : HF) : (hc f).length = 32 := by simp [hc, size_arr]
theorem HC_length (H : List HF) : (HC H).length = H.length * 32 := by
  induction H with
  | nil => rfl
  | cons f H ih =>
    have : HC (f :: H) = hc f ++ HC H := rfl
    rw [this, List.length_append, hc_length, ih, List.length_cons]; omega
theorem HC_append (H K : List HF) : HC (H ++ K) = HC H ++ HC K := by simp [HC]
theorem HC_one (f : HF) : HC [f] = hc f := by simp [HC]
theorem hc_one {f : HF} : ∀ u ∈ hc f, u.oneCell' = true := by
  intro u hu
  unfold hc at hu
  have h := oneCell_arr 32 (U8 f) (fun _ _ => rfl)
  exact Array.all_eq_true_iff_forall_mem.1 h u (by simpa using hu)
theorem hc_get (f : HF) (j : Nat) (hj : j < 32) : (hc f)[j]? = some (U8 f j) := by
  unfold hc
  rw [Array.getElem?_toList, arr_get _ _ _ hj]
theorem fill_hash (f : HF) : Instr.fill (fun i => some (i * 32, 32)) ((Array.range (1 * 32)).map ((Value.agg (arr 32 fun _ => .int .u8 0)).cells[· % (Value.agg (arr 32 fun _ => .int .u8 0)).cells.size]!)) [(0, .agg (arr 32 (U8 f)))] = some (arr 32 (U8 f)) := by kernel_rfl
theorem Try.infoHash : (Try.prog.info? 24).map (fun i => (i.zero, i.size, i.bytes)) = some (some (.agg (arr 32 fun _ => .int .u8 0)), 32, 32) := by kernel_rfl
/-- a row of hashes of the call's own -/
def HOwn (w : World) (B : Nat) (v : Value) (H : List HF) : Prop := w.ownsRow B 24 32 v H.length (HC H)
theorem HOwn.nil (w : World) (B : Nat) : HOwn w B (.slice none 0 0) [] := World.ownsRow_nil _ _ _ _
theorem range_of_row {w : World} {b : Nat} {t : TypeId} {f : HF} (h : Row w b t 32 (U8 f)) : w.rangeAt b 0 (hc f) := fun j v hv => by
  have hj : j < 32 := by
    have := (List.getElem?_eq_some_iff.1 hv).1
    rw [hc_length] at this
    exact this
  rw [hc_get f j hj] at hv
  rw [Nat.zero_add, h.cell hj, hv]
theorem HOwn.alloc {w : World} {B : Nat} {v : Value} {H : List HF} (h : HOwn w B v H) (o : Obj) : HOwn (w.alloc o) B v H := World.ownsRow.alloc h o
theorem HOwn.below {w w' : World} {B : Nat} {v : Value} {H : List HF} (h : HOwn w B v H) (hb : Below w.heap.size w w') : HOwn w' B v H :=
  World.ownsRow.kept h (row := none) (grown_below hb) (by
    rcases h.2 with ⟨rfl, _⟩ | ⟨g, cap, cur, rfl, _⟩
    · exact .inl rfl
    · exact .inr (by simp [Value.ownBlock]))
theorem range_new (w : World) (t : TypeId) (f : HF) : (w.alloc (.cells (arr 32 (U8 f)) t)).rangeAt w.heap.size 0 (HC [f]) := by
  rw [HC_one]
  exact range_of_row (Row.newArr w t 32 (U8 f))
theorem size_new {w : World} {B : Nat} (h : B ≤ w.heap.size) (o : Obj) : B ≤ (w.alloc o).heap.size := by simp; omega
theorem SRow.at_ {w w' : World} {b off B : Nat} {L : List (List UInt8)} (h : SRow w b off L) (hb : Below B w w') (hB : b < B) : SRow w' b off L := fun i hi => by
  rw [hb.cell (p := ⟨b, off + i, none⟩) hB]; exact h i hi
theorem HOwn.grown_below {a w w' : World} {B : Nat} {v : Value} {H : List HF} (h : HOwn w B v H) (hb : Below B a w) (hB : B ≤ w.heap.size) (hg : w.grownBy w' v.ownBlock) : Below B a w' :=
  hb.grown hg hB (fun k hk => (World.ownsRow.lt h k hk).1)
section
variable {ops : Array Oper} {rest : List Oper} {o : Oper} {a : Act} {w : World} {Q : Exit → Act → World → Prop}
/-- a slice of one hash -/
theorem wpList_slice_h (hgd : o.guard = none) (x : Operand) (ho : o.op = .buildSlice 38 1 #[(0, x)]) (f : HF) (hx : a.eval x = .agg (arr 32 (U8 f)))
    (h : wpList Try.prog ops Q rest (a.put o.dst (.slice (some ⟨w.heap.size, 0, none⟩) 1 1)) (w.alloc (.cells (arr 32 (U8 f)) 24))) : wpList Try.prog ops Q (o :: rest) a w := by
  obtain ⟨i0, hi, hz0, hz1, hz2⟩ := info_parts Try.infoHash
  refine wpList_buildSlice hgd 38 24 1 _ ho (arr 32 (U8 f)) i0 _ Try.underlying38 hi hz0 (by rw [hz1]; decide) (by rw [hz1]; decide) ?_ h
  rw [hz1]
  simp only [List.map_toArray, List.map_cons, List.map_nil, hx]
  exact fill_hash f
theorem wpList_append_h (hgd : o.guard = none) (s x : Operand) (ho : o.op = .call { callee := .builtin .append, args := #[s, x], argTypes := #[38, 38] }) (B : Nat) (v : Value) (H K : List HF) (hs : a.eval s = v) (hown : HOwn w B v H)
    (b off n c : Nat) (hn : n = K.length) (hx : a.eval x = .slice (some ⟨b, off, none⟩) n c) (hr : w.rangeAt b off (HC K)) (hb : H.length + K.length ≤ 1000000000) (hB : B ≤ w.heap.size)
    (h : ∀ v' w', HOwn w' B v' (H ++ K) → w.grownBy w' v.ownBlock → wpList Try.prog ops Q rest (a.put o.dst v') w') : wpList Try.prog ops Q (o :: rest) a w := by
  subst hn
  obtain ⟨i0, hi, hz0, hz1, hz2⟩ := info_parts Try.infoHash
  refine wpList_append_own _ hgd s x 38 ho B 24 i0 _ 32 32 Try.underlying38 hi hz0 hz1 hz2 (size_arr _ _) (by decide) v H.length (HC H) hs hown ⟨b, off, none⟩ K.length c (HC K) hx (HC_length K) ?_ ?_ ?_ ?_ hB ?_
  · intro j u hu
    rw [Addr.add_mid]
    exact hr j u hu
  · intro u hu
    obtain ⟨f, _, hf⟩ := List.mem_flatMap.1 hu
    exact hc_one u hf
  · unfold maxLen; omega
  · omega
  · intro v' w' h1 h2 _
    refine h v' w' ?_ h2
    unfold HOwn
    rw [List.length_append, HC_append]
    exact h1
end
/-- turned round -/
theorem reverse_h {w : World} {B : Nat} {v : Value} {H : List HF} (h : HOwn w B v H) :
    Calls Try.prog 43 #[v] w fun x w' => x = .returned (.tuple #[]) ∧ HOwn w' B v H.reverse ∧ w.grownBy w' v.ownBlock :=
  reverse_ownH hc_length (fun _ => hc_one) h

/-- n hashes lie in block b from cell off on -/
def HR (w : World) (b off : Nat) (H : List HF) : Prop := w.rangeAt b off (HC H)
theorem HC_get (H : List HF) (i j : Nat) (hi : i < H.length) (hj : j < 32) : (HC H)[i * 32 + j]? = some (U8 (H.getD i (fun _ => 0)) j) := by
  induction H generalizing i with
  | nil => simp at hi
  | cons f H ih =>
    have e : HC (f :: H) = hc f ++ HC H := rfl
    rw [e]
    cases i with
    | zero =>
      rw [Nat.zero_mul, Nat.zero_add, List.getElem?_append_left (by rw [hc_length]; exact hj), hc_get f j hj]
      rfl
    | succ i =>
      rw [List.getElem?_append_right (by rw [hc_length]; omega), hc_length, show (i + 1) * 32 + j - 32 = i * 32 + j by omega, ih i (by simpa using hi)]
      rfl
theorem HR.get {w : World} {b off : Nat} {H : List HF} (h : HR w b off H) (i : Nat) (hi : i < H.length) : w.rangeAt b (off + i * 32) (hc (H.getD i (fun _ => 0))) := fun j v hv => by
  have hj : j < 32 := by
    have := (List.getElem?_eq_some_iff.1 hv).1
    rw [hc_length] at this
    exact this
  rw [hc_get _ _ hj] at hv
  rw [Nat.add_assoc]
  exact h _ _ ((HC_get H i j hi hj).trans hv)
theorem HR.mk' {w : World} {b off : Nat} {H : List HF} (h : ∀ i, i < H.length → w.rangeAt b (off + i * 32) (hc (H.getD i (fun _ => 0)))) : HR w b off H := fun p v hv => by
  have hp := (List.getElem?_eq_some_iff.1 hv).1
  rw [HC_length] at hp
  obtain ⟨i, j, rfl, hj⟩ : ∃ i j, p = i * 32 + j ∧ j < 32 := ⟨p / 32, p % 32, by omega, by omega⟩
  have hi : i < H.length := by omega
  rw [HC_get H i j hi hj] at hv
  rw [← Nat.add_assoc]
  exact h i hi j v (by rw [hc_get _ _ hj]; exact hv)
theorem HR.lt {w : World} {b off : Nat} {H : List HF} (h : HR w b off H) (hp : 0 < H.length) : b < w.heap.size := by
  have h0 := h.get 0 hp 0 _ (hc_get _ 0 (by decide))
  rcases Nat.lt_or_ge b w.heap.size with h' | h'
  · exact h'
  · simp [World.cell?, Array.getElem?_eq_none h'] at h0
theorem range_below {w w' : World} {b off B : Nat} {cs : List Value} (h : w.rangeAt b off cs) (hb : Below B w w') (hB : b < B) : w'.rangeAt b off cs := fun j v hv => by
  rw [hb.cell (p := ⟨b, off + j, none⟩) hB]; exact h j v hv
theorem range_lt {w : World} {b off : Nat} {f : HF} (h : w.rangeAt b off (hc f)) : b < w.heap.size := by
  have h0 := h 0 _ (hc_get f 0 (by decide))
  rcases Nat.lt_or_ge b w.heap.size with h' | h'
  · exact h'
  · simp [World.cell?, Array.getElem?_eq_none h'] at h0
theorem HR.at_ {w w' : World} {b off B : Nat} {H : List HF} (h : HR w b off H) (hb : Below B w w') (hB : b < B) : HR w' b off H := range_below h hb hB
theorem HR.below {w w' : World} {b off : Nat} {H : List HF} (h : HR w b off H) (hb : Below w.heap.size w w') : HR w' b off H := HR.mk' fun i hi => range_below (h.get i hi) hb (h.lt (by omega))
theorem HR.take {w : World} {b off : Nat} {H : List HF} (h : HR w b off H) (k : Nat) : HR w b off (H.take k) := HR.mk' fun i hi => by
  rw [List.length_take] at hi
  have := h.get i (by omega)
  simpa [List.getD_eq_getElem?_getD, show i < k by omega] using this
theorem HOwn.row {w : World} {B : Nat} {v : Value} {H : List HF} (h : HOwn w B v H) : (v = .slice none 0 0 ∧ H = []) ∨ ∃ g cap : Nat, v = .slice (some ⟨g, 0, none⟩) (H.length : Nat) cap ∧ HR w g 0 H ∧ B ≤ g ∧ H.length ≤ cap ∧ cap ≤ 9223372036854775807 := by
  obtain ⟨hl, h⟩ := h
  rcases h with ⟨rfl, h0⟩ | ⟨g, cap, cur, rfl, hb, hg, h1, h2, h3, h4⟩
  · exact .inl ⟨rfl, List.eq_nil_of_length_eq_zero h0⟩
  · refine .inr ⟨g, cap, rfl, fun j v hv => ?_, hb, h1, by unfold maxLen at h2; omega⟩
    have hj : j < H.length * 32 := by
      have := (List.getElem?_eq_some_iff.1 hv).1
      rw [HC_length] at this
      exact this
    rw [← h4, List.getElem?_take_of_lt hj, Array.getElem?_toList] at hv
    simpa [World.cell?, hg] using hv
/-- a slice of hashes, as a value -/
def HSlice (w : World) (v : Value) (H : List HF) : Prop := (Empty v ∧ H = []) ∨ ∃ b off cap : Nat, v = .slice (some ⟨b, off, none⟩) (H.length : Nat) cap ∧ HR w b off H ∧ H.length ≤ cap ∧ cap ≤ 9223372036854775807
theorem HSlice.below {w w' : World} {v : Value} {H : List HF} (h : HSlice w v H) (hb : Below w.heap.size w w') : HSlice w' v H := by
  rcases h with h | ⟨b, off, cap, h1, h2, h3⟩
  · exact .inl h
  · exact .inr ⟨b, off, cap, h1, h2.below hb, h3⟩
theorem HOwn.slice {w : World} {B : Nat} {v : Value} {H : List HF} (h : HOwn w B v H) : HSlice w v H := by
  rcases h.row with ⟨rfl, hn⟩ | ⟨g, cap, h1, h2, -, h3, h4⟩
  · exact .inl ⟨Empty.nil, hn⟩
  · exact .inr ⟨g, 0, cap, h1, h2, h3, h4⟩
/-- loads of one hash -/
theorem load_h {w : World} {g o : Nat} {f : HF} (h : w.rangeAt g o (hc f)) : (Instr.loadAt 24 (.pointer (some ⟨g, o, none⟩))).run Try.prog w = .ok (.agg (arr 32 (U8 f))) w := by
  have := run_loadAt_mid (P := Try.prog) w g o 24 (hc f) _ h Try.underlying24 rfl (by rw [hc_length]; kernel_rfl)
  rw [this]
  simp [hc]
theorem row_range {w : World} {b : Nat} {t : TypeId} {f : HF} (h : Row w b t 32 (U8 f)) : w.rangeAt b 0 (hc f) := range_of_row h
section
variable {ops : Array Oper} {rest : List Oper} {op : Oper} {a : Act} {w : World} {Q : Exit → Act → World → Prop}
theorem wpList_load_h (hgd : op.guard = none) (x : Operand) (ho : op.op = .load 24 x) (b off : Nat) (hx : a.eval x = .pointer (some ⟨b, off, none⟩)) (f : HF) (hr : w.rangeAt b off (hc f))
    (h : wpList Try.prog ops Q rest (a.put op.dst (.agg (arr 32 (U8 f)))) w) : wpList Try.prog ops Q (op :: rest) a w := by
  refine wpList_load_mid hgd 24 x ho b off hx (hc f) _ hr Try.underlying24 rfl (by rw [hc_length]; kernel_rfl) ?_
  rw [show (hc f).toArray = arr 32 (U8 f) by simp [hc]]
  exact h
theorem quiet_load_h {K : Act → Prop} (x : Operand) (ho : op.op = .load 24 x) (b off : Nat) (hx : a.eval x = .pointer (some ⟨b, off, none⟩)) (f : HF) (hr : w.rangeAt b off (hc f))
    (h : K (a.put op.dst (.agg (arr 32 (U8 f))))) : op.quiet Try.prog a (fun w' => ∃ e : Ext w, w' = e.at) K := by
  refine ⟨_, ?_, h⟩
  rintro w' ⟨ex, rfl⟩
  unfold Oper.quietAt execOp
  simp only [ho, hx, Sem.run_bind, load_h (range_below hr ex.below (range_lt hr)), Sem.run_pure]
  exact ⟨rfl, rfl⟩
end
end Go.Proofs.Ytijhdfllffkfjaa
