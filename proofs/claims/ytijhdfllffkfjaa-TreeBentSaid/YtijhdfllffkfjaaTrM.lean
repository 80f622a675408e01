/- Growth that is checked: the program's closure that takes a hash of the proof. -/
import Derived.Test.YtijhdfllffkfjaaTrL
namespace Go.Proofs.Ytijhdfllffkfjaa
open Go.RowKit

/-- all blocks that were there, save two, are as they were -/
structure KeptT (x y : Nat) (w w' : World) : Prop where
  os : w'.os = w.os
  tape : w'.tape = w.tape
  output : w'.output = w.output
  size : w.heap.size ≤ w'.heap.size
  block : ∀ b, b < w.heap.size → b ≠ x → b ≠ y → w'.heap[b]? = w.heap[b]?
theorem KeptT.refl (x y : Nat) (w : World) : KeptT x y w w := ⟨rfl, rfl, rfl, Nat.le_refl _, fun _ _ _ _ => rfl⟩
theorem KeptT.trans {x y : Nat} {a b c : World} (h : KeptT x y a b) (k : KeptT x y b c) : KeptT x y a c :=
  ⟨k.os.trans h.os, k.tape.trans h.tape, k.output.trans h.output, Nat.le_trans h.size k.size, fun i hi hx hy => (k.block i (Nat.lt_of_lt_of_le hi h.size) hx hy).trans (h.block i hi hx hy)⟩
theorem KeptT.of_below {x y : Nat} {w w' : World} (h : Below w.heap.size w w') : KeptT x y w w' := ⟨h.os, h.tape, h.output, h.size, fun b hb _ _ => h.block b hb⟩
theorem KeptT.alloc {x y : Nat} {a w : World} (h : KeptT x y a w) (o : Obj) : KeptT x y a (w.alloc o) := h.trans (KeptT.of_below ((Below.refl _ _).alloc (Nat.le_refl _) o))
theorem KeptT.drew {x y : Nat} {a w : World} (h : KeptT x y a w) : KeptT x y a w.drew := ⟨h.os, h.tape, h.output, h.size, h.block⟩
theorem KeptT.setCell {x y : Nat} {a w : World} (h : KeptT x y a w) {p : Addr} (hp : p.block = x ∨ p.block = y ∨ a.heap.size ≤ p.block) (v : Value) : KeptT x y a (w.setCell p v) :=
  ⟨h.os, h.tape, h.output, by simpa [World.setCell] using h.size, fun i hi hx hy => (Below.heap_setCell w p v i (by rintro rfl; omega)).trans (h.block i hi hx hy)⟩
theorem KeptT.setRow {x y : Nat} {a w : World} (h : KeptT x y a w) {g : Nat} (hg : a.heap.size ≤ g) (cs : Array Value) : KeptT x y a (w.setRow g cs) :=
  ⟨h.os, h.tape, h.output, by simpa using h.size, fun i hi hx hy => (setRow_other w g i cs (by omega)).trans (h.block i hi hx hy)⟩
theorem KeptT.below {x y B : Nat} {w w' : World} (h : KeptT x y w w') (hx : B ≤ x) (hy : B ≤ y) (hB : B ≤ w.heap.size) : Below B w w' := ⟨h.os, h.tape, h.output, h.size, fun b hb => h.block b (by omega) (by omega) (by omega)⟩
theorem KeptT.cell {x y b o : Nat} {w w' : World} (h : KeptT x y w w') (hb : b < w.heap.size) (hx : b ≠ x) (hy : b ≠ y) : w'.cell? ⟨b, o, none⟩ = w.cell? ⟨b, o, none⟩ := by
  simp only [World.cell?, h.block b hb hx hy]
theorem KeptT.frozen {x y b o : Nat} {w w' : World} (h : KeptT x y w w') (hb : b < w.heap.size) (hx : b ≠ x) (hy : b ≠ y) : w'.frozen? ⟨b, o, none⟩ = w.frozen? ⟨b, o, none⟩ := by
  simp only [World.frozen?, h.block b hb hx hy]
theorem KeptT.range {x y b o : Nat} {cs : List Value} {w w' : World} (h : KeptT x y w w') (hr : w.rangeAt b o cs) (hb : b < w.heap.size) (hx : b ≠ x) (hy : b ≠ y) : w'.rangeAt b o cs := fun j v hv => by
  rw [h.cell hb hx hy]; exact hr j v hv
theorem KeptT.row {x y b : Nat} {t : TypeId} {n : Nat} {f : Nat → Value} {w w' : World} (h : KeptT x y w w') (hr : Row w b t n f) (hx : b ≠ x) (hy : b ≠ y) : Row w' b t n f := hr.of_block (h.block b hr.lt hx hy)
/-- the three variables of take: whether all went well, how many were taken, the proof; t times it was called -/
structure TkSt (w : World) (bk ba bp : Nat) (a : Option Addr) (cap : Nat) (H : List HF) (t : Nat) : Prop where
  ok : w.cell? ⟨bk, 0, none⟩ = some (.bool (decide (t ≤ H.length)))
  okf : w.frozen? ⟨bk, 0, none⟩ = false
  num : w.cell? ⟨ba, 0, none⟩ = some (.int .i64 ((min t H.length : Nat) : Int))
  numf : w.frozen? ⟨ba, 0, none⟩ = false
  pr : w.cell? ⟨bp, 0, none⟩ = some (.slice a H.length cap)
  le : H.length ≤ cap
  most : cap ≤ 9223372036854775807
  row : 0 < H.length → ∃ b off : Nat, a = some ⟨b, off, none⟩ ∧ HR w b off H ∧ b < bp
  lt1 : bp < ba
  lt2 : ba < bk
  size : bk < w.heap.size
theorem TkSt.kept {w w' : World} {bk ba bp : Nat} {a : Option Addr} {cap : Nat} {H : List HF} {t : Nat} (h : TkSt w bk ba bp a cap H t) (hb : Below w.heap.size w w') : TkSt w' bk ba bp a cap H t := by
  have h1 := h.lt1; have h2 := h.lt2; have h3 := h.size
  refine ⟨?_, ?_, ?_, ?_, ?_, h.le, h.most, fun hp => ?_, h1, h2, by have := hb.size; omega⟩
  · rw [hb.cell (p := ⟨bk, 0, none⟩) (by show bk < _; omega)]; exact h.ok
  · rw [hb.frozen (p := ⟨bk, 0, none⟩) (by show bk < _; omega)]; exact h.okf
  · rw [hb.cell (p := ⟨ba, 0, none⟩) (by show ba < _; omega)]; exact h.num
  · rw [hb.frozen (p := ⟨ba, 0, none⟩) (by show ba < _; omega)]; exact h.numf
  · rw [hb.cell (p := ⟨bp, 0, none⟩) (by show bp < _; omega)]; exact h.pr
  · obtain ⟨b, off, k1, k2, k3⟩ := h.row hp
    exact ⟨b, off, k1, k2.below hb, k3⟩
/-- how take ends -/
def TkEnd (w : World) (bk ba bp : Nat) (a : Option Addr) (cap : Nat) (H : List HF) (t : Nat) (e : Ending) (w' : World) : Prop := e = .returned (.agg (arr 32 (U8 (hg H t)))) ∧ TkSt w' bk ba bp a cap H (t + 1) ∧ KeptT ba bk w w'
theorem hg_out {H : List HF} {t : Nat} (h : H.length ≤ t) : hg H t = fun _ => 0 := by unfold hg; rw [List.getD_eq_getElem?_getD, List.getElem?_eq_none h]; rfl
set_option maxHeartbeats 2000000 in
set_option maxRecDepth 100000 in
theorem take_out {w : World} {bk ba bp : Nat} {a : Option Addr} {cap : Nat} {H : List HF} {t : Nat} (h : TkSt w bk ba bp a cap H t) (ht : H.length ≤ t) :
    Calls Try.prog 58 #[.pointer (some ⟨bk, 0, none⟩), .pointer (some ⟨ba, 0, none⟩), .pointer (some ⟨bp, 0, none⟩)] w (TkEnd w bk ba bp a cap H t) := by
  have HS := Lib.hid h
  have h1 := h.lt1; have h2 := h.lt2; have h3 := h.size
  have hz := hg_out ht
  have HZ := Lib.hid hz
  have S1 := h.kept ((Below.refl w.heap.size w).alloc (Nat.le_refl _) (.cells (arr 32 fun _ => .int .u8 0) 24))
  have r0 : Row (w.alloc (.cells (arr 32 fun _ => .int .u8 0) 24)) w.heap.size 24 32 (U8 fun _ => 0) := Row.newArr w 24 32 _
  have hK := (KeptT.refl ba bk w).alloc (.cells (arr 32 fun _ => .int .u8 0) 24)
  clear h hz
  go_enter Try.func58, Try.ntmps58
  go_upto_region 1 with ((with_reducible refine wpList_alloc_is ?_ 24 ?_ 32 (.int .u8 0) ?_ ?_); rfl; rfl; kernel_rfl)
  generalize (w.alloc (.cells (arr 32 fun _ => .int .u8 0) 24)) = w1 at *
  have k2 := S1.okf
  have k3 := S1.num
  have k4 := S1.pr
  rw [Nat.min_eq_right ht] at k3
  have r1 : Row (w1.setCell ⟨bk, 0, none⟩ (.bool false)) w.heap.size 24 32 (U8 fun _ => 0) := r0.far (p := ⟨bk, 0, none⟩) (by show w.heap.size ≠ bk; omega) _
  have hend : Hid (∀ e : Ending, e = .returned (.agg (arr 32 (U8 fun _ => 0))) → TkEnd w bk ba bp a cap H t e ((w1.setCell ⟨bk, 0, none⟩ (.bool false)).setRow w.heap.size (arr 32 (U8 fun _ => 0)))) := fun e he => by
    have hK2 := (hK.setCell (p := ⟨bk, 0, none⟩) (.inr (.inl rfl)) (.bool false)).setRow (g := w.heap.size) (Nat.le_refl _) (arr 32 (U8 fun _ => 0))
    have hq := HS.out
    have c : ∀ b, b < w.heap.size → b ≠ bk → ∀ o, ((w1.setCell ⟨bk, 0, none⟩ (.bool false)).setRow w.heap.size (arr 32 (U8 fun _ => 0))).cell? ⟨b, o, none⟩ = w1.cell? ⟨b, o, none⟩ := fun b hb hne o => by
      simp only [World.cell?, setRow_other _ _ _ _ (show b ≠ w.heap.size by omega), Below.heap_setCell w1 ⟨bk, 0, none⟩ (.bool false) b hne]
    have f : ∀ b, b < w.heap.size → b ≠ bk → ∀ o, ((w1.setCell ⟨bk, 0, none⟩ (.bool false)).setRow w.heap.size (arr 32 (U8 fun _ => 0))).frozen? ⟨b, o, none⟩ = w1.frozen? ⟨b, o, none⟩ := fun b hb hne o => by
      simp only [World.frozen?, setRow_other _ _ _ _ (show b ≠ w.heap.size by omega), Below.heap_setCell w1 ⟨bk, 0, none⟩ (.bool false) b hne]
    refine ⟨by rw [he, HZ.out], ⟨?_, ?_, ?_, ?_, ?_, hq.le, hq.most, fun hp => ?_, h1, h2, ?_⟩, hK2⟩
    · rw [show decide (t + 1 ≤ H.length) = false from decide_eq_false (by omega)]
      rw [show ((w1.setCell ⟨bk, 0, none⟩ (.bool false)).setRow w.heap.size (arr 32 (U8 fun _ => 0))).cell? ⟨bk, 0, none⟩ = (w1.setCell ⟨bk, 0, none⟩ (.bool false)).cell? ⟨bk, 0, none⟩ by simp only [World.cell?, setRow_other _ _ _ _ (show bk ≠ w.heap.size by omega)]]
      exact World.cell?_setCell_same' _ _ _ (by rw [S1.ok]; rfl)
    · rw [show ((w1.setCell ⟨bk, 0, none⟩ (.bool false)).setRow w.heap.size (arr 32 (U8 fun _ => 0))).frozen? ⟨bk, 0, none⟩ = (w1.setCell ⟨bk, 0, none⟩ (.bool false)).frozen? ⟨bk, 0, none⟩ by simp only [World.frozen?, setRow_other _ _ _ _ (show bk ≠ w.heap.size by omega)], World.frozen?_setCell]
      exact k2
    · rw [c ba (by omega) (by omega), k3, Nat.min_eq_right (by omega)]
    · rw [f ba (by omega) (by omega)]; exact S1.numf
    · rw [c bp (by omega) (by omega)]; exact k4
    · obtain ⟨b, off, e1, e2, e3⟩ := hq.row hp
      exact ⟨b, off, e1, hK2.range e2 (by omega) (by omega) (by omega), e3⟩
    · have := hK2.size; omega
  by_cases hlen : t = H.length
  · have k1 := S1.ok
    rw [decide_eq_true (show t ≤ H.length by omega)] at k1
    clear S1 hK r0 hlen
    generalize H.length = n at *
    go_wp2_with (first | ((with_reducible refine wpList_load_h ?_ (.tmp 3) ?_ w.heap.size 0 ?_ (fun _ => 0) (row_range r1) ?_); rfl; rfl; rfl) | ((with_reducible refine wpList_store_is ?_ 24 (.tmp 3) (.tmp 18) ?_ w.heap.size 32 (U8 fun _ => 0) _ ?_ ?_ 24 r1 ?_ ?_ ?_); rfl; rfl; rfl; rfl; kernel_rfl; exact fun _ _ => rfl))
    refine ret_row rfl w.heap.size rfl (r1.setRow _) Try.underlying24 (by rw [size_arr]; kernel_rfl) rfl (hend.out _ rfl)
  · have k1 := S1.ok
    rw [decide_eq_false (show ¬ t ≤ H.length by omega)] at k1
    clear S1 hK r0 hlen
    generalize H.length = n at *
    go_wp2_with (first | ((with_reducible refine wpList_load_h ?_ (.tmp 3) ?_ w.heap.size 0 ?_ (fun _ => 0) (row_range r1) ?_); rfl; rfl; rfl) | ((with_reducible refine wpList_store_is ?_ 24 (.tmp 3) (.tmp 18) ?_ w.heap.size 32 (U8 fun _ => 0) _ ?_ ?_ 24 r1 ?_ ?_ ?_); rfl; rfl; rfl; rfl; kernel_rfl; exact fun _ _ => rfl))
    refine ret_row rfl w.heap.size rfl (r1.setRow _) Try.underlying24 (by rw [size_arr]; kernel_rfl) rfl (hend.out _ rfl)
set_option maxHeartbeats 2000000 in
set_option maxRecDepth 100000 in
theorem take_in {w : World} {bk ba bp : Nat} {a : Option Addr} {cap : Nat} {H : List HF} {t : Nat} (h : TkSt w bk ba bp a cap H t) (ht : t < H.length) :
    Calls Try.prog 58 #[.pointer (some ⟨bk, 0, none⟩), .pointer (some ⟨ba, 0, none⟩), .pointer (some ⟨bp, 0, none⟩)] w (TkEnd w bk ba bp a cap H t) := by
  have HS := Lib.hid h
  have h1 := h.lt1; have h2 := h.lt2; have h3 := h.size; have h4 := h.le; have h5 := h.most
  obtain ⟨b, off, hae, hR, hbp⟩ := h.row (by omega)
  have S1 := h.kept ((Below.refl w.heap.size w).alloc (Nat.le_refl _) (.cells (arr 32 fun _ => .int .u8 0) 24))
  have r0 : Row (w.alloc (.cells (arr 32 fun _ => .int .u8 0) 24)) w.heap.size 24 32 (fun _ => .int .u8 0) := Row.newArr w 24 32 _
  have hK := (KeptT.refl ba bk w).alloc (.cells (arr 32 fun _ => .int .u8 0) 24)
  have hg1 := range_below (hR.get t ht) ((Below.refl w.heap.size w).alloc (Nat.le_refl _) (.cells (arr 32 fun _ => .int .u8 0) 24)) (by omega)
  rw [hg_eq] at hg1
  obtain ⟨f, hfe⟩ : ∃ f, hg H t = f := ⟨_, rfl⟩
  rw [hfe] at hg1
  have HF' := Lib.hid hfe
  clear h hR hfe
  subst hae
  go_enter Try.func58, Try.ntmps58
  go_upto_region 1 with ((with_reducible refine wpList_alloc_is ?_ 24 ?_ 32 (.int .u8 0) ?_ ?_); rfl; rfl; kernel_rfl)
  generalize (w.alloc (.cells (arr 32 fun _ => .int .u8 0) 24)) = w1 at *
  have k1 := S1.ok
  rw [decide_eq_true (show t ≤ H.length by omega)] at k1
  have k2 := S1.okf
  have k3 := S1.num
  have k4 := S1.pr
  have k5 := S1.numf
  rw [Nat.min_eq_left (by omega)] at k3
  have r1 : Row (w1.setCell ⟨bk, 0, none⟩ (.bool true)) w.heap.size 24 32 (fun _ => .int .u8 0) := r0.far (p := ⟨bk, 0, none⟩) (by show w.heap.size ≠ bk; omega) _
  have hg2 : (w1.setCell ⟨bk, 0, none⟩ (.bool true)).rangeAt b (off + t * 32) (hc f) := fun j v hv => by
    rw [World.cell?_setCell_other _ _ _ _ (by intro e; injection e with e; omega)]; exact hg1 j v hv
  have r2 := r1.setRow (U8 f)
  have e1 : ∀ x o, x ≠ w.heap.size → ((w1.setCell ⟨bk, 0, none⟩ (.bool true)).setRow w.heap.size (arr 32 (U8 f))).cell? ⟨x, o, none⟩ = (w1.setCell ⟨bk, 0, none⟩ (.bool true)).cell? ⟨x, o, none⟩ := fun x o hx => by simp only [World.cell?, setRow_other _ _ _ _ hx]
  have e2 : ∀ x o, x ≠ w.heap.size → ((w1.setCell ⟨bk, 0, none⟩ (.bool true)).setRow w.heap.size (arr 32 (U8 f))).frozen? ⟨x, o, none⟩ = (w1.setCell ⟨bk, 0, none⟩ (.bool true)).frozen? ⟨x, o, none⟩ := fun x o hx => by simp only [World.frozen?, setRow_other _ _ _ _ hx]
  have m1 : ((w1.setCell ⟨bk, 0, none⟩ (.bool true)).setRow w.heap.size (arr 32 (U8 f))).cell? ⟨ba, 0, none⟩ = some (.int .i64 (t : Int)) := by
    rw [e1 _ _ (by omega), World.cell?_setCell_other _ _ _ _ (by intro e; injection e with e; omega)]; exact k3
  have m2 : ((w1.setCell ⟨bk, 0, none⟩ (.bool true)).setRow w.heap.size (arr 32 (U8 f))).frozen? ⟨ba, 0, none⟩ = false := by
    rw [e2 _ _ (by omega), World.frozen?_setCell]; exact k5
  have r3 : Row (((w1.setCell ⟨bk, 0, none⟩ (.bool true)).setRow w.heap.size (arr 32 (U8 f))).setCell ⟨ba, 0, none⟩ (.int .i64 ((t : Int) + 1))) w.heap.size 24 32 (U8 f) := r2.far (p := ⟨ba, 0, none⟩) (by show w.heap.size ≠ ba; omega) _
  have hend : Hid (∀ e : Ending, e = .returned (.agg (arr 32 (U8 f))) → TkEnd w bk ba bp (some ⟨b, off, none⟩) cap H t e ((((w1.setCell ⟨bk, 0, none⟩ (.bool true)).setRow w.heap.size (arr 32 (U8 f))).setCell ⟨ba, 0, none⟩ (.int .i64 ((t : Int) + 1))).setRow w.heap.size (arr 32 (U8 f)))) := fun e he => by
    have hK2 := (((hK.setCell (p := ⟨bk, 0, none⟩) (.inr (.inl rfl)) (.bool true)).setRow (g := w.heap.size) (Nat.le_refl _) (arr 32 (U8 f))).setCell (p := ⟨ba, 0, none⟩) (.inl rfl) (.int .i64 ((t : Int) + 1))).setRow (g := w.heap.size) (Nat.le_refl _) (arr 32 (U8 f))
    have hq := HS.out
    have c : ∀ x, x ≠ w.heap.size → (((( w1.setCell ⟨bk, 0, none⟩ (.bool true)).setRow w.heap.size (arr 32 (U8 f))).setCell ⟨ba, 0, none⟩ (.int .i64 ((t : Int) + 1))).setRow w.heap.size (arr 32 (U8 f))).cell? ⟨x, 0, none⟩ = (((w1.setCell ⟨bk, 0, none⟩ (.bool true)).setRow w.heap.size (arr 32 (U8 f))).setCell ⟨ba, 0, none⟩ (.int .i64 ((t : Int) + 1))).cell? ⟨x, 0, none⟩ := fun x hx => by simp only [World.cell?, setRow_other _ _ _ _ hx]
    have d : ∀ x, x ≠ w.heap.size → (((( w1.setCell ⟨bk, 0, none⟩ (.bool true)).setRow w.heap.size (arr 32 (U8 f))).setCell ⟨ba, 0, none⟩ (.int .i64 ((t : Int) + 1))).setRow w.heap.size (arr 32 (U8 f))).frozen? ⟨x, 0, none⟩ = (((w1.setCell ⟨bk, 0, none⟩ (.bool true)).setRow w.heap.size (arr 32 (U8 f))).setCell ⟨ba, 0, none⟩ (.int .i64 ((t : Int) + 1))).frozen? ⟨x, 0, none⟩ := fun x hx => by simp only [World.frozen?, setRow_other _ _ _ _ hx]
    refine ⟨by rw [he, HF'.out], ⟨?_, ?_, ?_, ?_, ?_, hq.le, hq.most, fun hp => ?_, h1, h2, ?_⟩, hK2⟩
    · rw [show decide (t + 1 ≤ H.length) = true from decide_eq_true (by omega), c bk (by omega), World.cell?_setCell_other _ _ _ _ (by intro e; injection e with e; omega), e1 bk 0 (by omega)]
      exact World.cell?_setCell_same' _ _ _ (by rw [k1]; rfl)
    · rw [d bk (by omega), World.frozen?_setCell, e2 bk 0 (by omega), World.frozen?_setCell]; exact k2
    · rw [c ba (by omega), Nat.min_eq_left (by omega)]
      rw [World.cell?_setCell_same' _ _ _ (by rw [m1]; rfl)]
      rfl
    · rw [d ba (by omega), World.frozen?_setCell]; exact m2
    · rw [c bp (by omega), World.cell?_setCell_other _ _ _ _ (by intro e; injection e with e; omega), e1 bp 0 (by omega), World.cell?_setCell_other _ _ _ _ (by intro e; injection e with e; omega)]; exact k4
    · obtain ⟨b', off', q1, q2, q3⟩ := hq.row hp
      exact ⟨b', off', q1, hK2.range q2 (by omega) (by omega) (by omega), q3⟩
    · have := hK2.size; omega
  clear S1 hK r0 hg1 e1 e2
  have t1 : ((t : Int) < (H.length : Int)) = True := by simp; omega
  have HT := Lib.hid ht
  generalize H.length = n at *
  go_wp2_with (first | ((with_reducible refine wpList_load_h ?_ (.tmp 14) ?_ b (off + t * 32) ?_ f hg2 ?_); rfl; rfl; rfl) | ((with_reducible refine wpList_store_is ?_ 24 (.tmp 3) (.tmp 15) ?_ w.heap.size 32 (U8 f) _ ?_ ?_ 24 r1 ?_ ?_ ?_); rfl; rfl; rfl; rfl; kernel_rfl; exact fun _ _ => rfl) | ((with_reducible refine wpList_load_h ?_ (.tmp 3) ?_ w.heap.size 0 ?_ f (row_range r3) ?_); rfl; rfl; rfl) | ((with_reducible refine wpList_store_is ?_ 24 (.tmp 3) (.tmp 18) ?_ w.heap.size 32 (U8 f) _ ?_ ?_ 24 r3 ?_ ?_ ?_); rfl; rfl; rfl; rfl; kernel_rfl; exact fun _ _ => rfl))
  refine ret_row rfl w.heap.size rfl (r3.setRow _) Try.underlying24 (by rw [size_arr]; kernel_rfl) rfl (hend.out _ rfl)
theorem take_any {w : World} {bk ba bp : Nat} {a : Option Addr} {cap : Nat} {H : List HF} {t : Nat} (h : TkSt w bk ba bp a cap H t) :
    Calls Try.prog 58 #[.pointer (some ⟨bk, 0, none⟩), .pointer (some ⟨ba, 0, none⟩), .pointer (some ⟨bp, 0, none⟩)] w (TkEnd w bk ba bp a cap H t) := by
  rcases Nat.lt_or_ge t H.length with ht | ht
  · exact take_in h ht
  · exact take_out h ht
end Go.Proofs.Ytijhdfllffkfjaa
