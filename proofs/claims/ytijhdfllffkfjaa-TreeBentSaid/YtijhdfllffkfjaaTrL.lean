/- The examples that every law of trees includes. -/
import Derived.Test.YtijhdfllffkfjaaTrK
import Derived.Deep.Cut
namespace Go.Proofs.Ytijhdfllffkfjaa
open Go.RowKit

/-- the four strings -/
def exL : List (List UInt8) := [[97], [98], [99], [100]]
abbrev la : HF := leafS [97]
abbrev lb : HF := leafS [98]
abbrev lc : HF := leafS [99]
abbrev ld : HF := leafS [100]
theorem half2 : halfN 2 = 1 := by decide +kernel
theorem half3 : halfN 3 = 2 := by decide +kernel
theorem half4 : halfN 4 = 2 := by decide +kernel
theorem root_one (s : List UInt8) : rootS [s] = leafS s := rootS_1 rfl
theorem root_two (s t : List UInt8) : rootS [s, t] = nodeS (leafS s) (leafS t) := by
  rw [rootS_2 (Nat.le_refl _)]
  show nodeS (rootS (List.take (halfN 2) [s, t])) (rootS (List.drop (halfN 2) [s, t])) = _
  rw [half2]
  exact congr (congrArg nodeS (root_one s)) (root_one t)
theorem ex_root : rootS (exL.take 3) = nodeS (nodeS la lb) lc := by
  rw [rootS_2 (by decide)]
  show nodeS (rootS (List.take (halfN 3) (exL.take 3))) (rootS (List.drop (halfN 3) (exL.take 3))) = _
  rw [half3]
  exact congr (congrArg nodeS (root_two [97] [98])) (root_one [99])
theorem ex_path2 : pathS (exL.take 3) 2 = [nodeS la lb] := by
  have h : ¬ 2 < halfN (exL.take 3).length := by show ¬ 2 < halfN 3; rw [half3]; decide
  rw [pathS_hi (by decide) h]
  show pathS (List.drop (halfN 3) (exL.take 3)) (2 - halfN 3) ++ [rootS (List.take (halfN 3) (exL.take 3))] = _
  rw [half3, pathS_1 (by decide)]
  exact congrArg (fun x => [x]) (root_two [97] [98])
theorem ex_path0 : pathS (exL.take 3) 0 = [lb, lc] := by
  have h : 0 < halfN (exL.take 3).length := by show 0 < halfN 3; rw [half3]; decide
  rw [pathS_lo (by decide) h]
  show pathS (List.take (halfN 3) (exL.take 3)) 0 ++ [rootS (List.drop (halfN 3) (exL.take 3))] = _
  rw [half3]
  have h2 : 0 < halfN (List.take 2 (exL.take 3)).length := by show 0 < halfN 2; rw [half2]; decide
  rw [pathS_lo (by decide) h2]
  show (pathS (List.take (halfN 2) (List.take 2 (exL.take 3))) 0 ++ [rootS (List.drop (halfN 2) (List.take 2 (exL.take 3)))]) ++ [rootS (List.drop 2 (exL.take 3))] = _
  rw [half2, pathS_1 (by decide)]
  show [rootS [[98]], rootS [[99]]] = _
  rw [root_one, root_one]
theorem ex_grow2 : growthS (exL.take 3) 2 = [lc] := by
  show growS (exL.take 3) 2 true = _
  rw [growS_lo (by decide) (by decide) (by show 2 ≤ halfN 3; rw [half3]; decide)]
  show growS (List.take (halfN 3) (exL.take 3)) 2 true ++ [rootS (List.drop (halfN 3) (exL.take 3))] = _
  rw [half3, growS_eq (by decide)]
  exact congrArg (fun x => [x]) (root_one [99])
theorem ex_grow3 : growthS exL 3 = [lc, ld, nodeS la lb] := by
  show growS exL 3 true = _
  rw [growS_hi (by decide) (by decide) (by show ¬ 3 ≤ halfN 4; rw [half4]; decide)]
  show growS (List.drop (halfN 4) exL) (3 - halfN 4) false ++ [rootS (List.take (halfN 4) exL)] = _
  rw [half4, growS_lo (by decide) (by decide) (by show 1 ≤ halfN 2; rw [half2]; decide)]
  show (growS (List.take (halfN 2) (List.drop 2 exL)) 1 false ++ [rootS (List.drop (halfN 2) (List.drop 2 exL))]) ++ [rootS (List.take 2 exL)] = _
  rw [half2, growS_eq (by decide)]
  show [rootS [[99]], rootS [[100]], rootS [[97], [98]]] = _
  rw [root_one, root_one, root_two]
theorem ex_grow1 : growthS (exL.take 3) 1 = [lb, lc] := by
  show growS (exL.take 3) 1 true = _
  rw [growS_lo (by decide) (by decide) (by show 1 ≤ halfN 3; rw [half3]; decide)]
  show growS (List.take (halfN 3) (exL.take 3)) 1 true ++ [rootS (List.drop (halfN 3) (exL.take 3))] = _
  rw [half3, growS_lo (by decide) (by decide) (by show 1 ≤ halfN 2; rw [half2]; decide)]
  show (growS (List.take (halfN 2) (List.take 2 (exL.take 3))) 1 true ++ [rootS (List.drop (halfN 2) (List.take 2 (exL.take 3)))]) ++ [rootS (List.drop 2 (exL.take 3))] = _
  rw [half2, growS_eq (by decide)]
  show [rootS [[98]], rootS [[99]]] = _
  rw [root_one, root_one]
theorem ex_zero : decide (hl la 32 = hl (fun _ => 0) 32) = false := by decide +kernel
/-- a fresh slice of hashes -/
def NewH (H : List HF) (v : Value) (w : World) : Prop := ∃ g : Nat, v = .slice (some ⟨g, 0, none⟩) H.length H.length ∧ HR w g 0 H
theorem NewH.slice {H : List HF} {v : Value} {w : World} (h : NewH H v w) (hm : H.length ≤ 1000) : HSlice w v H := by
  obtain ⟨g, h1, h2⟩ := h
  exact .inr ⟨g, 0, H.length, h1, h2, Nat.le_refl _, by omega⟩
theorem NewH.stable {H : List HF} (v : Value) : Stable (NewH H v) := fun _ _ ⟨g, h, hr⟩ hb => ⟨g, h, hr.below hb⟩
theorem HR.new (w : World) (H : List HF) (t : TypeId) : HR (w.alloc (.cells (HC H).toArray t)) w.heap.size 0 H := fun j v hv => by
  rw [cell_of_row _ _ _ _ t (0, 0) (heap_alloc_new w _)]
  simpa using hv
theorem fill_hash2 (f g : HF) : Instr.fill (fun i => some (i * 32, 32)) ((Array.range (2 * 32)).map ((Value.agg (arr 32 fun _ => .int .u8 0)).cells[· % (Value.agg (arr 32 fun _ => .int .u8 0)).cells.size]!)) [(0, .agg (arr 32 (U8 f))), (1, .agg (arr 32 (U8 g)))] = some (HC [f, g]).toArray := by kernel_rfl
theorem fill_hash3 (f g h : HF) : Instr.fill (fun i => some (i * 32, 32)) ((Array.range (3 * 32)).map ((Value.agg (arr 32 fun _ => .int .u8 0)).cells[· % (Value.agg (arr 32 fun _ => .int .u8 0)).cells.size]!)) [(0, .agg (arr 32 (U8 f))), (1, .agg (arr 32 (U8 g))), (2, .agg (arr 32 (U8 h)))] = some (HC [f, g, h]).toArray := by kernel_rfl
section
variable {ops : Array Oper} {rest : List Oper} {o : Oper} {a : Act} {w : World} {Q : Exit → Act → World → Prop}
theorem wpList_slice_h1 (hgd : o.guard = none) (x : Operand) (ho : o.op = .buildSlice 38 1 #[(0, x)]) (f : HF) (hx : a.eval x = .agg (arr 32 (U8 f)))
    (h : ∀ v w', Below w.heap.size w w' → NewH [f] v w' → wpList Try.prog ops Q rest (a.put o.dst v) w') : wpList Try.prog ops Q (o :: rest) a w :=
  wpList_slice_h hgd x ho f hx (h _ _ ((Below.refl _ _).alloc (Nat.le_refl _) _) ⟨_, rfl, by unfold HR; rw [HC_one]; exact row_range (Row.newArr _ _ _ _)⟩)
theorem wpList_slice_h2 (hgd : o.guard = none) (x y : Operand) (ho : o.op = .buildSlice 38 2 #[(0, x), (1, y)]) (f g : HF) (hx : a.eval x = .agg (arr 32 (U8 f))) (hy : a.eval y = .agg (arr 32 (U8 g)))
    (h : ∀ v w', Below w.heap.size w w' → NewH [f, g] v w' → wpList Try.prog ops Q rest (a.put o.dst v) w') : wpList Try.prog ops Q (o :: rest) a w := by
  obtain ⟨i0, hi, hz0, hz1, hz2⟩ := info_parts Try.infoHash
  refine wpList_buildSlice hgd 38 24 2 _ ho (HC [f, g]).toArray i0 _ Try.underlying38 hi hz0 (by rw [hz1]; decide) (by rw [hz1]; decide) ?_ (h _ _ ((Below.refl _ _).alloc (Nat.le_refl _) _) ⟨_, rfl, HR.new _ _ _⟩)
  rw [hz1]
  simp only [List.map_toArray, List.map_cons, List.map_nil, hx, hy]
  exact fill_hash2 f g
theorem wpList_slice_h3 (hgd : o.guard = none) (x y z : Operand) (ho : o.op = .buildSlice 38 3 #[(0, x), (1, y), (2, z)]) (f g k : HF) (hx : a.eval x = .agg (arr 32 (U8 f))) (hy : a.eval y = .agg (arr 32 (U8 g))) (hz : a.eval z = .agg (arr 32 (U8 k)))
    (h : ∀ v w', Below w.heap.size w w' → NewH [f, g, k] v w' → wpList Try.prog ops Q rest (a.put o.dst v) w') : wpList Try.prog ops Q (o :: rest) a w := by
  obtain ⟨i0, hi, hz0, hz1, hz2⟩ := info_parts Try.infoHash
  refine wpList_buildSlice hgd 38 24 3 _ ho (HC [f, g, k]).toArray i0 _ Try.underlying38 hi hz0 (by rw [hz1]; decide) (by rw [hz1]; decide) ?_ (h _ _ ((Below.refl _ _).alloc (Nat.le_refl _) _) ⟨_, rfl, HR.new _ _ _⟩)
  rw [hz1]
  simp only [List.map_toArray, List.map_cons, List.map_nil, hx, hy, hz]
  exact fill_hash3 f g k
end
theorem rows4 {A : World} {s : Nat} {t : TypeId} {f0 : Nat → Value} (h0 : Row A s t 32 f0) (h1 : Row A (s + 1) t 32 f0) (h2 : Row A (s + 1 + 1) t 32 f0) (h3 : Row A (s + 1 + 1 + 1) t 32 f0) (fa fb fc fd : HF) :
    Row (A.setRow s (arr 32 (U8 fa))) (s + 1) t 32 f0 ∧ Row ((A.setRow s (arr 32 (U8 fa))).setRow (s + 1) (arr 32 (U8 fb))) (s + 1 + 1) t 32 f0 ∧ Row (((A.setRow s (arr 32 (U8 fa))).setRow (s + 1) (arr 32 (U8 fb))).setRow (s + 1 + 1) (arr 32 (U8 fc))) (s + 1 + 1 + 1) t 32 f0 ∧
    Row ((((A.setRow s (arr 32 (U8 fa))).setRow (s + 1) (arr 32 (U8 fb))).setRow (s + 1 + 1) (arr 32 (U8 fc))).setRow (s + 1 + 1 + 1) (arr 32 (U8 fd))) s t 32 (U8 fa) ∧
    Row ((((A.setRow s (arr 32 (U8 fa))).setRow (s + 1) (arr 32 (U8 fb))).setRow (s + 1 + 1) (arr 32 (U8 fc))).setRow (s + 1 + 1 + 1) (arr 32 (U8 fd))) (s + 1) t 32 (U8 fb) ∧
    Row ((((A.setRow s (arr 32 (U8 fa))).setRow (s + 1) (arr 32 (U8 fb))).setRow (s + 1 + 1) (arr 32 (U8 fc))).setRow (s + 1 + 1 + 1) (arr 32 (U8 fd))) (s + 1 + 1) t 32 (U8 fc) ∧
    Row ((((A.setRow s (arr 32 (U8 fa))).setRow (s + 1) (arr 32 (U8 fb))).setRow (s + 1 + 1) (arr 32 (U8 fc))).setRow (s + 1 + 1 + 1) (arr 32 (U8 fd))) (s + 1 + 1 + 1) t 32 (U8 fd) := by
  have a1 := h1.farRow (y := s) (by omega) (arr 32 (U8 fa))
  have a2 := h2.farRow (y := s) (by omega) (arr 32 (U8 fa))
  have a3 := h3.farRow (y := s) (by omega) (arr 32 (U8 fa))
  have b2 := a2.farRow (y := s + 1) (by omega) (arr 32 (U8 fb))
  have b3 := a3.farRow (y := s + 1) (by omega) (arr 32 (U8 fb))
  have c3 := b3.farRow (y := s + 1 + 1) (by omega) (arr 32 (U8 fc))
  have r0 := (((h0.setRow (U8 fa)).farRow (y := s + 1) (by omega) (arr 32 (U8 fb))).farRow (y := s + 1 + 1) (by omega) (arr 32 (U8 fc))).farRow (y := s + 1 + 1 + 1) (by omega) (arr 32 (U8 fd))
  have r1 := ((a1.setRow (U8 fb)).farRow (y := s + 1 + 1) (by omega) (arr 32 (U8 fc))).farRow (y := s + 1 + 1 + 1) (by omega) (arr 32 (U8 fd))
  have r2 := (b2.setRow (U8 fc)).farRow (y := s + 1 + 1 + 1) (by omega) (arr 32 (U8 fd))
  exact ⟨a1, b2, c3, r0, r1, r2, c3.setRow (U8 fd)⟩
def IsTrue (v : Value) (_ : World) : Prop := v = .bool true
theorem IsTrue.stable (v : Value) : Stable (IsTrue v) := fun _ _ h _ => h
theorem same_self {H : List HF} {u v : Value} {w : World} (h1 : HSlice w u H) (h2 : HSlice w v H) : Calls Try.prog 29 #[u, v] w (Said true w) := by
  have := same_any h1 h2
  rwa [show sameB H H = true from decide_eq_true rfl] at this
theorem leaf_arr {s : List UInt8} {w : World} (hs : s.length ≤ 140737488355000) : Calls Try.prog 14 #[.string (bs s)] w fun e w' => e = .returned (.agg (arr 32 (U8 (leafS s)))) ∧ Below w.heap.size w w' := leaf_any hs
theorem quiet_load_c {op : Oper} {a : Act} {w : World} {c : Cls w} {K : Act → Prop} (x : Operand) (ho : op.op = .load 24 x) (b off : Nat) (hx : a.eval x = .pointer (some ⟨b, off, none⟩)) (f : HF) (hr : w.rangeAt b off (hc f))
    (h : K (a.put op.dst (.agg (arr 32 (U8 f))))) : op.quiet Try.prog a (fun w' => ∃ e : c.El, w' = e.at) K := by
  refine ⟨_, ?_, h⟩
  rintro w' ⟨ex, rfl⟩
  unfold Oper.quietAt execOp
  simp only [ho, hx, Sem.run_bind, load_h (range_below hr ex.below (range_lt hr)), Sem.run_pure]
  exact ⟨rfl, rfl⟩
attribute [local go_sem] bareOp
theorem wpList_bare {P : Program} {ops : Array Oper} {rest : List Oper} {o : Oper} {a : Act} {w : World} {Q : Exit → Act → World → Prop} (hw : Region.wanted o (yielded ops a.tmps) = true) (h : wpList P ops Q (bareOp o :: rest) a w) : wpList P ops Q (o :: rest) a w := by
  unfold wpList at h ⊢
  rw [if_pos hw]
  rwa [if_pos (by rfl)] at h
/-- what the examples lie in -/
structure Ex (V : World) (s b p : Nat) : Prop where
  ra : Row V s 24 32 (U8 la)
  rb : Row V (s + 1) 24 32 (U8 lb)
  rc : Row V (s + 1 + 1) 24 32 (U8 lc)
  rd : Row V (s + 1 + 1 + 1) 24 32 (U8 ld)
  rl : SRow V b 0 exL
  rab : Row V p 24 32 (U8 (nodeS la lb))
theorem Ex.below {V V' : World} {s b p : Nat} (h : Ex V s b p) (hb : Below V.heap.size V V') : Ex V' s b p :=
  ⟨h.ra.belowAll hb, h.rb.belowAll hb, h.rc.belowAll hb, h.rd.belowAll hb, h.rl.below hb, h.rab.belowAll hb⟩
theorem Ex.three {V : World} {s b p : Nat} (h : Ex V s b p) : SSlice V (.slice (some ⟨b, 0, none⟩) 3 4) (exL.take 3) := .inr ⟨b, 0, 4, rfl, h.rl.take 3, by decide, by decide⟩
theorem Ex.four {V : World} {s b p : Nat} (h : Ex V s b p) : SSlice V (.slice (some ⟨b, 0, none⟩) 4 4) exL := .inr ⟨b, 0, 4, rfl, h.rl, by decide, by decide⟩
theorem exL_fits : Fits exL := fun s hs => by
  simp only [exL, List.mem_cons, List.not_mem_nil, or_false] at hs
  rcases hs with rfl | rfl | rfl | rfl <;> decide
theorem exL_row (W : World) : SRow (W.alloc (.cells #[.string ⟨#[97]⟩, .string ⟨#[98]⟩, .string ⟨#[99]⟩, .string ⟨#[100]⟩] 9)) W.heap.size 0 exL := fun i hi => by
  rw [cell_of_row _ _ _ _ 9 (0, 0) (heap_alloc_new W _)]
  have : i = 0 ∨ i = 1 ∨ i = 2 ∨ i = 3 := by simp [exL] at hi; omega
  rcases this with rfl | rfl | rfl | rfl <;> rfl
theorem ex_path {V : World} {s b p n : Nat} {H : List HF} (h : Ex V s b p) (hn : n < 3) (e : pathS (exL.take 3) n = H) : Calls Try.prog 28 #[.slice (some ⟨b, 0, none⟩) 3 4, .int .i64 (n : Int)] V (ListTrue V H) := by
  subst e
  exact path_loop (L := exL.take 3) (exL_fits.take 3) (h.rl.take 3) (by decide) (by decide) hn (by decide)
theorem ex_growth3 {V : World} {s b p n : Nat} {H : List HF} (h : Ex V s b p) (hn : n ≤ 3) (e : growthS (exL.take 3) n = H) : Calls Try.prog 34 #[.slice (some ⟨b, 0, none⟩) 3 4, .int .i64 (n : Int)] V (ListTrue V H) := by
  have := growth_any (m := (n : Int)) (exL_fits.take 3) h.three
  rw [if_pos ⟨by omega, by show (n : Int) ≤ 3; omega⟩, Int.toNat_natCast, e] at this
  exact this
theorem ex_growth4 {V : World} {s b p n : Nat} {H : List HF} (h : Ex V s b p) (hn : n ≤ 4) (e : growthS exL n = H) : Calls Try.prog 34 #[.slice (some ⟨b, 0, none⟩) 4 4, .int .i64 (n : Int)] V (ListTrue V H) := by
  have := growth_any (m := (n : Int)) exL_fits h.four
  rw [if_pos ⟨by omega, by show (n : Int) ≤ 4; omega⟩, Int.toNat_natCast, e] at this
  exact this
theorem build_zero : Try.prog.built 24 [] = some (arr 32 fun _ => .int .u8 0) := by kernel_rfl
theorem wpList_build_zero {ops : Array Oper} {rest : List Oper} {o : Oper} {a : Act} {w : World} {Q : Exit → Act → World → Prop} (hg : o.guard = none) (ho : o.op = .build 24 #[])
    (h : wpList Try.prog ops Q rest (a.put o.dst (.agg (arr 32 fun _ => .int .u8 0))) w) : wpList Try.prog ops Q (o :: rest) a w :=
  wpList_build_is hg 24 #[] ho _ (by simpa using build_zero) h
set_option maxHeartbeats 4000000 in
set_option maxRecDepth 100000 in
theorem sanity_any {w : World} : Calls Try.prog 13 #[] w (Said true w) := by
  go_enter Try.func13, Try.ntmps13
  go_wp2_with fail
  refine (leaf_arr (s := [97]) (by decide)).mono ?_
  rintro e w1 ⟨rfl, hb1⟩
  go_wp2_with fail
  refine (leaf_arr (s := [98]) (by decide)).mono ?_
  rintro e w2 ⟨rfl, hb2⟩
  go_wp2_with fail
  refine (leaf_arr (s := [99]) (by decide)).mono ?_
  rintro e w3 ⟨rfl, hb3⟩
  go_wp2_with fail
  refine (leaf_arr (s := [100]) (by decide)).mono ?_
  rintro e w4 ⟨rfl, hb4⟩
  have z1 := hb1.size; have z2 := hb2.size; have z3 := hb3.size; have z4 := hb4.size
  have hB := ((hb1.trans (hb2.mono z1)).trans (hb3.mono (by omega))).trans (hb4.mono (by omega))
  clear hb1 hb2 hb3 hb4 z1 z2 z3 z4
  have r0 : Row ((((w4.alloc (.cells (arr 32 fun _ => .int .u8 0) 24)).alloc (.cells (arr 32 fun _ => .int .u8 0) 24)).alloc (.cells (arr 32 fun _ => .int .u8 0) 24)).alloc (.cells (arr 32 fun _ => .int .u8 0) 24)) w4.heap.size 24 32 (fun _ => .int .u8 0) := (((Row.newArr _ _ _ _).alloc _).alloc _).alloc _
  have r1 : Row ((((w4.alloc (.cells (arr 32 fun _ => .int .u8 0) 24)).alloc (.cells (arr 32 fun _ => .int .u8 0) 24)).alloc (.cells (arr 32 fun _ => .int .u8 0) 24)).alloc (.cells (arr 32 fun _ => .int .u8 0) 24)) (w4.heap.size + 1) 24 32 (fun _ => .int .u8 0) := ((Row.newAt _ _ _ _ (by simp)).alloc _).alloc _
  have r2 : Row ((((w4.alloc (.cells (arr 32 fun _ => .int .u8 0) 24)).alloc (.cells (arr 32 fun _ => .int .u8 0) 24)).alloc (.cells (arr 32 fun _ => .int .u8 0) 24)).alloc (.cells (arr 32 fun _ => .int .u8 0) 24)) (w4.heap.size + 1 + 1) 24 32 (fun _ => .int .u8 0) := (Row.newAt _ _ _ _ (by simp)).alloc _
  have r3 : Row ((((w4.alloc (.cells (arr 32 fun _ => .int .u8 0) 24)).alloc (.cells (arr 32 fun _ => .int .u8 0) 24)).alloc (.cells (arr 32 fun _ => .int .u8 0) 24)).alloc (.cells (arr 32 fun _ => .int .u8 0) 24)) (w4.heap.size + 1 + 1 + 1) 24 32 (fun _ => .int .u8 0) := Row.newAt _ _ _ _ (by simp)
  have hB2 := ((((Below.refl w4.heap.size w4).alloc (Nat.le_refl _) (.cells (arr 32 fun _ => .int .u8 0) 24)).alloc (by simp) (.cells (arr 32 fun _ => .int .u8 0) 24)).alloc (by simp; omega) (.cells (arr 32 fun _ => .int .u8 0) 24)).alloc (by simp; omega) (.cells (arr 32 fun _ => .int .u8 0) 24)
  obtain ⟨q1, q2, q3, s0, s1, s2, s3⟩ := rows4 r0 r1 r2 r3 la lb lc ld
  have hB3 := Below.setRow (Below.setRow (Below.setRow (Below.setRow hB2 (g := w4.heap.size) (Nat.le_refl _) (arr 32 (U8 la))) (g := w4.heap.size + 1) (by omega) (arr 32 (U8 lb))) (g := w4.heap.size + 1 + 1) (by omega) (arr 32 (U8 lc))) (g := w4.heap.size + 1 + 1 + 1) (by omega) (arr 32 (U8 ld))
  have hz : ((((w4.alloc (.cells (arr 32 fun _ => .int .u8 0) 24)).alloc (.cells (arr 32 fun _ => .int .u8 0) 24)).alloc (.cells (arr 32 fun _ => .int .u8 0) 24)).alloc (.cells (arr 32 fun _ => .int .u8 0) 24)).heap.size = w4.heap.size + 4 := by simp
  clear r1 r2 r3 hB2
  go_upto_region 2 with (first | ((with_reducible refine wpList_alloc_is ?_ 24 ?_ 32 (.int .u8 0) ?_ ?_); rfl; rfl; kernel_rfl; (try simp only [World.size_alloc])) | ((with_reducible refine wpList_store_is ?_ 24 (.tmp 1) (.tmp 18) ?_ w4.heap.size 32 (U8 la) _ ?_ ?_ 24 r0 ?_ ?_ ?_); rfl; rfl; rfl; rfl; kernel_rfl; exact fun _ _ => rfl) | ((with_reducible refine wpList_store_is ?_ 24 (.tmp 2) (.tmp 19) ?_ (w4.heap.size + 1) 32 (U8 lb) _ ?_ ?_ 24 q1 ?_ ?_ ?_); rfl; rfl; rfl; rfl; kernel_rfl; exact fun _ _ => rfl) | ((with_reducible refine wpList_store_is ?_ 24 (.tmp 3) (.tmp 20) ?_ (w4.heap.size + 1 + 1) 32 (U8 lc) _ ?_ ?_ 24 q2 ?_ ?_ ?_); rfl; rfl; rfl; rfl; kernel_rfl; exact fun _ _ => rfl) | ((with_reducible refine wpList_store_is ?_ 24 (.tmp 4) (.tmp 21) ?_ (w4.heap.size + 1 + 1 + 1) 32 (U8 ld) _ ?_ ?_ 24 q3 ?_ ?_ ?_); rfl; rfl; rfl; rfl; kernel_rfl; exact fun _ _ => rfl))
  generalize ((((((((w4.alloc (.cells (arr 32 fun _ => .int .u8 0) 24)).alloc (.cells (arr 32 fun _ => .int .u8 0) 24)).alloc (.cells (arr 32 fun _ => .int .u8 0) 24)).alloc (.cells (arr 32 fun _ => .int .u8 0) 24)).setRow w4.heap.size (arr 32 (U8 la))).setRow (w4.heap.size + 1) (arr 32 (U8 lb))).setRow (w4.heap.size + 1 + 1) (arr 32 (U8 lc))).setRow (w4.heap.size + 1 + 1 + 1) (arr 32 (U8 ld))) = W at *
  have hBW := hB.trans (hB3.mono hB.size)
  have zs := hB.size
  clear hB3 r0 q1 q2 q3 hz hB
  generalize w4.heap.size = s at *
  have t0 := s0.alloc (.cells #[.string ⟨#[97]⟩, .string ⟨#[98]⟩, .string ⟨#[99]⟩, .string ⟨#[100]⟩] 9)
  have t1 := s1.alloc (.cells #[.string ⟨#[97]⟩, .string ⟨#[98]⟩, .string ⟨#[99]⟩, .string ⟨#[100]⟩] 9)
  go_upto_region 4 with (first | ((with_reducible refine wpList_load_h ?_ (.tmp 1) ?_ s 0 ?_ _ (row_range t0) ?_); rfl; rfl; rfl) | ((with_reducible refine wpList_load_h ?_ (.tmp 2) ?_ (s + 1) 0 ?_ _ (row_range t1) ?_); rfl; rfl; rfl))
  have tl := exL_row W
  have t2 := s2.alloc (.cells #[.string ⟨#[97]⟩, .string ⟨#[98]⟩, .string ⟨#[99]⟩, .string ⟨#[100]⟩] 9)
  have t3 := s3.alloc (.cells #[.string ⟨#[97]⟩, .string ⟨#[98]⟩, .string ⟨#[99]⟩, .string ⟨#[100]⟩] 9)
  have hV0 := hBW.alloc hBW.size (.cells #[.string ⟨#[97]⟩, .string ⟨#[98]⟩, .string ⟨#[99]⟩, .string ⟨#[100]⟩] 9)
  generalize W.heap.size = b at *
  generalize (W.alloc (.cells #[.string ⟨#[97]⟩, .string ⟨#[98]⟩, .string ⟨#[99]⟩, .string ⟨#[100]⟩] 9)) = V0 at *
  clear s0 s1 s2 s3 hBW
  refine node_arr.mono ?_
  rintro e V1 ⟨rfl, hb1⟩
  have p0 : Row (V1.alloc (.cells (arr 32 fun _ => .int .u8 0) 24)) V1.heap.size 24 32 (fun _ => .int .u8 0) := Row.newArr _ _ _ _
  have hV1 := hV0.trans (hb1.mono hV0.size)
  have z1 := hV1.size
  have hX : Ex ((V1.alloc (.cells (arr 32 fun _ => .int .u8 0) 24)).setRow V1.heap.size (arr 32 (U8 (nodeS la lb)))) s b V1.heap.size := by
    have hb2 := Below.setRow (hb1.alloc hb1.size (.cells (arr 32 fun _ => .int .u8 0) 24)) (g := V1.heap.size) hb1.size (arr 32 (U8 (nodeS la lb)))
    exact ⟨t0.belowAll hb2, t1.belowAll hb2, t2.belowAll hb2, t3.belowAll hb2, tl.below hb2, p0.setRow _⟩
  have hV2 := Below.setRow (hV1.alloc z1 (.cells (arr 32 fun _ => .int .u8 0) 24)) (g := V1.heap.size) z1 (arr 32 (U8 (nodeS la lb)))
  clear t0 t1 t2 t3 tl
  go_upto_region 4 with (first | ((with_reducible refine wpList_alloc_is ?_ 24 ?_ 32 (.int .u8 0) ?_ ?_); rfl; rfl; kernel_rfl) | ((with_reducible refine wpList_store_is ?_ 24 (.tmp 6) (.tmp 25) ?_ V1.heap.size 32 (U8 (nodeS la lb)) _ ?_ ?_ 24 p0 ?_ ?_ ?_); rfl; rfl; rfl; rfl; kernel_rfl; exact fun _ _ => rfl))
  generalize ((V1.alloc (.cells (arr 32 fun _ => .int .u8 0) 24)).setRow V1.heap.size (arr 32 (U8 (nodeS la lb)))) = V2 at *
  generalize V1.heap.size = p at *
  clear p0
  go_wp2_with fail
  refine (ex_path hX (n := 2) (by decide) ex_path2).mono ?_
  rintro e V3 ⟨x, rfl, hx, hb3⟩
  have hV3 := hV2.trans (hb3.mono hV2.size)
  have hX3 := hX.below hb3
  go_wp2_with fail
  refine (ex_path hX3 (n := 0) (by decide) ex_path0).mono ?_
  rintro e V4 ⟨y, rfl, hy, hb4⟩
  have hV4 := hV3.trans (hb4.mono hV3.size)
  have hX4 := hX3.below hb4
  go_wp2_with fail
  refine (ex_growth3 hX4 (n := 2) (by decide) ex_grow2).mono ?_
  rintro e V5 ⟨u, rfl, hu, hb5⟩
  have hV5 := hV4.trans (hb5.mono hV4.size)
  have hX5 := hX4.below hb5
  go_wp2_with fail
  refine (ex_growth4 hX5 (n := 3) (by decide) ex_grow3).mono ?_
  rintro e V6 ⟨v, rfl, hv', hb6⟩
  have hV6 := hV5.trans (hb6.mono hV5.size)
  have hX6 := hX5.below hb6
  go_wp2_with fail
  refine (ex_growth3 hX6 (n := 1) (by decide) ex_grow1).mono ?_
  rintro e V7 ⟨r, rfl, hr', hb7⟩
  have hV7 := hV6.trans (hb7.mono hV6.size)
  have hX7 := hX6.below hb7
  have gx : HSlice V7 x [nodeS la lb] := ((((hx.slice.below hb4).below hb5).below hb6).below hb7)
  have gy : HSlice V7 y [lb, lc] := (((hy.slice.below hb5).below hb6).below hb7)
  have gu : HSlice V7 u [lc] := ((hu.slice.below hb6).below hb7)
  have gv : HSlice V7 v [lc, ld, nodeS la lb] := hv'.slice.below hb7
  have gr : HSlice V7 r [lb, lc] := hr'.slice
  have z7 := hV7.size
  clear hx hy hu hv' hr' hb1 hb3 hb4 hb5 hb6 hb7 hX hX3 hX4 hX5 hX6 hV0 hV1 hV2 hV3 hV4 hV5 hV6 z1
  have k0 : Row (V7.alloc (.cells (arr 32 fun _ => .int .u8 0) 24)) V7.heap.size 24 32 (fun _ => .int .u8 0) := Row.newArr _ _ _ _
  have hb8 := Below.setRow ((Below.refl V7.heap.size V7).alloc (Nat.le_refl _) (.cells (arr 32 fun _ => .int .u8 0) 24)) (g := V7.heap.size) (Nat.le_refl _) (arr 32 fun _ => .int .u8 0)
  have k1 : Row ((V7.alloc (.cells (arr 32 fun _ => .int .u8 0) 24)).setRow V7.heap.size (arr 32 fun _ => .int .u8 0)) V7.heap.size 24 32 (U8 fun _ => 0) := k0.setRow _
  go_upto_region 10 with (first | ((with_reducible refine wpList_build_zero ?_ ?_ ?_); rfl; rfl) | ((with_reducible refine wpList_alloc_is ?_ 24 ?_ 32 (.int .u8 0) ?_ ?_); rfl; rfl; kernel_rfl) | ((with_reducible refine wpList_store_is ?_ 24 (.tmp 17) (.tmp 55) ?_ V7.heap.size 32 (fun _ => .int .u8 0) _ ?_ ?_ 24 k0 ?_ ?_ ?_); rfl; rfl; rfl; rfl; kernel_rfl; exact fun _ _ => rfl))
  have hX8 := hX7.below hb8
  have gx8 := gx.below hb8
  have gy8 := gy.below hb8
  have gu8 := gu.below hb8
  have gv8 := gv.below hb8
  have gr8 := gr.below hb8
  have hV8 := hV7.trans (hb8.mono hV7.size)
  clear gx gy gu gv gr hX7 hb8 hV7 k0
  generalize ((V7.alloc (.cells (arr 32 fun _ => .int .u8 0) 24)).setRow V7.heap.size (arr 32 fun _ => .int .u8 0)) = V8 at *
  generalize V7.heap.size = z at *
  simp only [Act.put, Array.setIfInBounds, List.size_toArray, List.length_cons, List.length_nil, Nat.reduceAdd, Nat.reduceLT, dite_true, List.set_toArray, List.set_cons_succ, List.set_cons_zero]
  have hz0 := ex_zero
  have G1 : Hid (∀ e : Ext V8, Calls Try.prog 16 #[.slice (some ⟨b, 0, none⟩) 3 4] e.at fun x w' => x = .returned (.agg (arr 32 (U8 (nodeS (nodeS la lb) lc)))) ∧ Below e.at.heap.size e.at w') := fun e => by
    have := root_any (hX8.below e.below).three (exL_fits.take 3)
    rw [ex_root] at this
    exact this
  have HG := Lib.hid (And.intro gx8 (And.intro gy8 (And.intro gu8 (And.intro gv8 gr8))))
  have c1 := row_range hX8.ra
  have c2 := row_range k1
  have c3 := row_range hX8.rab
  have c4 := row_range hX8.rc
  have HX := Lib.hid hX8
  have HC2 := Lib.hid hV8
  clear gx8 gy8 gu8 gv8 gr8 hX8 hV8 k1
  refine wp_region_ext (by kernel_rfl) (by kernel_rfl) ?_
  repeat (first | go_big_quiet_step ((first | (go_at_call 16; with_reducible exact ext_call (G1.out _)) | (go_at_call 18; with_reducible exact ext_call node_arr))) | (go_big_quiet_want; (first | (refine quiet_load_h (.tmp 1) rfl s 0 rfl la c1 ?_) | (refine quiet_load_h (.tmp 17) rfl z 0 rfl (fun _ => 0) c2 ?_) | (refine quiet_load_h (.tmp 6) rfl p 0 rfl (nodeS la lb) c3 ?_) | (refine quiet_load_h (.tmp 3) rfl (s + 1 + 1) 0 rfl lc c4 ?_)); go_simp; go_big_quiet_on))
  refine wpQuiet_nil ?_
  rintro _ ⟨e, rfl⟩
  have he := e.below
  obtain ⟨gx, gy, gu, gv, gr⟩ := HG.out
  have c3 := range_below c3 he (range_lt c3)
  have c4 := range_below c4 he (range_lt c4)
  have c5 := row_range (HX.out.below he).rb
  have c6 := row_range (HX.out.below he).rd
  have gx := Lib.hid (gx.below he)
  have gy := Lib.hid (gy.below he)
  have gu := Lib.hid (gu.below he)
  have gv := Lib.hid (gv.below he)
  have gr := Lib.hid (gr.below he)
  have hV9 := HC2.out.trans (he.mono HC2.out.size)
  clear he HG HX HC2 c1 c2 G1 hz0
  generalize e.at = V9 at *
  go_wp2_with (first | ((with_reducible refine wpList_load_h ?_ (.tmp 2) ?_ (s + 1) 0 ?_ lb c5 ?_); rfl; rfl; rfl) | ((with_reducible refine wpList_load_h ?_ (.tmp 3) ?_ (s + 1 + 1) 0 ?_ lc c4 ?_); rfl; rfl; rfl) | ((with_reducible refine wpList_load_h ?_ (.tmp 4) ?_ (s + 1 + 1 + 1) 0 ?_ ld c6 ?_); rfl; rfl; rfl) | ((with_reducible refine wpList_load_h ?_ (.tmp 6) ?_ p 0 ?_ (nodeS la lb) c3 ?_); rfl; rfl; rfl) | ((with_reducible refine wpList_slice_h1 ?_ (.tmp 89) ?_ (nodeS la lb) ?_ ?_); rfl; rfl; rfl; rintro n0 N0 hb0 hn0))
  refine (same_self (gx.out.below hb0) (NewH.slice hn0 (by decide))).mono ?_
  rintro e W0 ⟨rfl, hd0⟩
  have hs0 := hb0.trans (hd0.mono hb0.size)
  have c5 := range_below c5 hs0 (range_lt c5)
  have c4 := range_below c4 hs0 (range_lt c4)
  have c6 := range_below c6 hs0 (range_lt c6)
  have c3 := range_below c3 hs0 (range_lt c3)
  have gy := Lib.hid (gy.out.below hs0)
  have gu := Lib.hid (gu.out.below hs0)
  have gv := Lib.hid (gv.out.below hs0)
  have gr := Lib.hid (gr.out.below hs0)
  have hV10 := hV9.trans (hs0.mono hV9.size)
  go_wp2_with (first | ((with_reducible refine wpList_bare ?_ ?_); rfl; (with_reducible refine wpList_load_h ?_ (.tmp 2) ?_ (s + 1) 0 ?_ lb c5 ?_); rfl; rfl; rfl) | ((with_reducible refine wpList_bare ?_ ?_); rfl; (with_reducible refine wpList_load_h ?_ (.tmp 3) ?_ (s + 1 + 1) 0 ?_ lc c4 ?_); rfl; rfl; rfl) | ((with_reducible refine wpList_bare ?_ ?_); rfl; (with_reducible refine wpList_load_h ?_ (.tmp 4) ?_ (s + 1 + 1 + 1) 0 ?_ ld c6 ?_); rfl; rfl; rfl) | ((with_reducible refine wpList_bare ?_ ?_); rfl; (with_reducible refine wpList_load_h ?_ (.tmp 6) ?_ p 0 ?_ (nodeS la lb) c3 ?_); rfl; rfl; rfl) | ((with_reducible refine wpList_bare ?_ ?_); rfl; (with_reducible refine wpList_slice_h2 ?_ (.tmp 94) (.tmp 95) ?_ lb lc ?_ ?_ ?_); rfl; rfl; rfl; rfl; rintro n1 N1 hb1 hn1))
  refine (same_self (gy.out.below hb1) (NewH.slice hn1 (by decide))).mono ?_
  rintro e W1 ⟨rfl, hd1⟩
  have hs1 := hb1.trans (hd1.mono hb1.size)
  have c5 := range_below c5 hs1 (range_lt c5)
  have c4 := range_below c4 hs1 (range_lt c4)
  have c6 := range_below c6 hs1 (range_lt c6)
  have c3 := range_below c3 hs1 (range_lt c3)
  have gu := Lib.hid (gu.out.below hs1)
  have gv := Lib.hid (gv.out.below hs1)
  have gr := Lib.hid (gr.out.below hs1)
  have hV11 := hV10.trans (hs1.mono hV10.size)
  go_wp2_with (first | ((with_reducible refine wpList_bare ?_ ?_); rfl; (with_reducible refine wpList_load_h ?_ (.tmp 2) ?_ (s + 1) 0 ?_ lb c5 ?_); rfl; rfl; rfl) | ((with_reducible refine wpList_bare ?_ ?_); rfl; (with_reducible refine wpList_load_h ?_ (.tmp 3) ?_ (s + 1 + 1) 0 ?_ lc c4 ?_); rfl; rfl; rfl) | ((with_reducible refine wpList_bare ?_ ?_); rfl; (with_reducible refine wpList_load_h ?_ (.tmp 4) ?_ (s + 1 + 1 + 1) 0 ?_ ld c6 ?_); rfl; rfl; rfl) | ((with_reducible refine wpList_bare ?_ ?_); rfl; (with_reducible refine wpList_load_h ?_ (.tmp 6) ?_ p 0 ?_ (nodeS la lb) c3 ?_); rfl; rfl; rfl) | ((with_reducible refine wpList_bare ?_ ?_); rfl; (with_reducible refine wpList_slice_h1 ?_ (.tmp 101) ?_ lc ?_ ?_); rfl; rfl; rfl; rintro n2 N2 hb2 hn2))
  refine (same_self (gu.out.below hb2) (NewH.slice hn2 (by decide))).mono ?_
  rintro e W2 ⟨rfl, hd2⟩
  have hs2 := hb2.trans (hd2.mono hb2.size)
  have c5 := range_below c5 hs2 (range_lt c5)
  have c4 := range_below c4 hs2 (range_lt c4)
  have c6 := range_below c6 hs2 (range_lt c6)
  have c3 := range_below c3 hs2 (range_lt c3)
  have gv := Lib.hid (gv.out.below hs2)
  have gr := Lib.hid (gr.out.below hs2)
  have hV12 := hV11.trans (hs2.mono hV11.size)
  go_wp2_with (first | ((with_reducible refine wpList_bare ?_ ?_); rfl; (with_reducible refine wpList_load_h ?_ (.tmp 2) ?_ (s + 1) 0 ?_ lb c5 ?_); rfl; rfl; rfl) | ((with_reducible refine wpList_bare ?_ ?_); rfl; (with_reducible refine wpList_load_h ?_ (.tmp 3) ?_ (s + 1 + 1) 0 ?_ lc c4 ?_); rfl; rfl; rfl) | ((with_reducible refine wpList_bare ?_ ?_); rfl; (with_reducible refine wpList_load_h ?_ (.tmp 4) ?_ (s + 1 + 1 + 1) 0 ?_ ld c6 ?_); rfl; rfl; rfl) | ((with_reducible refine wpList_bare ?_ ?_); rfl; (with_reducible refine wpList_load_h ?_ (.tmp 6) ?_ p 0 ?_ (nodeS la lb) c3 ?_); rfl; rfl; rfl) | ((with_reducible refine wpList_bare ?_ ?_); rfl; (with_reducible refine wpList_slice_h3 ?_ (.tmp 107) (.tmp 108) (.tmp 109) ?_ lc ld (nodeS la lb) ?_ ?_ ?_ ?_); rfl; rfl; rfl; rfl; rfl; rintro n3 N3 hb3 hn3))
  refine (same_self (gv.out.below hb3) (NewH.slice hn3 (by decide))).mono ?_
  rintro e W3 ⟨rfl, hd3⟩
  have hs3 := hb3.trans (hd3.mono hb3.size)
  have c5 := range_below c5 hs3 (range_lt c5)
  have c4 := range_below c4 hs3 (range_lt c4)
  have c6 := range_below c6 hs3 (range_lt c6)
  have c3 := range_below c3 hs3 (range_lt c3)
  have gr := Lib.hid (gr.out.below hs3)
  have hV13 := hV12.trans (hs3.mono hV12.size)
  go_wp2_with (first | ((with_reducible refine wpList_bare ?_ ?_); rfl; (with_reducible refine wpList_load_h ?_ (.tmp 2) ?_ (s + 1) 0 ?_ lb c5 ?_); rfl; rfl; rfl) | ((with_reducible refine wpList_bare ?_ ?_); rfl; (with_reducible refine wpList_load_h ?_ (.tmp 3) ?_ (s + 1 + 1) 0 ?_ lc c4 ?_); rfl; rfl; rfl) | ((with_reducible refine wpList_bare ?_ ?_); rfl; (with_reducible refine wpList_load_h ?_ (.tmp 4) ?_ (s + 1 + 1 + 1) 0 ?_ ld c6 ?_); rfl; rfl; rfl) | ((with_reducible refine wpList_bare ?_ ?_); rfl; (with_reducible refine wpList_load_h ?_ (.tmp 6) ?_ p 0 ?_ (nodeS la lb) c3 ?_); rfl; rfl; rfl) | ((with_reducible refine wpList_bare ?_ ?_); rfl; (with_reducible refine wpList_slice_h2 ?_ (.tmp 115) (.tmp 116) ?_ lb lc ?_ ?_ ?_); rfl; rfl; rfl; rfl; rintro n4 N4 hb4 hn4))
  refine (same_self (gr.out.below hb4) (NewH.slice hn4 (by decide))).mono ?_
  rintro e W4 ⟨rfl, hd4⟩
  have hs4 := hb4.trans (hd4.mono hb4.size)
  have c5 := range_below c5 hs4 (range_lt c5)
  have c4 := range_below c4 hs4 (range_lt c4)
  have c6 := range_below c6 hs4 (range_lt c6)
  have c3 := range_below c3 hs4 (range_lt c3)
  have hV14 := hV13.trans (hs4.mono hV13.size)
  go_wp2_with fail
  go_ret
  exact ⟨rfl, hV14⟩
end Go.Proofs.Ytijhdfllffkfjaa
