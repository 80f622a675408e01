/- TreeLarge returns true for all numbers and hashes, and its arguments read behind the call as before. No condition. -/
import Derived.Test.YtijhdfllffkfjaaArgsL
namespace Go.Proofs.Ytijhdfllffkfjaa
open Go.ChangeShapes Go.WideShapes Go.ChangeAt Go.RowKit
attribute [local go_sem] bareOp

theorem wp_forget5 {P : Program} {c : Code} {Q : Exit → Act → World → Prop} {a : Act} {w : World} (L : List Tmp) (S : Act → Prop) (J : (Tmp → Value) → World → Prop) (hS : S a)
    (h : ∀ act Q', S act → (∀ f w', J f w' → Q' .normal (puts act L f) w') → c.wp P Q' act w) (hQ : ∀ f w', J f w' → Q .normal (puts a L f) w') : c.wp P Q a w := h a Q hS hQ
def zf : HF := fun _ => 0
theorem build_size (n : Int) : Try.prog.built 36 [(0, .int .i64 n)] = some (hd n zf) := by kernel_rfl
section
variable {ops : Array Oper} {rest : List Oper} {o : Oper} {a : Act} {w : World} {Q : Exit → Act → World → Prop}
theorem wpList_box2 (hg : o.guard = none) (x : Operand) (i : Nat) (hi : i < 2) (ho : o.op = .indexAddr 42 x (.const (.int .i64 (i : Int)))) {s : Nat} (hx : a.eval x = .pointer (some ⟨s, 0, none⟩))
    (h : wpList Try.prog ops Q rest (a.put o.dst (.pointer (some ⟨s, i, none⟩))) w) : wpList Try.prog ops Q (o :: rest) a w := by
  refine wpList_value hg ?_ h
  have e : a.eval (.const (.int .i64 (i : Int))) = .int .i64 (i : Int) := rfl
  unfold execOp
  simp only [ho, hx, e]
  rcases (by omega : i = 0 ∨ i = 1) with rfl | rfl <;> go_simp
theorem wpList_load_int (hg : o.guard = none) (x : Operand) (ho : o.op = .load 3 x) {p : Addr} (hx : a.eval x = .pointer (some p)) {v : Value} (hc : w.cell? p = some v)
    (h : wpList Try.prog ops Q rest (a.put o.dst v) w) : wpList Try.prog ops Q (o :: rest) a w := by
  have hrun : (Instr.loadAt 3 (.pointer (some p))).run Try.prog w = .ok v w := by go_simp
  refine wpList_plain hg fun K hK => ?_
  unfold Oper.wp execOp
  simp only [ho, hx, Sem.run_bind, Result.andThen_ok, hrun]
  exact hK _ _ h
theorem wpList_build_size (hg : o.guard = none) (x : Operand) (ho : o.op = .build 36 #[(0, x)]) (n : Int) (hx : a.eval x = .int .i64 n) (h : wpList Try.prog ops Q rest (a.put o.dst (.agg (hd n zf))) w) : wpList Try.prog ops Q (o :: rest) a w := by
  refine wpList_build_is hg 36 _ ho (hd n zf) ?_ h
  simp only [List.map_toArray, List.map_cons, List.map_nil, hx]
  exact build_size n
theorem wpList_len_h (hg : o.guard = none) (x : Operand) (ho : o.op = .call { callee := .builtin .len, args := #[x], argTypes := #[38] }) {A : Option Addr} {n c : Nat} (hx : a.eval x = .slice A n c)
    (h : wpList Try.prog ops Q rest (a.put o.dst (.int .i64 (n : Int))) w) : wpList Try.prog ops Q (o :: rest) a w := by
  refine wpList_value hg ?_ h
  simp [execOp, ho, resolve, invoke, builtin, hx]
  go_simp
theorem wpList_pred (hg : o.guard = none) (x : Operand) (ho : o.op = .binOp .sub 3 x (.const (.int .i64 1)) 3) {n : Nat} (hn : n ≤ 1000000) (hx : a.eval x = .int .i64 ((n + 1 : Nat) : Int)) (h : wpList Try.prog ops Q rest (a.put o.dst (.int .i64 (n : Int))) w) : wpList Try.prog ops Q (o :: rest) a w := by
  refine wpList_value hg ?_ h
  have e : a.eval (.const (.int .i64 1)) = .int .i64 1 := rfl
  have h1 : ((n + 1 : Nat) : Int) = (n : Int) + 1 := by omega
  unfold execOp
  simp only [ho, hx, e, h1]
  go_simp
  rw [IntKind.wrap_i64]
  omega
theorem wpList_idx_h (hg : o.guard = none) (x y : Operand) (ho : o.op = .indexAddr 38 x y) {b off cap n i : Nat} (hi : i < n) (hx : a.eval x = .slice (some ⟨b, off, none⟩) n cap) (hy : a.eval y = .int .i64 (i : Int))
    (h : wpList Try.prog ops Q rest (a.put o.dst (.pointer (some ⟨b, off + i * 32, none⟩))) w) : wpList Try.prog ops Q (o :: rest) a w := by
  refine wpList_value hg ?_ h
  have h1 : (0 : Int) ≤ (i : Int) := by omega
  have h2 : (i : Int) < (n : Int) := by omega
  unfold execOp
  simp only [ho, hx, hy]
  go_simp
theorem wpList_root (hg : o.guard = none) (x : Operand) (ho : o.op = .fieldAddr 36 x 1) {g : Nat} (hx : a.eval x = .pointer (some ⟨g, 0, none⟩))
    (h : wpList Try.prog ops Q rest (a.put o.dst (.pointer (some ⟨g, 1, none⟩))) w) : wpList Try.prog ops Q (o :: rest) a w := by
  refine wpList_value hg ?_ h
  unfold execOp
  simp only [ho, hx]
  go_simp
end
/-- one answer of the program and of the reference about a path, and one about a growth -/
def Agree4 (w : World) (q0 q1 n : Int) (f g : HF) (v : Value) : Prop := ∃ b c : Bool, ∀ e : Ext w,
  (Calls Try.prog 21 #[.agg (hd q0 f), .int .i64 n, .string ⟨#[120]⟩, v] e.at fun x w' => x = .returned (.bool b) ∧ Below e.at.heap.size e.at w') ∧
  (Calls Try.prog 30 #[.agg (hd q0 f), .int .i64 n, .string ⟨#[120]⟩, v] e.at fun x w' => x = .returned (.bool b) ∧ Below e.at.heap.size e.at w') ∧
  (Calls Try.prog 32 #[.agg (hd q0 f), .agg (hd q1 g), v] e.at fun x w' => x = .returned (.bool c) ∧ Below e.at.heap.size e.at w') ∧
  (Calls Try.prog 35 #[.agg (hd q0 f), .agg (hd q1 g), v] e.at fun x w' => x = .returned (.bool c) ∧ Below e.at.heap.size e.at w')
theorem agree4 {w : World} {q0 q1 n : Int} {f g : HF} {v : Value} {K : List HF} (h0 : In64 q0) (h1 : In64 q1) (hK : HSlice w v K) : Agree4 w q0 q1 n f g v :=
  ⟨_, _, fun e => ⟨fits_any (leaf := [120]) h0.2 (by show 1 ≤ 140737488351232; omega) (hK.below e.below), reffits_any (leaf := [120]) h0.2 (by show 1 ≤ 140737488351232; omega) (hK.below e.below), grows_any h1.2 (hK.below e.below), refgrows_any h1.2 (hK.below e.below)⟩⟩
def Box2 (w : World) (g : Nat) (a b : Int) : Prop := w.heap[g]? = some (.cells #[.int .i64 a, .int .i64 b] 42 (0, 0))
theorem Box2.below {w w' : World} {g : Nat} {a b : Int} (h : Box2 w g a b) (hb : Below w.heap.size w w') : Box2 w' g a b := (hb.block g (Array.getElem?_eq_some_iff.1 h).1).trans h
theorem Box2.cells {w : World} {g : Nat} {a b : Int} (h : Box2 w g a b) : w.cell? ⟨g, 0, none⟩ = some (.int .i64 a) ∧ w.cell? ⟨g, 1, none⟩ = some (.int .i64 b) :=
  ⟨by rw [cell_of_row w g 0 _ _ (0, 0) h]; rfl, by rw [cell_of_row w g 1 _ _ (0, 0) h]; rfl⟩
theorem below_head {w0 w : World} {B : Nat} (h : Below B w0 w) (hB : B ≤ w.heap.size) : Below B w0 (w.alloc (.cells (hd 0 zf) 36)) := h.alloc hB _
theorem HeadAt.farRow {w : World} {g g' : Nat} {n : Int} {f : HF} (h : HeadAt w g n f) (hg : g ≠ g') (cs : Array Value) : HeadAt (w.setRow g' cs) g n f := by
  obtain ⟨t, h⟩ := h
  exact ⟨t, by rw [setRow_other _ _ _ _ hg]; exact h⟩
def putsR : Act → List Tmp → (Tmp → Value) → Act
  | a, [], _ => a
  | a, s :: L, f => putsR (a.put (some s) (f s)) L f
theorem putsR_snoc : ∀ (L : List Tmp) (a : Act) (s : Tmp) (f : Tmp → Value), putsR a (L ++ [s]) f = (putsR a L f).put (some s) (f s)
  | [], _, _, _ => rfl
  | t :: L, a, s, f => putsR_snoc L (a.put (some t) (f t)) s f
theorem puts_R (a : Act) : ∀ (L : List Tmp) (f : Tmp → Value), puts a L f = putsR a L.reverse f
  | [], _ => rfl
  | s :: L, f => by rw [List.reverse_cons, putsR_snoc, ← puts_R a L f]; rfl
theorem put_lit (l : List Value) (ds : List Deferred) (s : Tmp) (v : Value) : Act.put ⟨l.toArray, ds⟩ (some s) v = ⟨(l.set s v).toArray, ds⟩ := by simp [Act.put]
theorem hd_there {w : World} {g : Nat} {n : Int} {f : HF} (h : HdAt w g n f) : w.there g 1 32 := fun j hj => by have := h.there (1 + j) (by omega); rwa [Nat.zero_add] at this
theorem wpList_idx0 {ops : Array Oper} {rest : List Oper} {o : Oper} {a : Act} {w : World} {Q : Exit → Act → World → Prop} (hg : o.guard = none) (x : Operand) (ho : o.op = .indexAddr 38 x (.const (.int .i64 0))) {b off cap n : Nat} (hi : 0 < n) (hx : a.eval x = .slice (some ⟨b, off, none⟩) n cap)
    (h : wpList Try.prog ops Q rest (a.put o.dst (.pointer (some ⟨b, off, none⟩))) w) : wpList Try.prog ops Q (o :: rest) a w := wpList_first hg x ho hi hx h
set_option maxHeartbeats 8000000 in
set_option maxRecDepth 100000 in
theorem large_walk_none {v : Value} {K0 : List HF} {w : World} (hv0 : HSlice w v K0) (q0 q1 : Int) (i0 : In64 q0) (i1 : In64 q1) (n : Int) (_h0 : -9223372036854775808 ≤ n) (_h1 : n ≤ 9223372036854775807) (hp : K0.length = 0) :
    Calls Try.prog 10 #[.agg #[.int .i64 q0, .int .i64 q1], .int .i64 n, v] w (Said true w) := by
  obtain ⟨a, cap, rfl, c1, c2, -⟩ := hv0.form
  obtain ⟨nn, hnn⟩ : ∃ nn, K0.length = nn := ⟨_, rfl⟩
  obtain ⟨k, hk⟩ : ∃ k, min nn 70 = k := ⟨_, rfl⟩
  rw [hnn] at hv0 c1 hp ⊢
  have hkn : k ≤ nn := by omega
  have hk70 : k ≤ 70 := by omega
  have hmin : min (nn : Int) 70 = (k : Int) := by omega
  have X0 : Box2 (w.alloc (.cells #[.int .i64 q0, .int .i64 q1] 42)) w.heap.size q0 q1 := heap_alloc_new _ _
  have hB0 := (Below.refl w.heap.size w).alloc (Nat.le_refl _) (.cells #[.int .i64 q0, .int .i64 q1] 42)
  have hcut := hslice_cut hv0 hnn k hkn
  have hcl : (K0.take k).length = k := by rw [List.length_take]; omega
  generalize K0.take k = K at *
  have HK := Lib.hid hcut
  have HCL := Lib.hid hcl
  have HM := Lib.hid hmin
  have I0 := Lib.hid i0
  have I1 := Lib.hid i1
  have HKP := Lib.hid (show 0 < nn → 0 < k from fun h => by omega)
  have HP0 := Lib.hid hp
  clear hv0 hnn hcut hcl hk hmin i0 i1 hp
  go_enter Try.func10, Try.ntmps10
  go_wp2_with fail
  refine sanity_any.mono ?_
  rintro e w1 ⟨rfl, hb1⟩
  have X1 := X0.below hb1
  have hB1 := hB0.trans (hb1.mono hB0.size)
  have HK1 := Lib.hid (HK.out.below hB1)
  have hb1z := hB1.size
  have hmin := HM.out
  have hsl : w.heap.size < w1.heap.size := (Array.getElem?_eq_some_iff.1 X1).1
  clear X0 hB0 hb1 HK
  go_wp2_with fail
  clear hmin HM
  refine wp_forget5 [17, 18, 19, 20, 21, 22, 8, 9] (fun act => act.tmps.size = 76 ∧ act.tmps.getD 3 undef = .pointer (some ⟨w.heap.size, 0, none⟩)) (fun f w' => ∃ g8 g9 : Nat, f 8 = .pointer (some ⟨g8, 0, none⟩) ∧ f 9 = .pointer (some ⟨g9, 0, none⟩) ∧ g8 ≠ g9 ∧ w1.heap.size ≤ g8 ∧ w1.heap.size ≤ g9 ∧ HeadAt w' g8 q0 zf ∧ HeadAt w' g9 q1 zf ∧ Below w1.heap.size w1 w') ⟨rfl, rfl⟩ ?_ ?_
  · rintro act Q' ⟨a1, a3⟩ HQ
    refine wp_region_inv [17, 18, 19, 20, 21, 22, 8, 9] (fun δ f w' => (δ 0 = true → f 17 = .pointer (some ⟨w.heap.size, 0, none⟩)) ∧ (δ 1 = true → f 18 = .int .i64 q0) ∧ (δ 2 = true → f 19 = .agg (hd q0 zf)) ∧ (δ 3 = true → f 20 = .pointer (some ⟨w.heap.size, 1, none⟩)) ∧ (δ 4 = true → f 21 = .int .i64 q1) ∧ (δ 5 = true → f 22 = .agg (hd q1 zf)) ∧
      (δ 6 = true → ∃ g, f 8 = .pointer (some ⟨g, 0, none⟩) ∧ w1.heap.size ≤ g ∧ HeadAt w' g (bif δ 8 then q0 else 0) zf) ∧ (δ 7 = true → ∃ g, f 9 = .pointer (some ⟨g, 0, none⟩) ∧ w1.heap.size ≤ g ∧ HeadAt w' g (bif δ 9 then q1 else 0) zf) ∧ (δ 6 = true → δ 7 = true → f 8 ≠ f 9) ∧ (δ 8 = true → δ 6 = true) ∧ (δ 9 = true → δ 7 = true) ∧ Below w1.heap.size w1 w') (by kernel_rfl) (by kernel_rfl) ?_ ?_ ?_
    · exact ⟨fun e => Bool.noConfusion e, fun e => Bool.noConfusion e, fun e => Bool.noConfusion e, fun e => Bool.noConfusion e, fun e => Bool.noConfusion e, fun e => Bool.noConfusion e, fun e => Bool.noConfusion e, fun e => Bool.noConfusion e, fun e => Bool.noConfusion e, fun e => Bool.noConfusion e, fun e => Bool.noConfusion e, (Below.refl _ _).drew⟩
    · refine ⟨?_, ?_, ?_, ?_, ?_, ?_, ?_, ?_, ?_, ?_, trivial⟩
      · rintro δ f w' ⟨h0, h1, h2, h3, h4, h5, h6, h7, h67, j8, j9, hb⟩ hd' ha
        refine wpList_box2 rfl (.tmp 3) 0 (by decide) rfl (eval_out (by decide) a3) ?_
        exact ⟨_, puts_put _ 17 _ _ f (by decide), fun _ => rfl, h1, h2, h3, h4, h5, h6, h7, h67, j8, j9, hb⟩
      · rintro δ f w' ⟨h0, h1, h2, h3, h4, h5, h6, h7, h67, j8, j9, hb⟩ hd' ha
        refine wpList_load_int rfl (.tmp 17) rfl (eval_in (by rw [a1]; decide) (by decide) (h0 (ha.1 rfl))) ((hb.cell (p := ⟨w.heap.size, 0, none⟩) hsl).trans X1.cells.1) ?_
        exact ⟨_, puts_put _ 18 _ _ f (by decide), h0, fun _ => rfl, h2, h3, h4, h5, h6, h7, h67, j8, j9, hb⟩
      · rintro δ f w' ⟨h0, h1, h2, h3, h4, h5, h6, h7, h67, j8, j9, hb⟩ hd' ha
        refine wpList_build_size rfl (.tmp 18) rfl q0 (eval_in (by rw [a1]; decide) (by decide) (h1 (ha.1 rfl))) ?_
        exact ⟨_, puts_put _ 19 _ _ f (by decide), h0, h1, fun _ => rfl, h3, h4, h5, h6, h7, h67, j8, j9, hb⟩
      · rintro δ f w' ⟨h0, h1, h2, h3, h4, h5, h6, h7, h67, j8, j9, hb⟩ hd' ha
        refine wpList_box2 rfl (.tmp 3) 1 (by decide) rfl (eval_out (by decide) a3) ?_
        exact ⟨_, puts_put _ 20 _ _ f (by decide), h0, h1, h2, fun _ => rfl, h4, h5, h6, h7, h67, j8, j9, hb⟩
      · rintro δ f w' ⟨h0, h1, h2, h3, h4, h5, h6, h7, h67, j8, j9, hb⟩ hd' ha
        refine wpList_load_int rfl (.tmp 20) rfl (eval_in (by rw [a1]; decide) (by decide) (h3 (ha.1 rfl))) ((hb.cell (p := ⟨w.heap.size, 1, none⟩) hsl).trans X1.cells.2) ?_
        exact ⟨_, puts_put _ 21 _ _ f (by decide), h0, h1, h2, h3, fun _ => rfl, h5, h6, h7, h67, j8, j9, hb⟩
      · rintro δ f w' ⟨h0, h1, h2, h3, h4, h5, h6, h7, h67, j8, j9, hb⟩ hd' ha
        refine wpList_build_size rfl (.tmp 21) rfl q1 (eval_in (by rw [a1]; decide) (by decide) (h4 (ha.1 rfl))) ?_
        exact ⟨_, puts_put _ 22 _ _ f (by decide), h0, h1, h2, h3, h4, fun _ => rfl, h6, h7, h67, j8, j9, hb⟩
      · rintro δ f w' ⟨h0, h1, h2, h3, h4, h5, h6, h7, h67, j8, j9, hb⟩ hd' ha
        have n8 : δ 8 = false := by cases h : δ 8 with | false => rfl | true => rw [j8 h] at hd'; cases hd'
        refine wpList_alloc_cs rfl 36 rfl _ Try.infoHead ?_
        refine ⟨_, puts_put _ 8 _ _ f (by decide), h0, h1, h2, h3, h4, h5, fun _ => ⟨w'.heap.size, rfl, hb.size, ?_⟩, fun e => ?_, fun _ e => ?_, fun _ => rfl, j9, below_head hb hb.size⟩
        · show HeadAt _ _ (bif δ 8 then q0 else 0) zf
          rw [n8]; exact HeadAt.new w' 0 zf _
        · obtain ⟨g, e1, e2, e3⟩ := h7 e
          exact ⟨g, e1, e2, e3.alloc _⟩
        · obtain ⟨g, e1, e2, e3⟩ := h7 e
          have hne := e3.lt
          intro e4
          have e5 : (Value.pointer (some ⟨w'.heap.size, 0, none⟩)) = .pointer (some ⟨g, 0, none⟩) := e4.trans e1
          injection e5 with e5
          injection e5 with e5
          injection e5 with e5
          omega
      · rintro δ f w' ⟨h0, h1, h2, h3, h4, h5, h6, h7, h67, j8, j9, hb⟩ hd' ha
        have n9 : δ 9 = false := by cases h : δ 9 with | false => rfl | true => rw [j9 h] at hd'; cases hd'
        refine wpList_alloc_cs rfl 36 rfl _ Try.infoHead ?_
        refine ⟨_, puts_put _ 9 _ _ f (by decide), h0, h1, h2, h3, h4, h5, fun e => ?_, fun _ => ⟨w'.heap.size, rfl, hb.size, ?_⟩, fun e _ => ?_, j8, fun _ => rfl, below_head hb hb.size⟩
        · obtain ⟨g, e1, e2, e3⟩ := h6 e
          exact ⟨g, e1, e2, e3.alloc _⟩
        · show HeadAt _ _ (bif δ 9 then q1 else 0) zf
          rw [n9]; exact HeadAt.new w' 0 zf _
        · obtain ⟨g, e1, e2, e3⟩ := h6 e
          have hne := e3.lt
          intro e4
          have e5 : (Value.pointer (some ⟨g, 0, none⟩)) = .pointer (some ⟨w'.heap.size, 0, none⟩) := e1.symm.trans e4
          injection e5 with e5
          injection e5 with e5
          injection e5 with e5
          omega
      · rintro δ f w' ⟨h0, h1, h2, h3, h4, h5, h6, h7, h67, j8, j9, hb⟩ hd' ha
        have d6 := ha.1 rfl
        obtain ⟨g, e1, e2, t, hh⟩ := h6 d6
        refine wpList_store_head rfl (.tmp 8) (.tmp 19) rfl g q0 _ zf zf t (eval_in (by rw [a1]; decide) (by decide) e1) (eval_in (by rw [a1]; decide) (by decide) (h2 (ha.2.1 rfl))) hh ?_
        refine ⟨f, puts_none _ _ _ _, h0, h1, h2, h3, h4, h5, fun _ => ⟨g, e1, e2, HeadAt.set hh⟩, fun e => ?_, h67, fun _ => d6, j9, Below.setRow hb e2 _⟩
        obtain ⟨g', e4, e5, e6⟩ := h7 e
        refine ⟨g', e4, e5, e6.farRow (fun hgg => h67 d6 e (e1.trans (by rw [← hgg]; exact e4.symm))) _⟩
      · rintro δ f w' ⟨h0, h1, h2, h3, h4, h5, h6, h7, h67, j8, j9, hb⟩ hd' ha
        have d7 := ha.1 rfl
        obtain ⟨g, e1, e2, t, hh⟩ := h7 d7
        refine wpList_store_head rfl (.tmp 9) (.tmp 22) rfl g q1 _ zf zf t (eval_in (by rw [a1]; decide) (by decide) e1) (eval_in (by rw [a1]; decide) (by decide) (h5 (ha.2.1 rfl))) hh ?_
        refine ⟨f, puts_none _ _ _ _, h0, h1, h2, h3, h4, h5, fun e => ?_, fun _ => ⟨g, e1, e2, HeadAt.set hh⟩, h67, j8, fun _ => d7, Below.setRow hb e2 _⟩
        obtain ⟨g', e4, e5, e6⟩ := h6 e
        refine ⟨g', e4, e5, e6.farRow (fun hgg => h67 e d7 (e4.trans (by rw [hgg]; exact e1.symm))) _⟩
    · rintro δ f w' hall ⟨-, -, -, -, -, -, h6, h7, h67, -, -, hb⟩
      obtain ⟨g, e1, e2, e3⟩ := h6 (hall 6 (by decide))
      obtain ⟨g', e4, e5, e6⟩ := h7 (hall 7 (by decide))
      rw [hall 8 (by decide)] at e3
      rw [hall 9 (by decide)] at e6
      exact HQ f w' ⟨g, g', e1, e4, fun hgg => h67 (hall 6 (by decide)) (hall 7 (by decide)) (e1.trans (by rw [hgg]; exact e4.symm)), e2, e5, e3, e6, hb⟩
  rintro f w2 ⟨g8, g9, e8, e9, hne, b8, b9, H8, H9, hb2⟩
  rw [show puts _ [17, 18, 19, 20, 21, 22, 8, 9] f = putsR _ [9, 8, 22, 21, 20, 19, 18, 17] f from puts_R _ _ _]
  simp only [putsR, put_lit, List.set_cons_succ, List.set_cons_zero, e8, e9]
  generalize f 17 = u17
  generalize f 18 = u18
  generalize f 19 = u19
  generalize f 20 = u20
  generalize f 21 = u21
  generalize f 22 = u22
  clear e8 e9
  have T8 := H8.told
  have T9 := H9.told
  have HK2 := Lib.hid (HK1.out.below hb2)
  have hB2 := hB1.trans (hb2.mono hB1.size)
  have hz2 := hb2.size
  clear H8 H9 hB1 X1 hb2
  have hk0 : k = 0 := by have := HP0.out; omega
  clear HKP
  have t1 : decide (0 < k) = false := decide_eq_false (by omega)
  have t2 : decide ((0 : Int) < (k : Int)) = false := decide_eq_false (by omega)
  clear hk0
  obtain ⟨r8, hr8⟩ : ∃ r, zf = r := ⟨_, rfl⟩
  obtain ⟨r9, hr9⟩ : ∃ r, zf = r := ⟨_, rfl⟩
  rw [hr8] at T8
  rw [hr9] at T9
  clear hr8 hr9
  have T8 := Lib.hid T8
  have T9 := Lib.hid T9
  go_wp2_with fail
  clear t1 t2
  replace T8 := T8.out
  replace T9 := T9.out
  have HB := Lib.hid (Below.refl w2.heap.size w2)
  go_loopw [10] (fun i wr => ∃ j : Nat, j ≤ 200 ∧ i = .int .i64 j ∧ Hid (Below w2.heap.size w2 wr)) (fun i _ => 300 - (intOf i).toNat)
  case atStart => exact ⟨0, by omega, rfl, HB⟩
  case round =>
    clear HB
    obtain ⟨j, hj, rfl, hB⟩ := hrel
    by_cases hlt : j ≤ k
    · have t8 := T8.below hB.out
      have t9 := T9.below hB.out
      obtain ⟨bb, cc, G⟩ := agree4 (n := n) (f := r8) (g := r9) I0.out I1.out (hslice_cut (HK2.out.below hB.out) HCL.out j hlt)
      have G := Lib.hid G
      have hjc : (j : Int) ≤ (cap : Int) := by omega
      have hj0 : (0 : Int) ≤ (j : Int) := by omega
      have hjk : (j : Int) ≤ (k : Int) := by omega
      go_wp2_with fail
      refine wp_region_ext (by kernel_rfl) (by kernel_rfl) ?_
      repeat (first | go_big_quiet_step ((first | (go_at_call 21; with_reducible exact ext_call (G.out _).1) | (go_at_call 30; with_reducible exact ext_call (G.out _).2.1) | (go_at_call 32; with_reducible exact ext_call (G.out _).2.2.1) | (go_at_call 35; with_reducible exact ext_call (G.out _).2.2.2))) | (go_big_quiet_want; (first | ((with_reducible refine quiet_load_hdAt (.tmp 8) ?_ g8 ?_ q0 r8 t8 ?_); rfl; rfl) | ((with_reducible refine quiet_load_hdAt (.tmp 9) ?_ g9 ?_ q1 r9 t9 ?_); rfl; rfl)); go_simp; go_big_quiet_on))
      refine wpQuiet_nil ?_
      rintro _ ⟨e, rfl⟩
      have hB2' := Lib.hid (hB.out.trans (e.below.mono hB.out.size))
      clear t8 t9 G hB
      go_wp2_with fail
      go_roundw
      case rel => first | exact ⟨j + (1 + k / 8), by omega, by first | go_num | omega, hB2'⟩ | exact ⟨j + (1 + k / 8), by omega, by omega⟩
      case measure => simp [intOf]; omega
    · have t1 : decide (j ≤ k) = false := decide_eq_false hlt
      have t2 : decide ((j : Int) ≤ (k : Int)) = false := decide_eq_false (by omega)
      go_wp2_with fail
      go_ret
      exact ⟨rfl, hB2.trans (hB.out.mono hB2.size)⟩

set_option maxHeartbeats 8000000 in
set_option maxRecDepth 100000 in
theorem large_walk_some {v : Value} {K0 : List HF} {w : World} (hv0 : HSlice w v K0) (q0 q1 : Int) (i0 : In64 q0) (i1 : In64 q1) (n : Int) (_h0 : -9223372036854775808 ≤ n) (_h1 : n ≤ 9223372036854775807) (hp : 0 < K0.length) :
    Calls Try.prog 10 #[.agg #[.int .i64 q0, .int .i64 q1], .int .i64 n, v] w (Said true w) := by
  obtain ⟨a, cap, rfl, c1, c2, -⟩ := hv0.form
  obtain ⟨nn, hnn⟩ : ∃ nn, K0.length = nn := ⟨_, rfl⟩
  obtain ⟨k, hk⟩ : ∃ k, min nn 70 = k := ⟨_, rfl⟩
  rw [hnn] at hv0 c1 hp ⊢
  have hkn : k ≤ nn := by omega
  have hk70 : k ≤ 70 := by omega
  have hmin : min (nn : Int) 70 = (k : Int) := by omega
  have X0 : Box2 (w.alloc (.cells #[.int .i64 q0, .int .i64 q1] 42)) w.heap.size q0 q1 := heap_alloc_new _ _
  have hB0 := (Below.refl w.heap.size w).alloc (Nat.le_refl _) (.cells #[.int .i64 q0, .int .i64 q1] 42)
  have hcut := hslice_cut hv0 hnn k hkn
  have hcl : (K0.take k).length = k := by rw [List.length_take]; omega
  generalize K0.take k = K at *
  have HK := Lib.hid hcut
  have HCL := Lib.hid hcl
  have HM := Lib.hid hmin
  have I0 := Lib.hid i0
  have I1 := Lib.hid i1
  have HKP := Lib.hid (show 0 < nn → 0 < k from fun h => by omega)
  have HP0 := Lib.hid hp
  clear hv0 hnn hcut hcl hk hmin i0 i1 hp
  go_enter Try.func10, Try.ntmps10
  go_wp2_with fail
  refine sanity_any.mono ?_
  rintro e w1 ⟨rfl, hb1⟩
  have X1 := X0.below hb1
  have hB1 := hB0.trans (hb1.mono hB0.size)
  have HK1 := Lib.hid (HK.out.below hB1)
  have hb1z := hB1.size
  have hmin := HM.out
  have hsl : w.heap.size < w1.heap.size := (Array.getElem?_eq_some_iff.1 X1).1
  clear X0 hB0 hb1 HK
  go_wp2_with fail
  clear hmin HM
  refine wp_forget5 [17, 18, 19, 20, 21, 22, 8, 9] (fun act => act.tmps.size = 76 ∧ act.tmps.getD 3 undef = .pointer (some ⟨w.heap.size, 0, none⟩)) (fun f w' => ∃ g8 g9 : Nat, f 8 = .pointer (some ⟨g8, 0, none⟩) ∧ f 9 = .pointer (some ⟨g9, 0, none⟩) ∧ g8 ≠ g9 ∧ w1.heap.size ≤ g8 ∧ w1.heap.size ≤ g9 ∧ HeadAt w' g8 q0 zf ∧ HeadAt w' g9 q1 zf ∧ Below w1.heap.size w1 w') ⟨rfl, rfl⟩ ?_ ?_
  · rintro act Q' ⟨a1, a3⟩ HQ
    refine wp_region_inv [17, 18, 19, 20, 21, 22, 8, 9] (fun δ f w' => (δ 0 = true → f 17 = .pointer (some ⟨w.heap.size, 0, none⟩)) ∧ (δ 1 = true → f 18 = .int .i64 q0) ∧ (δ 2 = true → f 19 = .agg (hd q0 zf)) ∧ (δ 3 = true → f 20 = .pointer (some ⟨w.heap.size, 1, none⟩)) ∧ (δ 4 = true → f 21 = .int .i64 q1) ∧ (δ 5 = true → f 22 = .agg (hd q1 zf)) ∧
      (δ 6 = true → ∃ g, f 8 = .pointer (some ⟨g, 0, none⟩) ∧ w1.heap.size ≤ g ∧ HeadAt w' g (bif δ 8 then q0 else 0) zf) ∧ (δ 7 = true → ∃ g, f 9 = .pointer (some ⟨g, 0, none⟩) ∧ w1.heap.size ≤ g ∧ HeadAt w' g (bif δ 9 then q1 else 0) zf) ∧ (δ 6 = true → δ 7 = true → f 8 ≠ f 9) ∧ (δ 8 = true → δ 6 = true) ∧ (δ 9 = true → δ 7 = true) ∧ Below w1.heap.size w1 w') (by kernel_rfl) (by kernel_rfl) ?_ ?_ ?_
    · exact ⟨fun e => Bool.noConfusion e, fun e => Bool.noConfusion e, fun e => Bool.noConfusion e, fun e => Bool.noConfusion e, fun e => Bool.noConfusion e, fun e => Bool.noConfusion e, fun e => Bool.noConfusion e, fun e => Bool.noConfusion e, fun e => Bool.noConfusion e, fun e => Bool.noConfusion e, fun e => Bool.noConfusion e, (Below.refl _ _).drew⟩
    · refine ⟨?_, ?_, ?_, ?_, ?_, ?_, ?_, ?_, ?_, ?_, trivial⟩
      · rintro δ f w' ⟨h0, h1, h2, h3, h4, h5, h6, h7, h67, j8, j9, hb⟩ hd' ha
        refine wpList_box2 rfl (.tmp 3) 0 (by decide) rfl (eval_out (by decide) a3) ?_
        exact ⟨_, puts_put _ 17 _ _ f (by decide), fun _ => rfl, h1, h2, h3, h4, h5, h6, h7, h67, j8, j9, hb⟩
      · rintro δ f w' ⟨h0, h1, h2, h3, h4, h5, h6, h7, h67, j8, j9, hb⟩ hd' ha
        refine wpList_load_int rfl (.tmp 17) rfl (eval_in (by rw [a1]; decide) (by decide) (h0 (ha.1 rfl))) ((hb.cell (p := ⟨w.heap.size, 0, none⟩) hsl).trans X1.cells.1) ?_
        exact ⟨_, puts_put _ 18 _ _ f (by decide), h0, fun _ => rfl, h2, h3, h4, h5, h6, h7, h67, j8, j9, hb⟩
      · rintro δ f w' ⟨h0, h1, h2, h3, h4, h5, h6, h7, h67, j8, j9, hb⟩ hd' ha
        refine wpList_build_size rfl (.tmp 18) rfl q0 (eval_in (by rw [a1]; decide) (by decide) (h1 (ha.1 rfl))) ?_
        exact ⟨_, puts_put _ 19 _ _ f (by decide), h0, h1, fun _ => rfl, h3, h4, h5, h6, h7, h67, j8, j9, hb⟩
      · rintro δ f w' ⟨h0, h1, h2, h3, h4, h5, h6, h7, h67, j8, j9, hb⟩ hd' ha
        refine wpList_box2 rfl (.tmp 3) 1 (by decide) rfl (eval_out (by decide) a3) ?_
        exact ⟨_, puts_put _ 20 _ _ f (by decide), h0, h1, h2, fun _ => rfl, h4, h5, h6, h7, h67, j8, j9, hb⟩
      · rintro δ f w' ⟨h0, h1, h2, h3, h4, h5, h6, h7, h67, j8, j9, hb⟩ hd' ha
        refine wpList_load_int rfl (.tmp 20) rfl (eval_in (by rw [a1]; decide) (by decide) (h3 (ha.1 rfl))) ((hb.cell (p := ⟨w.heap.size, 1, none⟩) hsl).trans X1.cells.2) ?_
        exact ⟨_, puts_put _ 21 _ _ f (by decide), h0, h1, h2, h3, fun _ => rfl, h5, h6, h7, h67, j8, j9, hb⟩
      · rintro δ f w' ⟨h0, h1, h2, h3, h4, h5, h6, h7, h67, j8, j9, hb⟩ hd' ha
        refine wpList_build_size rfl (.tmp 21) rfl q1 (eval_in (by rw [a1]; decide) (by decide) (h4 (ha.1 rfl))) ?_
        exact ⟨_, puts_put _ 22 _ _ f (by decide), h0, h1, h2, h3, h4, fun _ => rfl, h6, h7, h67, j8, j9, hb⟩
      · rintro δ f w' ⟨h0, h1, h2, h3, h4, h5, h6, h7, h67, j8, j9, hb⟩ hd' ha
        have n8 : δ 8 = false := by cases h : δ 8 with | false => rfl | true => rw [j8 h] at hd'; cases hd'
        refine wpList_alloc_cs rfl 36 rfl _ Try.infoHead ?_
        refine ⟨_, puts_put _ 8 _ _ f (by decide), h0, h1, h2, h3, h4, h5, fun _ => ⟨w'.heap.size, rfl, hb.size, ?_⟩, fun e => ?_, fun _ e => ?_, fun _ => rfl, j9, below_head hb hb.size⟩
        · show HeadAt _ _ (bif δ 8 then q0 else 0) zf
          rw [n8]; exact HeadAt.new w' 0 zf _
        · obtain ⟨g, e1, e2, e3⟩ := h7 e
          exact ⟨g, e1, e2, e3.alloc _⟩
        · obtain ⟨g, e1, e2, e3⟩ := h7 e
          have hne := e3.lt
          intro e4
          have e5 : (Value.pointer (some ⟨w'.heap.size, 0, none⟩)) = .pointer (some ⟨g, 0, none⟩) := e4.trans e1
          injection e5 with e5
          injection e5 with e5
          injection e5 with e5
          omega
      · rintro δ f w' ⟨h0, h1, h2, h3, h4, h5, h6, h7, h67, j8, j9, hb⟩ hd' ha
        have n9 : δ 9 = false := by cases h : δ 9 with | false => rfl | true => rw [j9 h] at hd'; cases hd'
        refine wpList_alloc_cs rfl 36 rfl _ Try.infoHead ?_
        refine ⟨_, puts_put _ 9 _ _ f (by decide), h0, h1, h2, h3, h4, h5, fun e => ?_, fun _ => ⟨w'.heap.size, rfl, hb.size, ?_⟩, fun e _ => ?_, j8, fun _ => rfl, below_head hb hb.size⟩
        · obtain ⟨g, e1, e2, e3⟩ := h6 e
          exact ⟨g, e1, e2, e3.alloc _⟩
        · show HeadAt _ _ (bif δ 9 then q1 else 0) zf
          rw [n9]; exact HeadAt.new w' 0 zf _
        · obtain ⟨g, e1, e2, e3⟩ := h6 e
          have hne := e3.lt
          intro e4
          have e5 : (Value.pointer (some ⟨g, 0, none⟩)) = .pointer (some ⟨w'.heap.size, 0, none⟩) := e1.symm.trans e4
          injection e5 with e5
          injection e5 with e5
          injection e5 with e5
          omega
      · rintro δ f w' ⟨h0, h1, h2, h3, h4, h5, h6, h7, h67, j8, j9, hb⟩ hd' ha
        have d6 := ha.1 rfl
        obtain ⟨g, e1, e2, t, hh⟩ := h6 d6
        refine wpList_store_head rfl (.tmp 8) (.tmp 19) rfl g q0 _ zf zf t (eval_in (by rw [a1]; decide) (by decide) e1) (eval_in (by rw [a1]; decide) (by decide) (h2 (ha.2.1 rfl))) hh ?_
        refine ⟨f, puts_none _ _ _ _, h0, h1, h2, h3, h4, h5, fun _ => ⟨g, e1, e2, HeadAt.set hh⟩, fun e => ?_, h67, fun _ => d6, j9, Below.setRow hb e2 _⟩
        obtain ⟨g', e4, e5, e6⟩ := h7 e
        refine ⟨g', e4, e5, e6.farRow (fun hgg => h67 d6 e (e1.trans (by rw [← hgg]; exact e4.symm))) _⟩
      · rintro δ f w' ⟨h0, h1, h2, h3, h4, h5, h6, h7, h67, j8, j9, hb⟩ hd' ha
        have d7 := ha.1 rfl
        obtain ⟨g, e1, e2, t, hh⟩ := h7 d7
        refine wpList_store_head rfl (.tmp 9) (.tmp 22) rfl g q1 _ zf zf t (eval_in (by rw [a1]; decide) (by decide) e1) (eval_in (by rw [a1]; decide) (by decide) (h5 (ha.2.1 rfl))) hh ?_
        refine ⟨f, puts_none _ _ _ _, h0, h1, h2, h3, h4, h5, fun e => ?_, fun _ => ⟨g, e1, e2, HeadAt.set hh⟩, h67, j8, fun _ => d7, Below.setRow hb e2 _⟩
        obtain ⟨g', e4, e5, e6⟩ := h6 e
        refine ⟨g', e4, e5, e6.farRow (fun hgg => h67 e d7 (e4.trans (by rw [hgg]; exact e1.symm))) _⟩
    · rintro δ f w' hall ⟨-, -, -, -, -, -, h6, h7, h67, -, -, hb⟩
      obtain ⟨g, e1, e2, e3⟩ := h6 (hall 6 (by decide))
      obtain ⟨g', e4, e5, e6⟩ := h7 (hall 7 (by decide))
      rw [hall 8 (by decide)] at e3
      rw [hall 9 (by decide)] at e6
      exact HQ f w' ⟨g, g', e1, e4, fun hgg => h67 (hall 6 (by decide)) (hall 7 (by decide)) (e1.trans (by rw [hgg]; exact e4.symm)), e2, e5, e3, e6, hb⟩
  rintro f w2 ⟨g8, g9, e8, e9, hne, b8, b9, H8, H9, hb2⟩
  rw [show puts _ [17, 18, 19, 20, 21, 22, 8, 9] f = putsR _ [9, 8, 22, 21, 20, 19, 18, 17] f from puts_R _ _ _]
  simp only [putsR, put_lit, List.set_cons_succ, List.set_cons_zero, e8, e9]
  generalize f 17 = u17
  generalize f 18 = u18
  generalize f 19 = u19
  generalize f 20 = u20
  generalize f 21 = u21
  generalize f 22 = u22
  clear e8 e9
  have T8 := H8.told
  have T9 := H9.told
  have HK2 := Lib.hid (HK1.out.below hb2)
  have hB2 := hB1.trans (hb2.mono hB1.size)
  have hz2 := hb2.size
  clear H8 H9 hB1 X1 hb2
  obtain ⟨q, hq⟩ : ∃ q, k = q + 1 := ⟨k - 1, by have := HKP.out HP0.out; omega⟩
  obtain ⟨b, off, ha, hr, hbl⟩ : ∃ b off : Nat, a = some ⟨b, off, none⟩ ∧ HR w2 b off K ∧ b < w1.heap.size := by
    obtain ⟨a', c', e1, -, -, e4⟩ := HK2.out.form
    obtain ⟨a'', c'', e1', -, -, e4'⟩ := HK1.out.form
    injection e1 with e1 _ _
    injection e1' with e1' _ _
    obtain ⟨b, off, e5, e6⟩ := e4 (by rw [HCL.out]; omega)
    obtain ⟨b', off', e5', e6'⟩ := e4' (by rw [HCL.out]; omega)
    have hl := e6'.lt (by rw [HCL.out]; omega)
    have hbb : b = b' := by
      have := (e1.trans e5).symm.trans (e1'.trans e5')
      injection this with this
      injection this
    exact ⟨b, off, e1.trans e5, e6, by rw [hbb]; exact hl⟩
  subst ha
  subst hq
  have hg0 := hr.get 0 (by rw [HCL.out]; omega)
  have hgq := hr.get q (by rw [HCL.out]; omega)
  obtain ⟨f0, hf0⟩ : ∃ f0, K.getD 0 (fun _ => 0) = f0 := ⟨_, rfl⟩
  obtain ⟨fl, hfl⟩ : ∃ fl, K.getD q (fun _ => 0) = fl := ⟨_, rfl⟩
  rw [hf0, Nat.zero_mul, Nat.add_zero] at hg0
  rw [hfl] at hgq
  have hb1g := hb1z
  have t1 : decide (0 < q + 1) = true := decide_eq_true (by omega)
  have t2 : decide ((0 : Int) < ((q + 1 : Nat) : Int)) = true := decide_eq_true (by omega)
  have T8 := Lib.hid T8
  have T9 := Lib.hid T9
  have HR2 := Lib.hid hr
  have hg0 := Lib.hid hg0
  have hgq := Lib.hid hgq
  clear hr hf0 hfl HK1
  go_wp2_with fail
  refine wp_forget5 [26, 27, 28, 29, 30, 31, 32, 33, 34, 35, 36] (fun act => act.tmps.size = 76 ∧ act.tmps.getD 2 undef = .slice (some ⟨b, off, none⟩) (q + 1 : Nat) cap ∧ act.tmps.getD 8 undef = .pointer (some ⟨g8, 0, none⟩) ∧ act.tmps.getD 9 undef = .pointer (some ⟨g9, 0, none⟩)) (fun f w' => HdAt w' g8 q0 f0 ∧ HdAt w' g9 q1 fl ∧ HR w' b off K ∧ Below w1.heap.size w2 w') ⟨rfl, rfl, rfl, rfl⟩ ?_ ?_
  · rintro act Q' ⟨a1, a2, a8, a9⟩ HQ
    refine wp_region_inv [26, 27, 28, 29, 30, 31, 32, 33, 34, 35, 36] (fun δ f w' => (δ 0 = true → f 26 = .slice (some ⟨b, off, none⟩) (q + 1 : Nat) cap) ∧ (δ 1 = true → f 27 = .pointer (some ⟨b, off, none⟩)) ∧ (δ 2 = true → f 28 = .agg (arr 32 (U8 f0))) ∧ (δ 3 = true → f 29 = .slice (some ⟨b, off, none⟩) (q + 1 : Nat) cap) ∧ (δ 4 = true → f 30 = .slice (some ⟨b, off, none⟩) (q + 1 : Nat) cap) ∧ (δ 5 = true → f 31 = .int .i64 ((q + 1 : Nat) : Int)) ∧ (δ 6 = true → f 32 = .int .i64 (q : Int)) ∧ (δ 7 = true → f 33 = .pointer (some ⟨b, off + q * 32, none⟩)) ∧ (δ 8 = true → f 34 = .agg (arr 32 (U8 fl))) ∧ (δ 9 = true → f 35 = .pointer (some ⟨g8, 1, none⟩)) ∧ (δ 11 = true → f 36 = .pointer (some ⟨g9, 1, none⟩)) ∧
      HdAt w' g8 q0 (bif δ 10 then f0 else zf) ∧ HdAt w' g9 q1 (bif δ 12 then fl else zf) ∧ Below w1.heap.size w2 w') (by kernel_rfl) (by kernel_rfl) ?_ ?_ ?_
    · exact ⟨fun e => Bool.noConfusion e, fun e => Bool.noConfusion e, fun e => Bool.noConfusion e, fun e => Bool.noConfusion e, fun e => Bool.noConfusion e, fun e => Bool.noConfusion e, fun e => Bool.noConfusion e, fun e => Bool.noConfusion e, fun e => Bool.noConfusion e, fun e => Bool.noConfusion e, fun e => Bool.noConfusion e, T8.out.below (Below.refl _ _).drew, T9.out.below (Below.refl _ _).drew, (Below.refl _ _).drew⟩
    · refine ⟨?_, ?_, ?_, ?_, ?_, ?_, ?_, ?_, ?_, ?_, ?_, ?_, ?_, trivial⟩
      · rintro δ f w' ⟨h0, h1, h2, h3, h4, h5, h6, h7, h8, h9, h11, t8, t9, hb⟩ hd' ha
        refine wpList_move rfl (.tmp 2) rfl (eval_out (by decide) a2) ?_
        exact ⟨_, puts_put _ 26 _ _ f (by decide), fun _ => rfl, h1, h2, h3, h4, h5, h6, h7, h8, h9, h11, t8, t9, hb⟩
      · rintro δ f w' ⟨h0, h1, h2, h3, h4, h5, h6, h7, h8, h9, h11, t8, t9, hb⟩ hd' ha
        refine wpList_idx0 rfl (.tmp 26) rfl (n := q + 1) (by omega) (eval_in (by rw [a1]; decide) (by decide) (h0 (ha.1 rfl))) ?_
        exact ⟨_, puts_put _ 27 _ _ f (by decide), h0, fun _ => rfl, h2, h3, h4, h5, h6, h7, h8, h9, h11, t8, t9, hb⟩
      · rintro δ f w' ⟨h0, h1, h2, h3, h4, h5, h6, h7, h8, h9, h11, t8, t9, hb⟩ hd' ha
        refine wpList_load_h rfl (.tmp 27) rfl b off (eval_in (by rw [a1]; decide) (by decide) (h1 (ha.1 rfl))) f0 (range_below hg0.out hb hbl) ?_
        exact ⟨_, puts_put _ 28 _ _ f (by decide), h0, h1, fun _ => rfl, h3, h4, h5, h6, h7, h8, h9, h11, t8, t9, hb⟩
      · rintro δ f w' ⟨h0, h1, h2, h3, h4, h5, h6, h7, h8, h9, h11, t8, t9, hb⟩ hd' ha
        refine wpList_move rfl (.tmp 2) rfl (eval_out (by decide) a2) ?_
        exact ⟨_, puts_put _ 29 _ _ f (by decide), h0, h1, h2, fun _ => rfl, h4, h5, h6, h7, h8, h9, h11, t8, t9, hb⟩
      · rintro δ f w' ⟨h0, h1, h2, h3, h4, h5, h6, h7, h8, h9, h11, t8, t9, hb⟩ hd' ha
        refine wpList_move rfl (.tmp 2) rfl (eval_out (by decide) a2) ?_
        exact ⟨_, puts_put _ 30 _ _ f (by decide), h0, h1, h2, h3, fun _ => rfl, h5, h6, h7, h8, h9, h11, t8, t9, hb⟩
      · rintro δ f w' ⟨h0, h1, h2, h3, h4, h5, h6, h7, h8, h9, h11, t8, t9, hb⟩ hd' ha
        refine wpList_len_h rfl (.tmp 30) rfl (n := q + 1) (eval_in (by rw [a1]; decide) (by decide) (h4 (ha.1 rfl))) ?_
        exact ⟨_, puts_put _ 31 _ _ f (by decide), h0, h1, h2, h3, h4, fun _ => rfl, h6, h7, h8, h9, h11, t8, t9, hb⟩
      · rintro δ f w' ⟨h0, h1, h2, h3, h4, h5, h6, h7, h8, h9, h11, t8, t9, hb⟩ hd' ha
        refine wpList_pred rfl (.tmp 31) rfl (n := q) (by omega) (eval_in (by rw [a1]; decide) (by decide) (h5 (ha.1 rfl))) ?_
        exact ⟨_, puts_put _ 32 _ _ f (by decide), h0, h1, h2, h3, h4, h5, fun _ => rfl, h7, h8, h9, h11, t8, t9, hb⟩
      · rintro δ f w' ⟨h0, h1, h2, h3, h4, h5, h6, h7, h8, h9, h11, t8, t9, hb⟩ hd' ha
        refine wpList_idx_h rfl (.tmp 29) (.tmp 32) rfl (n := q + 1) (by omega) (eval_in (by rw [a1]; decide) (by decide) (h3 (ha.1 rfl))) (eval_in (by rw [a1]; decide) (by decide) (h6 (ha.2.1 rfl))) ?_
        exact ⟨_, puts_put _ 33 _ _ f (by decide), h0, h1, h2, h3, h4, h5, h6, fun _ => rfl, h8, h9, h11, t8, t9, hb⟩
      · rintro δ f w' ⟨h0, h1, h2, h3, h4, h5, h6, h7, h8, h9, h11, t8, t9, hb⟩ hd' ha
        refine wpList_load_h rfl (.tmp 33) rfl b (off + q * 32) (eval_in (by rw [a1]; decide) (by decide) (h7 (ha.1 rfl))) fl (range_below hgq.out hb hbl) ?_
        exact ⟨_, puts_put _ 34 _ _ f (by decide), h0, h1, h2, h3, h4, h5, h6, h7, fun _ => rfl, h9, h11, t8, t9, hb⟩
      · rintro δ f w' ⟨h0, h1, h2, h3, h4, h5, h6, h7, h8, h9, h11, t8, t9, hb⟩ hd' ha
        refine wpList_root rfl (.tmp 8) rfl (eval_out (by decide) a8) ?_
        exact ⟨_, puts_put _ 35 _ _ f (by decide), h0, h1, h2, h3, h4, h5, h6, h7, h8, fun _ => rfl, h11, t8, t9, hb⟩
      · rintro δ f w' ⟨h0, h1, h2, h3, h4, h5, h6, h7, h8, h9, h11, t8, t9, hb⟩ hd' ha
        have d1 := h9 (ha.1 rfl)
        have d2 := h2 (ha.2.1 rfl)
        refine wpList_store_mid rfl 24 (.tmp 35) (.tmp 28) rfl g8 1 (arr 32 (U8 f0)) (eval_in (by rw [a1]; decide) (by decide) d1) (eval_in (by rw [a1]; decide) (by decide) d2) (by rw [size_arr]; exact hd_there t8) (by kernel_rfl) (oneCell_arr 32 (U8 f0) (fun _ _ => rfl)) ?_
        exact ⟨f, puts_none _ _ _ _, h0, h1, h2, h3, h4, h5, h6, h7, h8, h9, h11, t8.set f0, t9.far (Ne.symm hne), Below.setCells (by omega) _ _ _ hb⟩
      · rintro δ f w' ⟨h0, h1, h2, h3, h4, h5, h6, h7, h8, h9, h11, t8, t9, hb⟩ hd' ha
        refine wpList_root rfl (.tmp 9) rfl (eval_out (by decide) a9) ?_
        exact ⟨_, puts_put _ 36 _ _ f (by decide), h0, h1, h2, h3, h4, h5, h6, h7, h8, h9, fun _ => rfl, t8, t9, hb⟩
      · rintro δ f w' ⟨h0, h1, h2, h3, h4, h5, h6, h7, h8, h9, h11, t8, t9, hb⟩ hd' ha
        have d1 := h11 (ha.1 rfl)
        have d2 := h8 (ha.2.1 rfl)
        refine wpList_store_mid rfl 24 (.tmp 36) (.tmp 34) rfl g9 1 (arr 32 (U8 fl)) (eval_in (by rw [a1]; decide) (by decide) d1) (eval_in (by rw [a1]; decide) (by decide) d2) (by rw [size_arr]; exact hd_there t9) (by kernel_rfl) (oneCell_arr 32 (U8 fl) (fun _ _ => rfl)) ?_
        exact ⟨f, puts_none _ _ _ _, h0, h1, h2, h3, h4, h5, h6, h7, h8, h9, h11, t8.far hne, t9.set fl, Below.setCells (by omega) _ _ _ hb⟩
    · rintro δ f w' hall ⟨-, -, -, -, -, -, -, -, -, -, -, t8, t9, hb⟩
      rw [hall 10 (by decide)] at t8
      rw [hall 12 (by decide)] at t9
      exact HQ f w' ⟨t8, t9, HR2.out.at_ hb hbl, hb⟩
  rintro f w3 ⟨T8, T9, hr, hb3⟩
  rw [show puts _ [26, 27, 28, 29, 30, 31, 32, 33, 34, 35, 36] f = putsR _ [36, 35, 34, 33, 32, 31, 30, 29, 28, 27, 26] f from puts_R _ _ _]
  simp only [putsR, put_lit, List.set_cons_succ, List.set_cons_zero]
  generalize f 26 = u26
  generalize f 27 = u27
  generalize f 28 = u28
  generalize f 29 = u29
  generalize f 30 = u30
  generalize f 31 = u31
  generalize f 32 = u32
  generalize f 33 = u33
  generalize f 34 = u34
  generalize f 35 = u35
  generalize f 36 = u36
  have hB2 := hB2.trans (hb3.mono hb1z)
  have HK2 : Hid (HSlice w3 (.slice (some ⟨b, off, none⟩) (q + 1 : Nat) cap) K) := Lib.hid (.inr ⟨b, off, cap, by rw [HCL.out], hr, by rw [HCL.out]; omega, c2⟩)
  obtain ⟨k, hkq⟩ : ∃ k, q + 1 = k := ⟨_, rfl⟩
  rw [hkq] at HK2 HCL hk70 hkn ⊢
  generalize w3 = w2 at *
  obtain ⟨r8, hr8⟩ : ∃ r, f0 = r := ⟨_, rfl⟩
  obtain ⟨r9, hr9⟩ : ∃ r, fl = r := ⟨_, rfl⟩
  rw [hr8] at T8
  rw [hr9] at T9
  clear hr8 hr9 hr hb3 t1 t2 hg0 hgq HR2
  have T8 := Lib.hid T8
  have T9 := Lib.hid T9
  go_wp2_with fail
  replace T8 := T8.out
  replace T9 := T9.out
  have HB := Lib.hid (Below.refl w2.heap.size w2)
  go_loopw [10] (fun i wr => ∃ j : Nat, j ≤ 200 ∧ i = .int .i64 j ∧ Hid (Below w2.heap.size w2 wr)) (fun i _ => 300 - (intOf i).toNat)
  case atStart => exact ⟨0, by omega, rfl, HB⟩
  case round =>
    clear HB
    obtain ⟨j, hj, rfl, hB⟩ := hrel
    by_cases hlt : j ≤ k
    · have t8 := T8.below hB.out
      have t9 := T9.below hB.out
      obtain ⟨bb, cc, G⟩ := agree4 (n := n) (f := r8) (g := r9) I0.out I1.out (hslice_cut (HK2.out.below hB.out) HCL.out j hlt)
      have G := Lib.hid G
      have hjc : (j : Int) ≤ (cap : Int) := by omega
      have hj0 : (0 : Int) ≤ (j : Int) := by omega
      have hjk : (j : Int) ≤ (k : Int) := by omega
      go_wp2_with fail
      refine wp_region_ext (by kernel_rfl) (by kernel_rfl) ?_
      repeat (first | go_big_quiet_step ((first | (go_at_call 21; with_reducible exact ext_call (G.out _).1) | (go_at_call 30; with_reducible exact ext_call (G.out _).2.1) | (go_at_call 32; with_reducible exact ext_call (G.out _).2.2.1) | (go_at_call 35; with_reducible exact ext_call (G.out _).2.2.2))) | (go_big_quiet_want; (first | ((with_reducible refine quiet_load_hdAt (.tmp 8) ?_ g8 ?_ q0 r8 t8 ?_); rfl; rfl) | ((with_reducible refine quiet_load_hdAt (.tmp 9) ?_ g9 ?_ q1 r9 t9 ?_); rfl; rfl)); go_simp; go_big_quiet_on))
      refine wpQuiet_nil ?_
      rintro _ ⟨e, rfl⟩
      have hB2' := Lib.hid (hB.out.trans (e.below.mono hB.out.size))
      clear t8 t9 G hB
      go_wp2_with fail
      go_roundw
      case rel => first | exact ⟨j + (1 + k / 8), by omega, by first | go_num | omega, hB2'⟩ | exact ⟨j + (1 + k / 8), by omega, by omega⟩
      case measure => simp [intOf]; omega
    · have t1 : decide (j ≤ k) = false := decide_eq_false hlt
      have t2 : decide ((j : Int) ≤ (k : Int)) = false := decide_eq_false (by omega)
      go_wp2_with fail
      go_ret
      exact ⟨rfl, hB2.trans (hB.out.mono hB2.size)⟩

theorem large_walk {v : Value} {K0 : List HF} {w : World} (q0 q1 : Int) (i0 : In64 q0) (i1 : In64 q1) (n : Int) (h0 : -9223372036854775808 ≤ n) (h1 : n ≤ 9223372036854775807) (hv0 : HSlice w v K0) :
    Calls Try.prog 10 #[.agg #[.int .i64 q0, .int .i64 q1], .int .i64 n, v] w (Said true w) := by
  rcases Nat.eq_zero_or_pos K0.length with hp | hp
  · exact large_walk_none hv0 q0 q1 i0 i1 n h0 h1 hp
  · exact large_walk_some hv0 q0 q1 i0 i1 n h0 h1 hp

set_option maxRecDepth 100000 in
theorem large_lifted (os : Os) (started : os.Started) (H : Type) (enc : TypeId × Value → H) :
    ReturnsInHanded {} Try.checked os 10 .any (Rows.treeLargeSpec.pre6 enc Try.prog Try.f10 Rows.treeLargeRow.domain false) (Rows.treeLargeSpec.post enc Try.prog Try.f10 false true false false) := by
  refine returnsInHanded_of_change (C := Try.checked) own started (by kernel_rfl) Try.func10
    (ChangeSpec.witness6 (enc := enc) (C := Try.checked) false ⟨#[], #[.agg #[.int .i64 0, .int .i64 0], .int .i64 0, .slice none 0 0], []⟩ 8 (by kernel_rfl) (by kernel_rfl) (by kernel_rfl) (by kernel_rfl)) ?_
  intro W base args ds gs before hval0 hW hcnd _
  have hval : ∀ (j : Nat) t v, Try.f10.params[j]? = some t → args[j]? = some v → Value.okWide Try.prog W .any base t v := hval0
  obtain ⟨p, q, hA0, hV, -, -, -⟩ := id hW
  have hA : DataW.TrodAll enc Try.prog W 0 (fun _ => true) true Try.f10.params.toList args.toList ds p := hA0
  rw [Try.params10] at hA hval
  obtain ⟨v0, vs0, d0, ds0, p0, q0, hargs, rfl, rfl, h0, r0⟩ := trodAll_cons hA
  obtain ⟨v1, vs1, d1, ds1, p1, q1, rfl, rfl, rfl, h1, r1⟩ := trodAll_cons r0
  obtain ⟨v2, vs2, d2, ds2, p2, q2, rfl, rfl, rfl, h2, r2⟩ := trodAll_cons r1
  obtain ⟨rfl, rfl, rfl⟩ := trodAll_nil r2
  obtain rfl : args = #[v0, v1, v2] := by cases args; simp_all
  obtain ⟨rfl, -⟩ := trodVars_none hV
  obtain ⟨a0, b0, rfl, wa0, wb0⟩ := open_two64 (e := 3) Try.underlying42 Try.underlying3 (by kernel_rfl) (by kernel_rfl) (hval 0 42 v0 rfl rfl)
  obtain ⟨a1, rfl, wl1, wh1⟩ := open_i64 Try.underlying3 (hval 1 3 v1 rfl rfl)
  obtain ⟨a2, hs2⟩ := open_hslice Try.underlying38 Try.underlying24 Try.underlying5 (by kernel_rfl) (by kernel_rfl) (hval 2 38 v2 rfl rfl) h2
  refine (large_walk _ _ wa0 wb0 _ wl1 wh1 hs2).mono fun e W' ⟨he, hg⟩ => ?_
  subst he
  exact ⟨_, rfl, law_post (tb := 4) laidOut (by decide +kernel) rfl Try.underlying4 rfl hW rfl hg⟩

theorem large_proved : Rows.TreeLargeSaid :=
  OpenClaim.holds_of_wide 10 Try.f10 rfl rfl rfl rfl rfl rfl rfl ⟨rfl, rfl, rfl, rfl, rfl⟩ rfl rfl rfl rfl rfl (by kernel_rfl) Try.func10 (by kernel_rfl)
    (of_decide_eq_true (by kernel_rfl)) (by unfold Func.isWrapper; first | (rw [if_pos (by decide +kernel)]; kernel_rfl) | (rw [if_neg (by decide +kernel)]; exact ⟨rfl, rfl⟩))
    (fun os started H enc _ => large_lifted os started H enc)
#print axioms large_proved

end Go.Proofs.Ytijhdfllffkfjaa
