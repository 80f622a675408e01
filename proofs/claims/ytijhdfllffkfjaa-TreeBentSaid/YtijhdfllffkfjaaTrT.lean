/- Growth that is checked: the reference's many and both. -/
import Derived.Test.YtijhdfllffkfjaaTrO
namespace Go.Proofs.Ytijhdfllffkfjaa
open Go.RowKit

set_option maxHeartbeats 1000000 in
theorem many_eq {n : Int} {whole : Bool} {w : World} : Calls Try.prog 50 #[.int .i64 n, .int .i64 n, .bool whole] w fun e w' => e = .returned (.int .i64 ((if whole then 0 else 1 : Nat) : Int)) ∧ w' = w := by
  cases whole with
  | true =>
    go_enter Try.func50, Try.ntmps50
    go_wp2_with fail
    go_ret
    exact ⟨rfl, rfl⟩
  | false =>
    go_enter Try.func50, Try.ntmps50
    go_wp2_with fail
    go_ret
    exact ⟨rfl, rfl⟩
set_option maxHeartbeats 1000000 in
theorem many_lo {m n k d : Nat} {whole : Bool} {w : World} (h2 : 2 ≤ n) (hn : n ≤ 9223372036854775807) (hk : halfN n = k) (hm : m ≤ k) (hd : d ≤ 64)
    (h1 : Calls Try.prog 50 #[.int .i64 (m : Int), .int .i64 (k : Int), .bool whole] w fun e w' => e = .returned (.int .i64 (d : Int)) ∧ w' = w) :
    Calls Try.prog 50 #[.int .i64 (m : Int), .int .i64 (n : Int), .bool whole] w fun e w' => e = .returned (.int .i64 ((d + 1 : Nat) : Int)) ∧ w' = w := by
  obtain ⟨k1, k2, k3⟩ := halfN_lt h2
  rw [hk] at k1 k2 k3
  have HK := Lib.hid hk
  have H1 := Lib.hid h1
  clear hk h1
  have n0 : ((m : Int) == (n : Int)) = false := by simp; omega
  go_enter Try.func50, Try.ntmps50
  go_wp2_with fail
  refine (refhalf_any h2 hn).mono ?_
  rintro e w1 ⟨rfl, hw⟩
  obtain rfl := hw.symm
  rw [HK.out]
  go_wp2_with fail
  refine H1.out.mono ?_
  rintro e w1 ⟨rfl, hw⟩
  obtain rfl := hw.symm
  go_wp2_with fail
  go_ret
  exact ⟨by rw [show ((d + 1 : Nat) : Int) = 1 + (d : Int) by omega]; rfl, rfl⟩
set_option maxHeartbeats 1000000 in
theorem many_hi {m n k d : Nat} {whole : Bool} {w : World} (h2 : 2 ≤ n) (hn : n ≤ 9223372036854775807) (hk : halfN n = k) (hm : k < m) (hmn : m < n) (hd : d ≤ 64)
    (h1 : Calls Try.prog 50 #[.int .i64 ((m : Int) - (k : Int)), .int .i64 ((n : Int) - (k : Int)), .bool false] w fun e w' => e = .returned (.int .i64 (d : Int)) ∧ w' = w) :
    Calls Try.prog 50 #[.int .i64 (m : Int), .int .i64 (n : Int), .bool whole] w fun e w' => e = .returned (.int .i64 ((d + 1 : Nat) : Int)) ∧ w' = w := by
  obtain ⟨k1, k2, k3⟩ := halfN_lt h2
  rw [hk] at k1 k2 k3
  have HK := Lib.hid hk
  have H1 := Lib.hid h1
  clear hk h1
  have n0 : ((m : Int) == (n : Int)) = false := by simp; omega
  have n4 : decide ((m : Int) ≤ (k : Int)) = false := decide_eq_false (by omega)
  have n5 : decide (m ≤ k) = false := decide_eq_false (by omega)
  go_enter Try.func50, Try.ntmps50
  go_wp2_with fail
  refine (refhalf_any h2 hn).mono ?_
  rintro e w1 ⟨rfl, hw⟩
  obtain rfl := hw.symm
  rw [HK.out]
  go_wp2_with fail
  refine H1.out.mono ?_
  rintro e w1 ⟨rfl, hw⟩
  obtain rfl := hw.symm
  go_wp2_with fail
  go_ret
  exact ⟨by rw [show ((d + 1 : Nat) : Int) = 1 + (d : Int) by omega]; rfl, rfl⟩
theorem many_any : ∀ (j m n : Nat) (whole : Bool) (_ : n ≤ j) (_ : n ≤ 9223372036854775807) (_ : 0 < m) (_ : m ≤ n) (w : World),
    Calls Try.prog 50 #[.int .i64 (m : Int), .int .i64 (n : Int), .bool whole] w fun e w' => e = .returned (.int .i64 (manyS m n whole : Nat)) ∧ w' = w
  | j, m, n, whole, hj, hn, hm0, hm, w => by
    by_cases he : m = n
    · subst he
      rw [manyS_eq rfl]
      exact many_eq
    · have h2 : 2 ≤ n := by omega
      obtain ⟨k1, k2, k3⟩ := halfN_lt h2
      obtain ⟨j', rfl⟩ : ∃ j', j = j' + 1 := ⟨j - 1, by omega⟩
      by_cases hk : m ≤ halfN n
      · rw [manyS_lo he h2 hk]
        exact many_lo h2 hn rfl hk (manyS_64 (by omega)) (many_any j' m (halfN n) whole (by omega) (by omega) hm0 hk w)
      · rw [manyS_hi he h2 hk]
        have ih := many_any j' (m - halfN n) (n - halfN n) false (by omega) (by omega) (by omega) (by omega) w
        rw [show ((m - halfN n : Nat) : Int) = (m : Int) - (halfN n : Nat) by omega, show ((n - halfN n : Nat) : Int) = (n : Int) - (halfN n : Nat) by omega] at ih
        exact many_hi h2 hn rfl (by omega) (by omega) (manyS_64 (by omega)) ih

/-- inside both: the blocks of the old root and of the two results -/
structure BSt (w0 : World) (old : HF) (r r' : Nat → Value) (w : World) : Prop where
  ro : Row w w0.heap.size 24 32 (U8 old)
  r1 : Row w (w0.heap.size + 1) 24 32 r
  r2 : Row w (w0.heap.size + 1 + 1) 24 32 r'
  kept : Below w0.heap.size w0 w
section
variable {w w0 w' : World} {old : HF} {r r' : Nat → Value}
theorem BSt.size (h : BSt w0 old r r' w) : w0.heap.size + 1 + 1 < w.heap.size := h.r2.lt
theorem BSt.below (h : BSt w0 old r r' w) (hb : Below w.heap.size w w') : BSt w0 old r r' w' :=
  ⟨h.ro.belowAll hb, h.r1.belowAll hb, h.r2.belowAll hb, h.kept.trans (hb.mono h.kept.size)⟩
theorem BSt.drew (h : BSt w0 old r r' w) : BSt w0 old r r' w.drew := h.below (Below.refl _ _).drew
theorem BSt.set1 (h : BSt w0 old r r' w) (x : Nat → Value) : BSt w0 old x r' (w.setRow (w0.heap.size + 1) (arr 32 x)) :=
  ⟨h.ro.farRow (by omega) _, h.r1.setRow x, h.r2.farRow (by omega) _, Below.setRow h.kept (by omega) _⟩
theorem BSt.set2 (h : BSt w0 old r r' w) (x : Nat → Value) : BSt w0 old r x (w.setRow (w0.heap.size + 1 + 1) (arr 32 x)) :=
  ⟨h.ro.farRow (by omega) _, h.r1.farRow (by omega) _, h.r2.setRow x, Below.setRow h.kept (by omega) _⟩
theorem BSt.far {g : Nat} (h : BSt w0 old r r' w) (hg : w0.heap.size + 1 + 1 < g) (x : Array Value) : BSt w0 old r r' (w.setRow g x) :=
  ⟨h.ro.farRow (by omega) _, h.r1.farRow (by omega) _, h.r2.farRow (by omega) _, Below.setRow h.kept (by omega) _⟩
theorem BSt.start (w : World) (old : HF) : ∃ w0, ((w.alloc (.cells (arr 32 (U8 old)) 24)).alloc (.cells (arr 32 fun _ => .int .u8 0) 24)).alloc (.cells (arr 32 fun _ => .int .u8 0) 24) = w0 ∧
    BSt w old (fun _ => .int .u8 0) (fun _ => .int .u8 0) w0 :=
  ⟨_, rfl, ((Row.newArr _ _ _ _).alloc _).alloc _, (Row.newAt _ _ _ _ (by simp)).alloc _, Row.newAt _ _ _ _ (by simp), (((Below.refl _ _).alloc (Nat.le_refl _) _).alloc (by simp) _).alloc (by simp; omega) _⟩
/-- how both ends -/
def BEnd (w : World) (q : HF × HF) (e : Ending) (w' : World) : Prop := e = .returned (.tuple #[.agg (arr 32 (U8 q.1)), .agg (arr 32 (U8 q.2))]) ∧ Below w.heap.size w w'
theorem BSt.ret {r1 r2 : HF} {x : Act} (h : BSt w0 old (U8 r1) (U8 r2) w) (h9 : x.tmps.getD 10 undef = .pointer (some ⟨w0.heap.size + 1, 0, none⟩)) (h10 : x.tmps.getD 11 undef = .pointer (some ⟨w0.heap.size + 1 + 1, 0, none⟩)) (hd : x.defers = []) :
    bodyPost Try.prog Try.f48 (BEnd w0 (r1, r2)) .ret x w :=
  ret_two rfl _ _ h9 h10 h.r1 h.r2 Try.underlying24 (by kernel_rfl) hd ⟨rfl, h.kept⟩
end
/-- a call of the reference's Node -/
theorem wpList_refnode {ops : Array Oper} {rest : List Oper} {o : Oper} {act : Act} {w : World} {Q : Exit → Act → World → Prop} {f g : HF} {ats : Array TypeId} (hg : o.guard = none) (x y : Operand) (ho : o.op = .call { callee := .value (.func 19), args := #[x, y], argTypes := ats }) (hx : act.eval x = .agg (arr 32 (U8 f))) (hy : act.eval y = .agg (arr 32 (U8 g)))
    (h : ∀ w', Below w.heap.size w w' → wpList Try.prog ops Q rest (act.put o.dst (.agg (arr 32 (U8 (nodeS f g))))) w') : wpList Try.prog ops Q (o :: rest) act w := by
  refine wpList_calls hg (args := #[.agg (arr 32 (U8 f)), .agg (arr 32 (U8 g))]) (by rw [exec_fn ho]; simp only [List.map_toArray, List.map_cons, List.map_nil, hx, hy]; exact run_refnode _ _) refnode_arr ?_
  rintro e w' ⟨rfl, h1⟩
  exact ⟨_, rfl, h w' h1⟩
/-- a pure operation by its run -/
theorem wpList_value {P : Program} {ops : Array Oper} {rest : List Oper} {o : Oper} {a : Act} {w : World} {Q : Exit → Act → World → Prop} (hg : o.guard = none) {v : Value} (hrun : (execOp a.eval o).run P w = .ok (.value v) w)
    (h : wpList P ops Q rest (a.put o.dst v) w) : wpList P ops Q (o :: rest) a w := by
  refine wpList_plain hg fun K hK => ?_
  unfold Oper.wp
  rw [hrun]
  exact hK _ _ h
theorem wpList_move {P : Program} {ops : Array Oper} {rest : List Oper} {o : Oper} {a : Act} {w : World} {Q : Exit → Act → World → Prop} (hg : o.guard = none) (x : Operand) (ho : o.op = .move x) {v : Value} (hx : a.eval x = v)
    (h : wpList P ops Q rest (a.put o.dst v) w) : wpList P ops Q (o :: rest) a w := by
  refine wpList_value hg ?_ h
  unfold execOp
  simp only [ho, hx]
  rfl
/-- the address of the first hash of a slice -/
theorem wpList_first {ops : Array Oper} {rest : List Oper} {o : Oper} {a : Act} {w : World} {Q : Exit → Act → World → Prop} (hg : o.guard = none) (x : Operand) (ho : o.op = .indexAddr 38 x (.const (.int .i64 0))) {b off cap : Nat} {n : Nat} (hn : 0 < n) (hx : a.eval x = .slice (some ⟨b, off, none⟩) n cap)
    (h : wpList Try.prog ops Q rest (a.put o.dst (.pointer (some ⟨b, off, none⟩))) w) : wpList Try.prog ops Q (o :: rest) a w := by
  refine wpList_value hg ?_ h
  unfold execOp
  have e : a.eval (.const (.int .i64 0)) = .int .i64 0 := rfl
  simp only [ho, hx, e]
  go_simp
end Go.Proofs.Ytijhdfllffkfjaa
