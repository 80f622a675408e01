/- Growth that is checked: the walking closure, its two halves. -/
import Derived.Test.YtijhdfllffkfjaaTrN
namespace Go.Proofs.Ytijhdfllffkfjaa
open Go.RowKit
/-- a call by its contract -/
theorem wpList_calls {P : Program} {ops : Array Oper} {rest : List Oper} {o : Oper} {a : Act} {w : World} {Q : Exit → Act → World → Prop} (hg : o.guard = none) {f : FuncId} {args : Array Value} (hrun : (execOp a.eval o).run P w = .ok (.enter f args) w)
    {R : Ending → World → Prop} (hc : Calls P f args w R) (h : ∀ e w', R e w' → ∃ v, e = .returned v ∧ wpList P ops Q rest (a.put o.dst v) w') : wpList P ops Q (o :: rest) a w := by
  refine wpList_plain hg fun K hK => ?_
  unfold Oper.wp
  rw [hrun, Oper.upon_enter]
  refine hc.mono fun e w'' hh => ?_
  obtain ⟨v, rfl, hq⟩ := h e w'' hh
  exact hK _ _ hq
theorem exec_closure {o : Oper} {a : Act} {x : Operand} {xs : Array Operand} {ats : Array TypeId} {k : FuncId} {caps : Array Value} (ho : o.op = .call { callee := .value x, args := xs, argTypes := ats }) (hx : a.eval x = .func (.func k) #[] caps) : execOp a.eval o = callFunc k (xs.map a.eval ++ caps) := by
  unfold execOp
  simp [ho, resolve, Deferred.ofValue, invoke, hx]
theorem exec_fn {o : Oper} {a : Act} {xs : Array Operand} {ats : Array TypeId} {k : FuncId} (ho : o.op = .call { callee := .value (.func k), args := xs, argTypes := ats }) : execOp a.eval o = callFunc k (xs.map a.eval) := by
  have e : a.eval (.func k) = .func (.func k) #[] #[] := rfl
  rw [exec_closure ho e, Array.append_empty]
theorem run_take (args : Array Value) (w : World) : (callFunc 58 args).run Try.prog w = .ok (.enter 58 args) w := rfl
theorem run_node (args : Array Value) (w : World) : (callFunc 18 args).run Try.prog w = .ok (.enter 18 args) w := rfl
theorem run_refnode (args : Array Value) (w : World) : (callFunc 19 args).run Try.prog w = .ok (.enter 19 args) w := rfl
theorem load_fn {w : World} {b : Nat} {v : Value} (h : w.cell? ⟨b, 0, none⟩ = some v) : (Instr.loadAt 94 (.pointer (some ⟨b, 0, none⟩))).run Try.prog w = .ok v w := by
  go_simp
theorem wpList_load_fn {ops : Array Oper} {rest : List Oper} {o : Oper} {a : Act} {w : World} {Q : Exit → Act → World → Prop} (hg : o.guard = none) (x : Operand) (ho : o.op = .load 94 x) (b : Nat) (hx : a.eval x = .pointer (some ⟨b, 0, none⟩)) {v : Value} (hc : w.cell? ⟨b, 0, none⟩ = some v)
    (h : wpList Try.prog ops Q rest (a.put o.dst v) w) : wpList Try.prog ops Q (o :: rest) a w := by
  refine wpList_plain hg fun K hK => ?_
  unfold Oper.wp execOp
  simp only [ho, hx, Sem.run_bind, Result.andThen_ok, load_fn hc]
  exact hK _ _ h
/-- a call of take, its variable read -/
theorem wpList_take {ops : Array Oper} {rest : List Oper} {o : Oper} {act : Act} {w : World} {Q : Exit → Act → World → Prop} {bk ba bp : Nat} {a : Option Addr} {cap : Nat} {H : List HF} {t : Nat} (hgd : o.guard = none) (x : Operand) (ho : o.op = .call { callee := .value x, args := #[], argTypes := #[] }) (hx : act.eval x = tFn bk ba bp)
    (hT : TkSt w bk ba bp a cap H t) (h : ∀ w', TkSt w' bk ba bp a cap H (t + 1) → KeptT ba bk w w' → wpList Try.prog ops Q rest (act.put o.dst (.agg (arr 32 (U8 (hg H t))))) w') : wpList Try.prog ops Q (o :: rest) act w := by
  refine wpList_calls hgd (by rw [exec_closure ho hx, show (#[] : Array Operand).map act.eval = #[] by simp, Array.empty_append]; exact run_take _ _) (take_any hT) ?_
  rintro e w' ⟨rfl, h1, h2⟩
  exact ⟨_, rfl, h w' h1 h2⟩
/-- a call of Node -/
theorem wpList_node {ops : Array Oper} {rest : List Oper} {o : Oper} {act : Act} {w : World} {Q : Exit → Act → World → Prop} {f g : HF} {ats : Array TypeId} (hg : o.guard = none) (x y : Operand) (ho : o.op = .call { callee := .value (.func 18), args := #[x, y], argTypes := ats }) (hx : act.eval x = .agg (arr 32 (U8 f))) (hy : act.eval y = .agg (arr 32 (U8 g)))
    (h : ∀ w', Below w.heap.size w w' → wpList Try.prog ops Q rest (act.put o.dst (.agg (arr 32 (U8 (nodeS f g))))) w') : wpList Try.prog ops Q (o :: rest) act w := by
  refine wpList_calls hg (args := #[.agg (arr 32 (U8 f)), .agg (arr 32 (U8 g))]) (by rw [exec_fn ho]; simp only [List.map_toArray, List.map_cons, List.map_nil, hx, hy]; exact run_node _ _) node_arr ?_
  rintro e w' ⟨rfl, h1⟩
  exact ⟨_, rfl, h w' h1⟩
theorem eval_in {a : Act} {s : Tmp} {L : List Tmp} {f : Tmp → Value} {v : Value} (hs : s < a.tmps.size) (hL : s ∈ L) (h : f s = v) : (puts a L f).eval (.tmp s) = v := (puts_in hs L f hL).trans h
theorem eval_out {a : Act} {s : Tmp} {L : List Tmp} {f : Tmp → Value} {v : Value} (hL : s ∉ L) (h : a.tmps.getD s undef = v) : (puts a L f).eval (.tmp s) = v := (puts_out L f hL).trans h
section
variable {w : World} {br bp ba bk bt bw : Nat} {a : Option Addr} {cap : Nat} {H : List HF} {root : HF} {t t1 : Nat} {q1 q2 : HF}
theorem CkSt.ofEnd {w' : World} {r r' : Nat → Value} {w0 : World} {q : HF × HF} (h : WSt w0 br bp ba bk bt bw a cap H root t r r' w) {e : Ending} (he : WEnd w br bp ba bk bt bw a cap H root t1 q e w') : WSt w0 br bp ba bk bt bw a cap H root t1 r r' w' := h.moved he.2.1.tk he.2.2
set_option maxHeartbeats 8000000 in
set_option maxRecDepth 100000 in
theorem cwalk_lo {n m k : Nat} {whole : Bool} (h : CkSt w br bp ba bk bt bw a cap H root t) (h2 : 2 ≤ n) (hn : n ≤ 9223372036854775807) (hk : halfN n = k) (hm : m ≤ k)
    (h1 : ∀ W, CkSt W br bp ba bk bt bw a cap H root t → Calls Try.prog 59 #[.int .i64 (k : Int), .int .i64 (m : Int), .bool whole, .pointer (some ⟨br, 0, none⟩), .pointer (some ⟨bt, 0, none⟩), .pointer (some ⟨bw, 0, none⟩)] W (WEnd W br bp ba bk bt bw a cap H root t1 (q1, q2))) :
    Calls Try.prog 59 #[.int .i64 (n : Int), .int .i64 (m : Int), .bool whole, .pointer (some ⟨br, 0, none⟩), .pointer (some ⟨bt, 0, none⟩), .pointer (some ⟨bw, 0, none⟩)] w (WEnd w br bp ba bk bt bw a cap H root (t1 + 1) (q1, nodeS q2 (hg H t1))) := by
  obtain ⟨k1, k2, k3⟩ := halfN_lt h2
  rw [hk] at k1 k2 k3
  have HK := Lib.hid hk
  have n0 : ((m : Int) == (n : Int)) = false := by simp; omega
  obtain ⟨w0, hw0, S0⟩ := h.start
  clear h hk
  have H1 := Lib.hid h1
  clear h1
  have hfw := S0.st.fw
  have S0 := Lib.hid S0
  unfold wFn at hfw
  go_enter Try.func59, Try.ntmps59
  go_upto_region 1 with ((with_reducible refine wpList_alloc_is ?_ 24 ?_ 32 (.int .u8 0) ?_ ?_); rfl; rfl; kernel_rfl; (try simp only [World.size_alloc]))
  rw [hw0]
  clear hw0
  go_wp2_with fail
  refine (half_any h2 (by omega)).mono ?_
  rintro e w1 ⟨rfl, hw⟩
  obtain rfl := hw.symm
  rw [HK.out]
  clear n0 hw
  go_wp2_with fail
  refine (H1.out _ S0.out.st).mono ?_
  rintro e w2 he
  have S2 := S0.out.moved he.2.1.tk he.2.2
  obtain ⟨rfl, -, -⟩ := he
  clear S0 H1 hfw
  have r9 := S2.r1
  have r10 := (S2.set1 (U8 q1)).r2
  have S3 := Lib.hid ((S2.set1 (U8 q1)).set2 (U8 q2))
  clear S2
  go_upto_region 9 with (first | ((with_reducible refine wpList_store_is ?_ 24 (.tmp 9) (.tmp 35) ?_ w.heap.size 32 (U8 q1) _ ?_ ?_ 24 r9 ?_ ?_ ?_); rfl; rfl; rfl; rfl; kernel_rfl; exact fun _ _ => rfl) | ((with_reducible refine wpList_store_is ?_ 24 (.tmp 10) (.tmp 36) ?_ (w.heap.size + 1) 32 (U8 q2) _ ?_ ?_ 24 r10 ?_ ?_ ?_); rfl; rfl; rfl; rfl; kernel_rfl; exact fun _ _ => rfl))
  clear r9 r10
  replace S3 := S3.out
  generalize (w2.setRow w.heap.size (arr 32 (U8 q1))).setRow (w.heap.size + 1) (arr 32 (U8 q2)) = w3 at *
  generalize hy : hg H t1 = y
  have hlt : bw < w.heap.size := S3.lt
  refine wp_forget3 [37, 38, 39, 40, 41] (fun act => act.tmps.size = 61 ∧ act.tmps.getD 9 undef = .pointer (some ⟨w.heap.size, 0, none⟩) ∧ act.tmps.getD 10 undef = .pointer (some ⟨w.heap.size + 1, 0, none⟩) ∧ act.tmps.getD 4 undef = .pointer (some ⟨bt, 0, none⟩) ∧ act.defers = []) (fun x => x.tmps.getD 9 undef = .pointer (some ⟨w.heap.size, 0, none⟩) ∧ x.tmps.getD 10 undef = .pointer (some ⟨w.heap.size + 1, 0, none⟩) ∧ x.defers = []) (fun _ w' => WSt w br bp ba bk bt bw a cap H root (t1 + 1) (U8 q1) (U8 (nodeS q2 y)) w') ⟨rfl, rfl, rfl, rfl, rfl⟩ (fun f => ⟨out_of (by decide) rfl, out_of (by decide) rfl, (puts_defers _ _ _).trans rfl⟩) ?_ ?_
  · rintro x f w' ⟨x1, x2, xd⟩ S
    apply_assumption
    rw [← hy] at S
    exact wp_ret (S.ret x1 x2 xd)
  rintro act Q' ⟨a1, a9, a10, a4, ad⟩ HQ
  refine wp_region_inv [37, 38, 39, 40, 41] (fun δ f w' => (δ 0 = true → f 37 = .agg (arr 32 (U8 q1))) ∧ (δ 1 = true → f 38 = .agg (arr 32 (U8 q2))) ∧ (δ 2 = true → f 39 = tFn bk ba bp) ∧ (δ 3 = true → f 40 = .agg (arr 32 (U8 y))) ∧ (δ 4 = true → f 41 = .agg (arr 32 (U8 (nodeS q2 y)))) ∧
    (δ 4 = true → δ 1 = true) ∧ (δ 6 = true → δ 4 = true) ∧
    WSt w br bp ba bk bt bw a cap H root (bif δ 3 then t1 + 1 else t1) (U8 q1) (sel (δ 6) (U8 (nodeS q2 y)) (U8 q2)) w') (by kernel_rfl) (by kernel_rfl) ?_ ?_ ?_
  · exact ⟨fun e => Bool.noConfusion e, fun e => Bool.noConfusion e, fun e => Bool.noConfusion e, fun e => Bool.noConfusion e, fun e => Bool.noConfusion e, fun e => Bool.noConfusion e, fun e => Bool.noConfusion e, S3.drew⟩
  · refine ⟨?_, ?_, ?_, ?_, ?_, ?_, ?_, trivial⟩
    · rintro δ f w' ⟨h0, h1, h2, h3, h4, i1, i2, S⟩ hd -
      refine wpList_load_h rfl (.tmp 9) rfl w.heap.size 0 (eval_out (by decide) a9) q1 (row_range S.r1) ?_
      exact ⟨_, puts_put _ 37 _ _ f (by decide), fun _ => rfl, h1, h2, h3, h4, i1, i2, S⟩
    · rintro δ f w' ⟨h0, h1, h2, h3, h4, i1, i2, S⟩ hd -
      have hd6 : δ 6 = false := by cases h : δ 6 with | false => rfl | true => rw [i1 (i2 h)] at hd; cases hd
      have S' := S
      rw [hd6] at S'
      refine wpList_load_h rfl (.tmp 10) rfl (w.heap.size + 1) 0 (eval_out (by decide) a10) q2 (row_range S'.r2) ?_
      exact ⟨_, puts_put _ 38 _ _ f (by decide), h0, fun _ => rfl, h2, h3, h4, fun _ => rfl, i2, S⟩
    · rintro δ f w' ⟨h0, h1, h2, h3, h4, i1, i2, S⟩ hd -
      refine wpList_load_fn rfl (.tmp 4) rfl bt (eval_out (by decide) a4) S.st.ft ?_
      exact ⟨_, puts_put _ 39 _ _ f (by decide), h0, h1, fun _ => rfl, h3, h4, i1, i2, S⟩
    · rintro δ f w' ⟨h0, h1, h2, h3, h4, i1, i2, S⟩ hd ha
      rw [hd] at S
      refine wpList_take rfl (.tmp 39) rfl (eval_in (by rw [a1]; decide) (by decide) (h2 (ha.1 rfl))) S.st.tk ?_
      intro w'' hT hK
      have S'' := S.moved hT hK
      simp only [cond_false] at S'' ⊢
      rw [hy]
      exact ⟨_, puts_put _ 40 _ _ f (by decide), h0, h1, h2, fun _ => rfl, h4, i1, i2, S''⟩
    · rintro δ f w' ⟨h0, h1, h2, h3, h4, i1, i2, S⟩ hd ha
      refine wpList_node rfl (.tmp 38) (.tmp 40) rfl (eval_in (by rw [a1]; decide) (by decide) (h1 (ha.1 rfl))) (eval_in (by rw [a1]; decide) (by decide) (h3 (ha.2.1 rfl))) ?_
      intro w'' hb
      exact ⟨_, puts_put _ 41 _ _ f (by decide), h0, h1, h2, h3, fun _ => rfl, fun _ => ha.1 rfl, fun _ => rfl, S.below hb⟩
    · rintro δ f w' ⟨h0, h1, h2, h3, h4, i1, i2, S⟩ hd ha
      refine wpList_store_is rfl 24 (.tmp 9) (.tmp 37) rfl w.heap.size 32 (U8 q1) _ (eval_out (by decide) a9) (eval_in (by rw [a1]; decide) (by decide) (h0 (ha.1 rfl))) 24 S.r1 (by kernel_rfl) (fun _ _ => rfl) ?_
      exact ⟨f, puts_none _ _ _ _, h0, h1, h2, h3, h4, i1, i2, S.set1 (U8 q1)⟩
    · rintro δ f w' ⟨h0, h1, h2, h3, h4, i1, i2, S⟩ hd ha
      refine wpList_store_is rfl 24 (.tmp 10) (.tmp 41) rfl (w.heap.size + 1) 32 (U8 (nodeS q2 y)) _ (eval_out (by decide) a10) (eval_in (by rw [a1]; decide) (by decide) (h4 (ha.1 rfl))) 24 S.r2 (by kernel_rfl) (fun _ _ => rfl) ?_
      exact ⟨f, puts_none _ _ _ _, h0, h1, h2, h3, h4, i1, fun _ => ha.1 rfl, S.set2 (U8 (nodeS q2 y))⟩
  · rintro δ f w' hall ⟨-, -, -, -, -, -, -, S⟩
    have h3 := hall 3 (by decide)
    have h6 := hall 6 (by decide)
    rw [h3, h6] at S
    exact HQ f w' S
end
end Go.Proofs.Ytijhdfllffkfjaa
