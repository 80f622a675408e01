/- Growth that is checked: the program's closure that walks. -/
import Derived.Test.YtijhdfllffkfjaaTrM
import Derived.Test.YtijhdfllffkfjaaInv
namespace Go.Proofs.Ytijhdfllffkfjaa
open Go.RowKit

def tFn (bk ba bp : Nat) : Value := .func (.func 58) #[] #[.pointer (some ⟨bk, 0, none⟩), .pointer (some ⟨ba, 0, none⟩), .pointer (some ⟨bp, 0, none⟩)]
def wFn (br bt bw : Nat) : Value := .func (.func 59) #[] #[.pointer (some ⟨br, 0, none⟩), .pointer (some ⟨bt, 0, none⟩), .pointer (some ⟨bw, 0, none⟩)]
/-- what the closures' variables hold, take having been called t times -/
structure CkSt (w : World) (br bp ba bk bt bw : Nat) (a : Option Addr) (cap : Nat) (H : List HF) (root : HF) (t : Nat) : Prop where
  tk : TkSt w bk ba bp a cap H t
  rt : Row w br 24 32 (U8 root)
  ft : w.cell? ⟨bt, 0, none⟩ = some (tFn bk ba bp)
  fw : w.cell? ⟨bw, 0, none⟩ = some (wFn br bt bw)
  l1 : br < bp
  l2 : bk < bt
  l3 : bt < bw
  size : bw < w.heap.size
theorem CkSt.moved {w w' : World} {br bp ba bk bt bw : Nat} {a : Option Addr} {cap : Nat} {H : List HF} {root : HF} {t t' : Nat} (h : CkSt w br bp ba bk bt bw a cap H root t) (hT : TkSt w' bk ba bp a cap H t') (hK : KeptT ba bk w w') : CkSt w' br bp ba bk bt bw a cap H root t' := by
  have h1 := h.l1; have h2 := h.l2; have h3 := h.l3; have h4 := h.size; have h5 := h.tk.lt1; have h6 := h.tk.lt2; have h7 := hK.size
  exact ⟨hT, hK.row h.rt (by omega) (by omega), by rw [hK.cell (by omega) (by omega) (by omega)]; exact h.ft, by rw [hK.cell (by omega) (by omega) (by omega)]; exact h.fw, h1, h2, h3, by omega⟩
theorem CkSt.below {w w' : World} {br bp ba bk bt bw : Nat} {a : Option Addr} {cap : Nat} {H : List HF} {root : HF} {t : Nat} (h : CkSt w br bp ba bk bt bw a cap H root t) (hb : Below w.heap.size w w') : CkSt w' br bp ba bk bt bw a cap H root t :=
  h.moved (h.tk.kept hb) (KeptT.of_below hb)
/-- how the closure ends -/
def WEnd (w : World) (br bp ba bk bt bw : Nat) (a : Option Addr) (cap : Nat) (H : List HF) (root : HF) (t : Nat) (r : HF × HF) (e : Ending) (w' : World) : Prop :=
  e = .returned (.tuple #[.agg (arr 32 (U8 r.1)), .agg (arr 32 (U8 r.2))]) ∧ CkSt w' br bp ba bk bt bw a cap H root t ∧ KeptT ba bk w w'
theorem results_two {P : Program} {fn : Func} {p q : Tmp} {ty : TypeId} (h : fn.results = #[.cell p ty, .cell q ty]) (tmps : Array Value) {w : World} {g g' : Nat} {t : TypeId} {n : Nat} {f f' : Nat → Value}
    (hp : tmps.getD p undef = .pointer (some ⟨g, 0, none⟩)) (hq : tmps.getD q undef = .pointer (some ⟨g', 0, none⟩)) (hg : Row w g t n f) (hg' : Row w g' t n f') {e : TypeId} (hu : P.underlying ty = some (.array n e)) (hi : (P.info? ty).map (·.size) = some n) :
    (results fn tmps).run P w = .ok (.tuple #[.agg (arr n f), .agg (arr n f')]) w := by
  have hp' : tmps[p]?.getD undef = .pointer (some ⟨g, 0, none⟩) := by simpa using hp
  have hq' : tmps[q]?.getD undef = .pointer (some ⟨g', 0, none⟩) := by simpa using hq
  simp [results, h, hp', hq', asAddr, run_loadVar_row w g t ty (arr n f) (0, 0) _ hg hu rfl (by rw [hi, size_arr]), run_loadVar_row w g' t ty (arr n f') (0, 0) _ hg' hu rfl (by rw [hi, size_arr])]
theorem ret_two {P : Program} {fn : Func} {R : Ending → World → Prop} {a : Act} {w : World} {p q : Tmp} {ty : TypeId} (h : fn.results = #[.cell p ty, .cell q ty]) (g g' : Nat) (hp : a.tmps.getD p undef = .pointer (some ⟨g, 0, none⟩)) (hq : a.tmps.getD q undef = .pointer (some ⟨g', 0, none⟩))
    {t : TypeId} {n : Nat} {f f' : Nat → Value} (hg : Row w g t n f) (hg' : Row w g' t n f') {e : TypeId} (hu : P.underlying ty = some (.array n e)) (hi : (P.info? ty).map (·.size) = some n)
    (hdf : a.defers = []) (hR : R (.returned (.tuple #[.agg (arr n f), .agg (arr n f')])) w) : bodyPost P fn R .ret a w :=
  bodyPost_ret (results_two h _ hp hq hg hg' hu hi) hdf hR
theorem there_row {w : World} {b : Nat} {t : TypeId} {n : Nat} {f : Nat → Value} (h : Row w b t n f) : w.there b 0 n := fun j hj => by
  rw [Nat.zero_add, h.cell hj]
  exact ⟨rfl, h.frozen j⟩
section
variable {w : World} {br bp ba bk bt bw : Nat} {a : Option Addr} {cap : Nat} {H : List HF} {root : HF} {t : Nat}
/-- two blocks for the results -/
theorem CkSt.two (h : CkSt w br bp ba bk bt bw a cap H root t) : ∃ w0, (w.alloc (.cells (arr 32 fun _ => .int .u8 0) 24)).alloc (.cells (arr 32 fun _ => .int .u8 0) 24) = w0 ∧
    CkSt w0 br bp ba bk bt bw a cap H root t ∧ Row w0 w.heap.size 24 32 (fun _ => .int .u8 0) ∧ Row w0 (w.heap.size + 1) 24 32 (fun _ => .int .u8 0) ∧ Below w.heap.size w w0 ∧ w0.heap.size = w.heap.size + 2 :=
  ⟨_, rfl, h.below (((Below.refl _ _).alloc (Nat.le_refl _) _).alloc (by simp) _), (Row.newArr _ _ _ _).alloc _, Row.newAt _ _ _ _ (by simp), ((Below.refl _ _).alloc (Nat.le_refl _) _).alloc (by simp) _, by simp⟩

theorem TkSt.at_ {n : Nat} {w' : World} (h : TkSt w bk ba bp a cap H t) (hb : Below n w w') (hn : bk < n) : TkSt w' bk ba bp a cap H t := by
  have h1 := h.lt1; have h2 := h.lt2; have h3 := h.size
  refine ⟨?_, ?_, ?_, ?_, ?_, h.le, h.most, fun hp => ?_, h1, h2, by have := hb.size; omega⟩
  · rw [hb.cell (p := ⟨bk, 0, none⟩) (by show bk < _; omega)]; exact h.ok
  · rw [hb.frozen (p := ⟨bk, 0, none⟩) (by show bk < _; omega)]; exact h.okf
  · rw [hb.cell (p := ⟨ba, 0, none⟩) (by show ba < _; omega)]; exact h.num
  · rw [hb.frozen (p := ⟨ba, 0, none⟩) (by show ba < _; omega)]; exact h.numf
  · rw [hb.cell (p := ⟨bp, 0, none⟩) (by show bp < _; omega)]; exact h.pr
  · obtain ⟨b, off, k1, k2, k3⟩ := h.row hp
    exact ⟨b, off, k1, k2.at_ hb (by omega), k3⟩
theorem CkSt.at_ {n : Nat} {w' : World} (h : CkSt w br bp ba bk bt bw a cap H root t) (hb : Below n w w') (hn : bw < n) : CkSt w' br bp ba bk bt bw a cap H root t := by
  have h1 := h.l1; have h2 := h.l2; have h3 := h.l3; have h4 := h.size; have h5 := h.tk.lt1; have h6 := h.tk.lt2; have h7 := hb.size
  refine ⟨h.tk.at_ hb (by omega), h.rt.below hb (by omega), ?_, ?_, h1, h2, h3, by omega⟩
  · rw [hb.cell (p := ⟨bt, 0, none⟩) (by show bt < _; omega)]; exact h.ft
  · rw [hb.cell (p := ⟨bw, 0, none⟩) (by show bw < _; omega)]; exact h.fw
/-- inside the closure: the two results' blocks -/
structure WSt (w0 : World) (br bp ba bk bt bw : Nat) (a : Option Addr) (cap : Nat) (H : List HF) (root : HF) (t : Nat) (r r' : Nat → Value) (w : World) : Prop where
  st : CkSt w br bp ba bk bt bw a cap H root t
  r1 : Row w w0.heap.size 24 32 r
  r2 : Row w (w0.heap.size + 1) 24 32 r'
  kept : KeptT ba bk w0 w
  lt : bw < w0.heap.size
variable {w0 : World} {r r' : Nat → Value}
theorem WSt.size (h : WSt w0 br bp ba bk bt bw a cap H root t r r' w) : w0.heap.size + 2 ≤ w.heap.size := h.r2.lt
theorem WSt.below {w' : World} (h : WSt w0 br bp ba bk bt bw a cap H root t r r' w) (hb : Below w.heap.size w w') : WSt w0 br bp ba bk bt bw a cap H root t r r' w' :=
  ⟨h.st.below hb, h.r1.belowAll hb, h.r2.belowAll hb, h.kept.trans (KeptT.of_below hb), h.lt⟩
theorem WSt.drew (h : WSt w0 br bp ba bk bt bw a cap H root t r r' w) : WSt w0 br bp ba bk bt bw a cap H root t r r' w.drew := h.below (Below.refl _ _).drew
theorem WSt.set1 (h : WSt w0 br bp ba bk bt bw a cap H root t r r' w) (x : Nat → Value) : WSt w0 br bp ba bk bt bw a cap H root t x r' (w.setRow w0.heap.size (arr 32 x)) := by
  have hs := h.size; have hl := h.lt
  exact ⟨h.st.at_ (Below.setRow (Below.refl w0.heap.size w) (Nat.le_refl _) _) hl, h.r1.setRow x, h.r2.farRow (by omega) _, h.kept.setRow (Nat.le_refl _) _, hl⟩
theorem WSt.set2 (h : WSt w0 br bp ba bk bt bw a cap H root t r r' w) (x : Nat → Value) : WSt w0 br bp ba bk bt bw a cap H root t r x (w.setRow (w0.heap.size + 1) (arr 32 x)) := by
  have hs := h.size; have hl := h.lt
  exact ⟨h.st.at_ (Below.setRow (Below.refl w0.heap.size w) (Nat.le_succ _) _) hl, h.r1.farRow (by omega) _, h.r2.setRow x, h.kept.setRow (Nat.le_succ _) _, hl⟩
theorem WSt.moved {w' : World} {t' : Nat} (h : WSt w0 br bp ba bk bt bw a cap H root t r r' w) (hT : TkSt w' bk ba bp a cap H t') (hK : KeptT ba bk w w') : WSt w0 br bp ba bk bt bw a cap H root t' r r' w' := by
  have h1 := h.st.l2; have h2 := h.st.l3; have h3 := h.st.tk.lt2; have h4 := h.lt; have h5 := h.st.tk.lt1
  exact ⟨h.st.moved hT hK, hK.row h.r1 (by omega) (by omega), hK.row h.r2 (by omega) (by omega), h.kept.trans hK, h.lt⟩
theorem CkSt.start (h : CkSt w br bp ba bk bt bw a cap H root t) : ∃ w0, (w.alloc (.cells (arr 32 fun _ => .int .u8 0) 24)).alloc (.cells (arr 32 fun _ => .int .u8 0) 24) = w0 ∧
    WSt w br bp ba bk bt bw a cap H root t (fun _ => .int .u8 0) (fun _ => .int .u8 0) w0 := by
  obtain ⟨w0, e, h1, h2, h3, h4, -⟩ := h.two
  exact ⟨w0, e, h1, h2, h3, KeptT.of_below h4, h.size⟩
theorem WSt.ret {r1 r2 : HF} {x : Act} (h : WSt w0 br bp ba bk bt bw a cap H root t (U8 r1) (U8 r2) w) (h9 : x.tmps.getD 9 undef = .pointer (some ⟨w0.heap.size, 0, none⟩)) (h10 : x.tmps.getD 10 undef = .pointer (some ⟨w0.heap.size + 1, 0, none⟩)) (hd : x.defers = []) :
    bodyPost Try.prog Try.f59 (WEnd w0 br bp ba bk bt bw a cap H root t (r1, r2)) .ret x w :=
  ret_two rfl _ _ h9 h10 h.r1 h.r2 Try.underlying24 (by kernel_rfl) hd ⟨rfl, h.st, h.kept⟩
theorem WSt.far {g : Nat} (h : WSt w0 br bp ba bk bt bw a cap H root t r r' w) (hg : w0.heap.size + 2 ≤ g) (x : Array Value) : WSt w0 br bp ba bk bt bw a cap H root t r r' (w.setRow g x) := by
  have hl := h.lt
  exact ⟨h.st.at_ (Below.setRow (Below.refl g w) (Nat.le_refl _) _) (by omega), h.r1.farRow (by omega) _, h.r2.farRow (by omega) _, h.kept.setRow (by omega) _, hl⟩
/-- stores into the results -/
def sel (b : Bool) (x z : Nat → Value) : Nat → Value := bif b then x else z
set_option maxHeartbeats 2000000 in
set_option maxRecDepth 100000 in
theorem cwalk_whole {n : Nat} (h : CkSt w br bp ba bk bt bw a cap H root t) :
    Calls Try.prog 59 #[.int .i64 (n : Int), .int .i64 (n : Int), .bool true, .pointer (some ⟨br, 0, none⟩), .pointer (some ⟨bt, 0, none⟩), .pointer (some ⟨bw, 0, none⟩)] w (WEnd w br bp ba bk bt bw a cap H root t (root, root)) := by
  obtain ⟨w0, hw0, S0⟩ := h.start
  clear h
  go_enter Try.func59, Try.ntmps59
  go_upto_region 1 with ((with_reducible refine wpList_alloc_is ?_ 24 ?_ 32 (.int .u8 0) ?_ ?_); rfl; rfl; kernel_rfl; (try simp only [World.size_alloc]))
  rw [hw0]
  clear hw0
  go_wp2_with fail
  refine wp_region_inv [18, 19] (fun δ f w' => (δ 0 = true → f 18 = .agg (arr 32 (U8 root))) ∧ (δ 1 = true → f 19 = .agg (arr 32 (U8 root))) ∧
    WSt w br bp ba bk bt bw a cap H root t (sel (δ 2) (U8 root) fun _ => .int .u8 0) (sel (δ 3) (U8 root) fun _ => .int .u8 0) w') (by kernel_rfl) (by kernel_rfl) ?_ ?_ ?_
  · exact ⟨fun e => Bool.noConfusion e, fun e => Bool.noConfusion e, S0.drew⟩
  · refine ⟨?_, ?_, ?_, ?_, trivial⟩
    · rintro δ f w' ⟨h0, h1, S⟩ hd -
      refine wpList_load_h rfl (.tmp 3) rfl br 0 rfl root (row_range S.st.rt) ?_
      exact ⟨_, puts_put _ 18 _ [18, 19] f (by decide), fun _ => rfl, fun e => h1 e, S⟩
    · rintro δ f w' ⟨h0, h1, S⟩ hd -
      refine wpList_load_h rfl (.tmp 3) rfl br 0 rfl root (row_range S.st.rt) ?_
      exact ⟨_, puts_put _ 19 _ [18, 19] f (by decide), fun e => h0 e, fun _ => rfl, S⟩
    · rintro δ f w' ⟨h0, h1, S⟩ hd ha
      refine wpList_store_is rfl 24 (.tmp 9) (.tmp 18) rfl w.heap.size 32 (U8 root) _ rfl (h0 (ha.1 rfl)) 24 S.r1 (by kernel_rfl) (fun _ _ => rfl) ?_
      exact ⟨f, puts_none _ _ _ _, fun e => h0 e, fun e => h1 e, S.set1 (U8 root)⟩
    · rintro δ f w' ⟨h0, h1, S⟩ hd ha
      refine wpList_store_is rfl 24 (.tmp 10) (.tmp 19) rfl (w.heap.size + 1) 32 (U8 root) _ rfl (h1 (ha.1 rfl)) 24 S.r2 (by kernel_rfl) (fun _ _ => rfl) ?_
      exact ⟨f, puts_none _ _ _ _, fun e => h0 e, fun e => h1 e, S.set2 (U8 root)⟩
  · rintro δ f w' hall ⟨-, -, S⟩
    have h2 := hall 2 (by decide)
    have h3 := hall 3 (by decide)
    rw [h2, h3] at S
    go_wp2_with fail
    exact S.ret rfl rfl rfl
set_option maxHeartbeats 2000000 in
set_option maxRecDepth 100000 in
theorem cwalk_not {n : Nat} (h : CkSt w br bp ba bk bt bw a cap H root t) :
    Calls Try.prog 59 #[.int .i64 (n : Int), .int .i64 (n : Int), .bool false, .pointer (some ⟨br, 0, none⟩), .pointer (some ⟨bt, 0, none⟩), .pointer (some ⟨bw, 0, none⟩)] w (WEnd w br bp ba bk bt bw a cap H root (t + 1) (hg H t, hg H t)) := by
  obtain ⟨w0, hw0, S0⟩ := h.start
  clear h
  have hft := S0.st.ft
  have S0 := Lib.hid S0
  unfold tFn at hft
  go_enter Try.func59, Try.ntmps59
  go_upto_region 1 with ((with_reducible refine wpList_alloc_is ?_ 24 ?_ 32 (.int .u8 0) ?_ ?_); rfl; rfl; kernel_rfl; (try simp only [World.size_alloc]))
  rw [hw0]
  clear hw0
  go_wp2_with fail
  refine (take_any S0.out.st.tk).mono ?_
  rintro e w2 ⟨rfl, hT, hK⟩
  have S2 := S0.out.moved hT hK
  clear S0 hft hT hK
  generalize hg H t = x at *
  have S3 := S2.below ((Below.refl _ _).alloc (Nat.le_refl _) (.cells (arr 32 fun _ => .int .u8 0) 24))
  have r3 := Row.newArr w2 24 32 (fun _ => .int .u8 0)
  have S4 := S3.far S2.size (arr 32 (U8 x))
  have r4 := r3.setRow (U8 x)
  have hz := S2.size
  clear S2 S3
  have S4 := Lib.hid S4
  have r4 := Lib.hid r4
  go_upto_region 5 with (first | ((with_reducible refine wpList_alloc_is ?_ 24 ?_ 32 (.int .u8 0) ?_ ?_); rfl; rfl; kernel_rfl) | ((with_reducible refine wpList_store_is ?_ 24 (.tmp 11) (.tmp 21) ?_ w2.heap.size 32 (U8 x) _ ?_ ?_ 24 r3 ?_ ?_ ?_); rfl; rfl; rfl; rfl; kernel_rfl; exact fun _ _ => rfl))
  clear r3
  generalize ((w2.alloc (.cells (arr 32 fun _ => .int .u8 0) 24)).setRow w2.heap.size (arr 32 (U8 x))) = w3 at *
  replace S4 := S4.out
  replace r4 := r4.out
  generalize w2.heap.size = g at *
  refine wp_region_inv [22, 23] (fun δ f w' => (δ 0 = true → f 22 = .agg (arr 32 (U8 x))) ∧ (δ 1 = true → f 23 = .agg (arr 32 (U8 x))) ∧ Row w' g 24 32 (U8 x) ∧
    WSt w br bp ba bk bt bw a cap H root (t + 1) (sel (δ 2) (U8 x) fun _ => .int .u8 0) (sel (δ 3) (U8 x) fun _ => .int .u8 0) w') (by kernel_rfl) (by kernel_rfl) ?_ ?_ ?_
  · exact ⟨fun e => Bool.noConfusion e, fun e => Bool.noConfusion e, r4, S4.drew⟩
  · refine ⟨?_, ?_, ?_, ?_, trivial⟩
    · rintro δ f w' ⟨h0, h1, hr, S⟩ hd -
      refine wpList_load_h rfl (.tmp 11) rfl g 0 rfl x (row_range hr) ?_
      exact ⟨_, puts_put _ 22 _ [22, 23] f (by decide), fun _ => rfl, fun e => h1 e, hr, S⟩
    · rintro δ f w' ⟨h0, h1, hr, S⟩ hd -
      refine wpList_load_h rfl (.tmp 11) rfl g 0 rfl x (row_range hr) ?_
      exact ⟨_, puts_put _ 23 _ [22, 23] f (by decide), fun e => h0 e, fun _ => rfl, hr, S⟩
    · rintro δ f w' ⟨h0, h1, hr, S⟩ hd ha
      refine wpList_store_is rfl 24 (.tmp 9) (.tmp 22) rfl w.heap.size 32 (U8 x) _ rfl (h0 (ha.1 rfl)) 24 S.r1 (by kernel_rfl) (fun _ _ => rfl) ?_
      exact ⟨f, puts_none _ _ _ _, fun e => h0 e, fun e => h1 e, hr.farRow (by omega) _, S.set1 (U8 x)⟩
    · rintro δ f w' ⟨h0, h1, hr, S⟩ hd ha
      refine wpList_store_is rfl 24 (.tmp 10) (.tmp 23) rfl (w.heap.size + 1) 32 (U8 x) _ rfl (h1 (ha.1 rfl)) 24 S.r2 (by kernel_rfl) (fun _ _ => rfl) ?_
      exact ⟨f, puts_none _ _ _ _, fun e => h0 e, fun e => h1 e, hr.farRow (by omega) _, S.set2 (U8 x)⟩
  · rintro δ f w' hall ⟨-, -, -, S⟩
    have h2 := hall 2 (by decide)
    have h3 := hall 3 (by decide)
    rw [h2, h3] at S
    go_wp2_with fail
    exact S.ret rfl rfl rfl
end
end Go.Proofs.Ytijhdfllffkfjaa
