/- Heads; lists that are compared; the strings of a law. -/
import Derived.Test.YtijhdfllffkfjaaTrI
namespace Go.Proofs.Ytijhdfllffkfjaa
open Go.RowKit

theorem run_alloc_cs {P : Program} (t : TypeId) (cs : Array Value) (h : (P.info? t).map (·.zero) = some (some (.agg cs))) (w : World) :
    (Instr.alloc t true (.tuple #[])).run P w = .ok (.pointer (some ⟨w.heap.size, 0, none⟩)) (w.alloc (.cells cs t)) := by
  obtain ⟨i, hi, hz⟩ := Option.map_eq_some_iff.1 h
  simp [Instr.alloc, newVar, newRow, zeroValue, typeInfo, hi, hz, Value.cells]
theorem wpList_alloc_cs {P : Program} {ops : Array Oper} {rest : List Oper} {o : Oper} {a : Act} {w : World} {Q : Exit → Act → World → Prop} (hg : o.guard = none) (t : TypeId) (ho : o.op = .alloc t)
    (cs : Array Value) (h : (P.info? t).map (·.zero) = some (some (.agg cs)))
    (hK : wpList P ops Q rest (a.put o.dst (.pointer (some ⟨w.heap.size, 0, none⟩))) (w.alloc (.cells cs t))) : wpList P ops Q (o :: rest) a w := by
  refine wpList_plain hg fun K hK' => ?_
  unfold Oper.wp execOp
  simp only [ho, Sem.run_bind, Sem.run_pure, Result.andThen_ok, run_alloc_cs t cs h]
  exact hK' _ _ hK
theorem Try.infoHead : (Try.prog.info? 36).map (·.zero) = some (some (.agg (hd 0 fun _ => 0))) := by kernel_rfl
theorem build_head (n : Int) (f : HF) : Try.prog.built 36 [(0, .int .i64 n), (1, .agg (arr 32 (U8 f)))] = some (hd n f) := by kernel_rfl
theorem hd_one (n : Int) (f : HF) : (hd n f).all (·.oneCell') = true := by
  have h := oneCell_arr 32 (U8 f) (fun _ _ => rfl)
  unfold hd
  rw [Array.all_append, h, Bool.and_true]
  simp [Value.oneCell']
theorem wpList_build_head {ops : Array Oper} {rest : List Oper} {o : Oper} {a : Act} {w : World} {Q : Exit → Act → World → Prop} (hg : o.guard = none) (x y : Operand) (ho : o.op = .build 36 #[(0, x), (1, y)]) (n : Int) (f : HF)
    (hx : a.eval x = .int .i64 n) (hy : a.eval y = .agg (arr 32 (U8 f))) (h : wpList Try.prog ops Q rest (a.put o.dst (.agg (hd n f))) w) : wpList Try.prog ops Q (o :: rest) a w := by
  refine wpList_build_is hg 36 _ ho (hd n f) ?_ h
  simp only [List.map_toArray, List.map_cons, List.map_nil, hx, hy]
  exact build_head n f
theorem wpList_store_head {ops : Array Oper} {rest : List Oper} {o : Oper} {a : Act} {w : World} {Q : Exit → Act → World → Prop} (hgd : o.guard = none) (x y : Operand) (ho : o.op = .store 36 x y) (g : Nat) (n n0 : Int) (f f0 : HF) (t : TypeId)
    (hx : a.eval x = .pointer (some ⟨g, 0, none⟩)) (hy : a.eval y = .agg (hd n f)) (hg : w.heap[g]? = some (.cells (hd n0 f0) t (0, 0)))
    (h : wpList Try.prog ops Q rest (a.put o.dst undef) (w.setRow g (hd n f))) : wpList Try.prog ops Q (o :: rest) a w :=
  wpList_store_row hgd 36 x y ho g (hd n f) hx hy t (hd n0 f0) hg (by rw [hd_size]; kernel_rfl) (by rw [hd_size, hd_size]) (hd_one _ _) h
/-- a head, as a result -/
def HeadEnd (w : World) (n : Int) (f : HF) (e : Ending) (w' : World) : Prop := e = .returned (.agg (hd n f)) ∧ Below w.heap.size w w'
set_option maxHeartbeats 1000000 in
set_option maxRecDepth 100000 in
theorem headof_any {L : List (List UInt8)} {v : Value} {w : World} (h : SSlice w v L) (hf : Fits L) :
    Calls Try.prog 22 #[v] w (HeadEnd w L.length (rootS L)) := by
  have G : ∀ W, Below w.heap.size w W → Calls Try.prog 17 #[v] W fun e w' => e = .returned (hv (rootS L)) ∧ Below W.heap.size W w' := fun W hW => refroot_any (h.below hW) hf
  obtain ⟨a, cap, rfl⟩ : ∃ (a : Option Addr) (cap : Nat), v = .slice a L.length cap := by
    rcases h with ⟨⟨ea, ecap, rfl, _⟩, rfl⟩ | ⟨b, off, cap, rfl, -⟩
    · exact ⟨ea, ecap, rfl⟩
    · exact ⟨_, cap, rfl⟩
  obtain ⟨f, hfe⟩ : ∃ f, rootS L = f := ⟨_, rfl⟩
  obtain ⟨n, hn⟩ : ∃ n, L.length = n := ⟨_, rfl⟩
  rw [hfe, hn] at G
  rw [hfe, hn]
  have HG := Lib.hid G
  clear G h hfe hn hf
  have hb := (Below.refl w.heap.size w).alloc (Nat.le_refl _) (.cells (hd 0 fun _ => 0) 36)
  have hg0 : (w.alloc (.cells (hd 0 fun _ => 0) 36)).heap[w.heap.size]? = some (.cells (hd 0 fun _ => 0) 36 (0, 0)) := heap_alloc_new w _
  go_enter Try.func22, Try.ntmps22
  go_wp2_with (refine wpList_alloc_cs rfl 36 rfl _ Try.infoHead ?_)
  refine (HG.out _ hb).mono ?_
  rintro e w1 ⟨rfl, hb1⟩
  have hg1 := (hb1.block w.heap.size (by simp)).trans hg0
  unfold hv
  go_wp2_with (first | (refine wpList_build_head rfl (.tmp 4) (.tmp 6) rfl n f rfl rfl ?_) | (refine wpList_store_head rfl (.tmp 2) (.tmp 7) rfl w.heap.size n 0 f _ 36 rfl rfl hg1 ?_))
  refine bodyPost_ret (results_cell_row rfl _ _ w.heap.size 36 (hd n f) (0, 0) _ rfl (setRow_heap _ _ _ _ _ _ hg1) Try.underlying36 rfl (by rw [hd_size]; kernel_rfl)) rfl ⟨rfl, ?_⟩
  exact Below.setRow (hb.trans (hb1.mono (by simp))) (Nat.le_refl _) _
/-- the bytes of hashes -/
def hbs (H : List HF) : List (List UInt8) := H.map fun f => hl f 32
def sameB (H K : List HF) : Bool := decide (hbs H = hbs K)
theorem hbs_get (H : List HF) (j : Nat) : (hbs H)[j]? = (H[j]?).map fun f => hl f 32 := by simp [hbs]
theorem same_of {H K : List HF} (hl' : H.length = K.length) (h : ∀ j, j < H.length → hl (hg H j) 32 = hl (hg K j) 32) : sameB H K = true := by
  unfold sameB
  rw [decide_eq_true_iff]
  apply List.ext_getElem?
  intro j
  rw [hbs_get, hbs_get]
  by_cases hj : j < H.length
  · have := h j hj
    unfold hg at this
    rw [List.getD_eq_getElem?_getD, List.getD_eq_getElem?_getD, List.getElem?_eq_getElem hj, List.getElem?_eq_getElem (by omega)] at this
    rw [List.getElem?_eq_getElem hj, List.getElem?_eq_getElem (by omega)]
    simpa using this
  · rw [List.getElem?_eq_none (by omega), List.getElem?_eq_none (by omega)]
theorem same_not {H K : List HF} {j : Nat} (hj : j < H.length) (hl' : H.length = K.length) (h : ¬ hl (hg H j) 32 = hl (hg K j) 32) : sameB H K = false := by
  unfold sameB
  rw [decide_eq_false_iff_not]
  intro e
  apply h
  have := congrArg (fun l => l[j]?) e
  simp only [hbs_get] at this
  unfold hg
  rw [List.getD_eq_getElem?_getD, List.getD_eq_getElem?_getD]
  rw [List.getElem?_eq_getElem hj, List.getElem?_eq_getElem (by omega)] at this ⊢
  simpa using this
set_option maxHeartbeats 2000000 in
set_option maxRecDepth 100000 in
theorem same_len {a b : Option Addr} {n m c d : Nat} {w : World} (h : n ≠ m) : Calls Try.prog 29 #[.slice a n c, .slice b m d] w (Said false w) := by
  have t1 : ((n : Int) == (m : Int)) = false := by simp; omega
  have t2 : ((n : Int) != (m : Int)) = true := by simp; omega
  go_enter Try.func29, Try.ntmps29
  go_wp2_with fail
  go_ret
  exact ⟨rfl, Below.refl _ _⟩
set_option maxHeartbeats 2000000 in
set_option maxRecDepth 100000 in
theorem same_row {pa pb : Option Addr} {n c d : Nat} {H K : List HF} {w : World} (hH : H.length = n) (hK : K.length = n) (hc' : n ≤ c) (hd' : n ≤ d) (hcm : c ≤ 9223372036854775807) (_hdm : d ≤ 9223372036854775807)
    (h1 : 0 < n → ∃ b off : Nat, pa = some ⟨b, off, none⟩ ∧ HR w b off H) (h2 : 0 < n → ∃ b off : Nat, pb = some ⟨b, off, none⟩ ∧ HR w b off K) :
    Calls Try.prog 29 #[.slice pa n c, .slice pb n d] w (Said (sameB H K) w) := by
  have HH := Lib.hid hH
  have HK := Lib.hid hK
  have H1 := Lib.hid h1
  have H2 := Lib.hid h2
  clear hH hK h1 h2
  go_enter Try.func29, Try.ntmps29
  go_wp2_with fail
  go_loopw [5] (fun i wr => ∃ k : Nat, k ≤ n ∧ i = .int .i64 k ∧ Hid (∀ j, j < k → hl (hg H j) 32 = hl (hg K j) 32) ∧ Below w.heap.size w wr) (fun i _ => n - (intOf i).toNat)
  case atStart => exact ⟨0, by omega, rfl, fun j hj => by omega, Below.refl _ _⟩
  case round =>
    obtain ⟨k, hk, rfl, hR, hB⟩ := hrel
    by_cases hlt : k < n
    · obtain ⟨b, off, hpa, hra⟩ := H1.out (by omega)
      obtain ⟨b', off', hpb, hrb⟩ := H2.out (by omega)
      have ha := (hra.below hB).get k (by rw [HH.out]; exact hlt)
      have hb := (hrb.below hB).get k (by rw [HK.out]; exact hlt)
      rw [hg_eq] at ha hb
      rw [hpa, hpb]
      clear hra hrb
      have hkl := HH.out
      by_cases hq : hl (hg H k) 32 = hl (hg K k) 32
      · have hdq : decide (hl (hg H k) 32 = hl (hg K k) 32) = true := decide_eq_true hq
        have HN : Hid (∀ j, j < k + 1 → hl (hg H j) 32 = hl (hg K j) 32) := fun j hj => by
          by_cases e : j = k
          · subst e; exact hq
          · exact hR.out j (by omega)
        obtain ⟨f, hf⟩ : ∃ f, hg H k = f := ⟨_, rfl⟩
        obtain ⟨g, hgg⟩ : ∃ g, hg K k = g := ⟨_, rfl⟩
        rw [hf] at ha hdq
        rw [hgg] at hb hdq
        clear hf hgg hq hkl
        go_wp2_with fail
        refine wp_region_ext (by kernel_rfl) (by kernel_rfl) ?_
        repeat (first | go_big_quiet_step (fail) | (go_big_quiet_want; (first | (refine quiet_load_h (.tmp 19) rfl b (off + k * 32) rfl f ha ?_) | (refine quiet_load_h (.tmp 23) rfl b' (off' + k * 32) rfl g hb ?_)); go_simp; go_big_quiet_on))
        refine wpQuiet_nil ?_
        rintro _ ⟨e, rfl⟩
        have hB2 := hB.trans (e.below.mono hB.size)
        go_wp2_with fail
        go_roundw
        case rel => exact ⟨k + 1, hlt, by go_num, HN, hB2⟩
        case measure => simp [intOf]; omega
      · have hdq : decide (hl (hg H k) 32 = hl (hg K k) 32) = false := decide_eq_false hq
        have HS : Hid (sameB H K = false) := same_not (j := k) (by omega) (by rw [HH.out, HK.out]) hq
        obtain ⟨f, hf⟩ : ∃ f, hg H k = f := ⟨_, rfl⟩
        obtain ⟨g, hgg⟩ : ∃ g, hg K k = g := ⟨_, rfl⟩
        rw [hf] at ha hdq
        rw [hgg] at hb hdq
        clear hf hgg hq hkl
        go_wp2_with fail
        refine wp_region_ext (by kernel_rfl) (by kernel_rfl) ?_
        repeat (first | go_big_quiet_step (fail) | (go_big_quiet_want; (first | (refine quiet_load_h (.tmp 19) rfl b (off + k * 32) rfl f ha ?_) | (refine quiet_load_h (.tmp 23) rfl b' (off' + k * 32) rfl g hb ?_)); go_simp; go_big_quiet_on))
        refine wpQuiet_nil ?_
        rintro _ ⟨e, rfl⟩
        have hB2 := hB.trans (e.below.mono hB.size)
        go_wp2_with fail
        go_ret
        exact ⟨by rw [HS.out]; rfl, hB2⟩
    · have t1 : decide (k < n) = false := decide_eq_false hlt
      obtain rfl : k = n := by omega
      go_wp2_with fail
      go_ret
      refine ⟨?_, hB⟩
      rw [same_of (by rw [HH.out, HK.out]) (by rw [HH.out]; exact hR.out)]
      rfl
theorem same_any {H K : List HF} {u v : Value} {w : World} (h1 : HSlice w u H) (h2 : HSlice w v K) : Calls Try.prog 29 #[u, v] w (Said (sameB H K) w) := by
  obtain ⟨a, c, rfl, q1, q2, q3⟩ := h1.form
  obtain ⟨b, d, rfl, r1, r2, r3⟩ := h2.form
  by_cases he : H.length = K.length
  · rw [← he] at r1 r3 ⊢
    exact same_row rfl he.symm q1 r1 q2 r2 q3 r3
  · rw [show sameB H K = false from decide_eq_false (fun e => he (by simpa [hbs] using congrArg List.length e))]
    exact same_len he
end Go.Proofs.Ytijhdfllffkfjaa
