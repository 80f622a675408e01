/- DigestReads returns true for every hash, every two numbers and every string, and its arguments read behind the call as before. No condition. -/
import Derived.Test.YtaphhcalpgibaaaReadC
import Derived.BigRegion
import Derived.Deep.DeepCutAuto
namespace Go.Proofs.Ytaphhcalpgibaaa
open Go.ChangeShapes Go.WideShapes Go.ChangeAt Go.RowKit Go.BigFrame

theorem second_new (w : World) (o1 o2 : Obj) : ((w.alloc o1).alloc o2).drew.heap[w.heap.size + 1]? = some o2 := by
  have h := heap_alloc_new (w.alloc o1) o2
  rw [World.size_alloc] at h
  exact h
theorem first_new (w : World) (o1 o2 : Obj) : ((w.alloc o1).alloc o2).drew.heap[w.heap.size]? = some o1 :=
  (Below.heap_alloc (w.alloc o1) o2 w.heap.size (by simp)).trans (heap_alloc_new w o1)
/-- a whole array out of a block, where the operation is guarded and wanted -/
theorem wpList_load_want {P : Program} {ops : Array Oper} {rest : List Oper} {o : Oper} {a : Act} {w : World} {Q : Exit → Act → World → Prop} (hw : Region.wanted o (yielded ops a.tmps) = true) (ty : TypeId) (x : Operand) (ho : o.op = .load ty x)
    (g : Nat) (hx : a.eval x = .pointer (some ⟨g, 0, none⟩)) (t : TypeId) (n : Nat) (f : Nat → Value) (hg : Row w g t n f) {e : TypeId}
    (hu : P.underlying ty = some (.array n e)) (hi : (P.info? ty).map (·.size) = some n)
    (h : wpList P ops Q rest (a.put o.dst (.agg (arr n f))) w) : wpList P ops Q (o :: rest) a w :=
  wpList_step fun K hK => by
    rw [if_pos hw]
    unfold Oper.wp execOp
    simp only [ho, hx, Sem.run_bind, load_row hg hu hi, Result.andThen_ok, Sem.run_pure]
    exact hK _ _ h
/-- an array of two numbers that came in -/
theorem open_pair {P : Program} {w : World} {r : Reach} {b0 : Nat} {t e : TypeId} {v : Value} (ht : P.underlying t = some (.array 2 e)) (he : P.underlying e = some (.int .i64)) (hc : P.cellsOf t = 2) (hk : P.cellTypes P.depth t = some [e, e])
    (hval : Value.okWide P w r b0 t v) : ∃ a b : Int, v = .agg #[.int .i64 a, .int .i64 b] ∧ -9223372036854775808 ≤ a ∧ a ≤ 9223372036854775807 ∧ -9223372036854775808 ≤ b ∧ b ≤ 9223372036854775807 := by
  unfold Value.okWide at hval
  rw [ht] at hval
  obtain ⟨cs, rfl, hsz, ts, hts, -, hcell⟩ := hval
  rw [hk] at hts
  cases hts
  rw [hc] at hsz
  have hex : ∀ i, i < 2 → ∃ k : Int, cs[i]? = some (.int .i64 k) ∧ -9223372036854775808 ≤ k ∧ k ≤ 9223372036854775807 := by
    intro i hi
    obtain ⟨u, hu, hok⟩ := hcell i cs[i] (by simp)
    have hu' : u = e := by
      rcases (show i = 0 ∨ i = 1 by omega) with rfl | rfl <;> simpa using hu.symm
    subst hu'
    rw [Array.getElem?_eq_getElem (by omega)]
    generalize cs[i] = c at hok
    unfold Cell.okWide Cell.ok at hok
    rw [he] at hok
    cases c <;> simp at hok
    rename_i k' m
    obtain ⟨rfl, hh⟩ := hok
    refine ⟨m, rfl, ?_⟩
    simp [IntKind.has, IntKind.min, IntKind.max, IntKind.signed, IntKind.bits] at hh
    omega
  obtain ⟨a, ha, ha1, ha2⟩ := hex 0 (by omega)
  obtain ⟨b, hb, hb1, hb2⟩ := hex 1 (by omega)
  refine ⟨a, b, ?_, ha1, ha2, hb1, hb2⟩
  congr 1
  apply Array.ext_getElem?
  intro i
  match i with
  | 0 => rw [ha]; rfl
  | 1 => rw [hb]; rfl
  | i + 2 => rw [Array.getElem?_eq_none (by omega)]; simp

set_option maxHeartbeats 4000000 in
set_option maxRecDepth 100000 in
theorem reads_walk (f : Nat → UInt8) (q0 q1 : Int) (_h0 : -9223372036854775808 ≤ q0) (_h1 : q0 ≤ 9223372036854775807) (_h2 : -9223372036854775808 ≤ q1) (_h3 : q1 ≤ 9223372036854775807) (l : List UInt8) (w : World) :
    Calls Try.prog 9 #[.agg (arr 32 (U8 f)), .agg #[.int .i64 q0, .int .i64 q1], .string (bs l)] w fun e w' => e = .returned (.bool true) ∧ Below w.heap.size w w' := by
  have m0 : 0 ≤ q0 % 64 := Int.emod_nonneg _ (by decide)
  have m1 : q0 % 64 < 64 := Int.emod_lt_of_pos _ (by decide)
  go_enter Try.func9, Try.ntmps9
  go_wp2_with (go_at_call 11; refine sanity_any.mono ?_; rintro e w1 ⟨rfl, hb1⟩; refine unheld ?_)
  refine Held.of ?_
  have hz1 := hb1.size
  simp only [World.size_alloc] at hz1
  have hf1 : Row w1 w.heap.size 24 32 (U8 f) := ((Row.newArr w _ 32 _).alloc _).belowAll hb1
  have hq1 : w1.heap[w.heap.size + 1]? = some (.cells #[.int .i64 q0, .int .i64 q1] 35 (0, 0)) := by
    rw [hb1.block _ (by simp)]
    have h := heap_alloc_new (w.alloc (.cells (arr 32 (U8 f)) 24)) (.cells #[.int .i64 q0, .int .i64 q1] 35)
    rw [World.size_alloc] at h
    exact h
  have hbl1 : Below w.heap.size w w1 := (((Below.refl _ _).alloc (Nat.le_refl _) _).alloc (by simp) _).trans (hb1.mono (by simp; omega))
  clear hb1
  have hxl := hx_length f
  go_wp2_with (refine wpList_load_is rfl 24 (.tmp 3) rfl w.heap.size rfl 24 32 _ hf1 Try.underlying24 (by kernel_rfl) ?_)
  refine textL.mono ?_
  rintro e w2 ⟨rfl, hb2⟩
  have hf2 := hf1.belowAll hb2
  have hq2 : w2.heap[w.heap.size + 1]? = some (.cells #[.int .i64 q0, .int .i64 q1] 35 (0, 0)) := (hb2.block _ (by omega)).trans hq1
  have hbl2 := hbl1.trans (hb2.mono hbl1.size)
  have hz2 := Nat.le_trans hz1 hb2.size
  clear hf1 hq1 hbl1 hb2 hz1
  have cq0 : w2.cell? ⟨w.heap.size + 1, 0, none⟩ = some (.int .i64 q0) := by rw [cell_of_row w2 _ 0 _ _ _ hq2]; rfl
  have hn64 : ((64 : Int) != 64) = false := rfl
  go_wp2_with fail
  refine (mod_any (n := q0) (m := 64) (by decide) (by decide)).mono ?_
  rintro e w3 ⟨rfl, rfl⟩
  go_wp2_with fail
  refine read_any.mono ?_
  rintro e w4 ⟨rfl, hb4⟩
  have hgd : decide (good (hx f)) = true := decide_eq_true (hx_good f)
  have hbk := hx_back f
  rw [hgd]
  have hf4 := hf2.belowAll hb4
  have hq4 : w4.heap[w.heap.size + 1]? = some (.cells #[.int .i64 q0, .int .i64 q1] 35 (0, 0)) := (hb4.block _ (by omega)).trans hq2
  have hbl4 := hbl2.trans (hb4.mono hbl2.size)
  have hz4 := Nat.le_trans hz2 hb4.size
  clear hf2 hq2 hbl2 hb4 hz2 cq0 hgd
  obtain ⟨k, hk⟩ : ∃ k : Nat, q0 % 64 = k := ⟨_, (Int.toNat_of_nonneg m0).symm⟩
  rw [hk]
  have k1 : (k : Int) < 64 := by omega
  clear hk m0 m1
  go_wp2_with (first | (refine wpList_alloc_is rfl 24 rfl 32 (.int .u8 0) (by kernel_rfl) ?_) | (refine wpList_store_is rfl 24 (.tmp 10) (.tmp 30) rfl w4.heap.size 32 (U8 (rd (hx f))) (fun _ => .int .u8 0) rfl rfl 24 (Row.newArr w4 _ 32 _) (by kernel_rfl) (fun _ _ => rfl) ?_; refine unheld ?_))
  refine Held.of ?_
  have hb5 : Below w4.heap.size w4 ((w4.alloc (.cells (arr 32 fun _ => .int .u8 0) 24)).setRow w4.heap.size (arr 32 (U8 (rd (hx f))))) := Below.setRow ((Below.refl _ _).alloc (Nat.le_refl _) _) (Nat.le_refl _) _
  have hr5 : Row ((w4.alloc (.cells (arr 32 fun _ => .int .u8 0) 24)).setRow w4.heap.size (arr 32 (U8 (rd (hx f))))) w4.heap.size 24 32 (U8 (rd (hx f))) := Row.setRow (Row.newArr w4 _ 32 (fun _ => .int .u8 0)) _
  have hf5 := hf4.belowAll hb5
  have hq5 := (hb5.block _ (by omega)).trans hq4
  have hbl5 := hbl4.trans (hb5.mono hbl4.size)
  clear hf4 hq4 hbl4 hb5
  have hz5 := hr5.lt
  generalize w4.heap.size = nb at *
  generalize (w4.alloc (.cells (arr 32 fun _ => .int .u8 0) 24)).setRow nb (arr 32 (U8 (rd (hx f)))) = w5 at *
  have cq1 : w5.cell? ⟨w.heap.size + 1, 1, none⟩ = some (.int .i64 q1) := by rw [cell_of_row w5 _ 1 _ _ _ hq5]; rfl
  clear hq5
  go_upto_region 7 with fail
  go_cut [12] (fun v wx => ∃ (b : Nat) (x1 x2 x3 x4 : List UInt8), v = .pointer (some ⟨b, 0, none⟩) ∧ wx.heap[b]? = some (.cells #[.string (bs l), .string (bs x1), .string (bs x2), .string (bs x3), .string (bs x4)] 38 (0, 0)) ∧ Row wx nb 24 32 (U8 (rd (hx f))) ∧ Row wx w.heap.size 24 32 (U8 f) ∧ Below w.heap.size w wx)
  case rest =>
    clear hr5 hf5 hbl5 cq1 k1
    obtain ⟨b, x1, x2, x3, x4, rfl, hrow, hr, hf, hb⟩ := hcut
    obtain ⟨X, hX⟩ : ∃ X : Nat → List UInt8, X = fun j => [l, x1, x2, x3, x4].getD j [] := ⟨_, rfl⟩
    have hc : ∀ j, j < 5 → wc.cell? ⟨b, j, none⟩ = some (.string (bs (X j))) := by
      intro j hj
      rw [cell_of_row wc b j _ _ _ hrow, hX]
      rcases (show j = 0 ∨ j = 1 ∨ j = 2 ∨ j = 3 ∨ j = 4 by omega) with rfl | rfl | rfl | rfl | rfl <;> rfl
    clear hrow hX
    have hd : decide (hl (rd (hx f)) 32 = hl f 32) = true := decide_eq_true hbk
    go_wp2_with fail
    go_loopw [13, 14, 15, 16, 17] (fun i _ _ _ _ wr => ∃ j : Nat, j ≤ 5 ∧ i = .int .i64 j ∧ (∀ j, j < 5 → wr.cell? ⟨b, j, none⟩ = some (.string (bs (X j)))) ∧ Row wr nb 24 32 (U8 (rd (hx f))) ∧ Row wr w.heap.size 24 32 (U8 f) ∧ Below w.heap.size w wr) (fun i _ _ _ _ _ => 5 - (intOf i).toNat)
    case atStart => exact ⟨0, by omega, rfl, hc, hr, hf, hb⟩
    case round =>
      clear hc hr hf hb
      obtain ⟨j, hj, rfl, hc, hr, hf, hb⟩ := hrel
      by_cases hj5 : j < 5
      · have hj5' : (j : Int) < 5 := by omega
        have c0 := hc j hj5
        go_wp2_with fail
        refine read_any.mono ?_
        rintro e v1 ⟨rfl, hv1⟩
        obtain ⟨gd, hgd⟩ : ∃ gd, decide (good (X j)) = gd := ⟨_, rfl⟩
        rw [hgd]
        go_wp2_with (first | (refine wpList_alloc_is rfl 24 rfl 32 (.int .u8 0) (by kernel_rfl) ?_) | (refine wpList_store_is rfl 24 (.tmp 14) (.tmp 71) rfl v1.heap.size 32 (U8 (rd (X j))) (fun _ => .int .u8 0) rfl rfl 24 (Row.newArr v1 _ 32 _) (by kernel_rfl) (fun _ _ => rfl) ?_; refine unheld ?_))
        refine Held.of ?_
        have hv2 : Below wr.heap.size wr ((v1.alloc (.cells (arr 32 fun _ => .int .u8 0) 24)).setRow v1.heap.size (arr 32 (U8 (rd (X j))))) := Below.setRow (hv1.alloc hv1.size _) hv1.size _
        have ha2 : Row ((v1.alloc (.cells (arr 32 fun _ => .int .u8 0) 24)).setRow v1.heap.size (arr 32 (U8 (rd (X j))))) v1.heap.size 24 32 (U8 (rd (X j))) := Row.setRow (Row.newArr v1 _ 32 (fun _ => .int .u8 0)) _
        clear hv1
        generalize v1.heap.size = a1 at *
        generalize (v1.alloc (.cells (arr 32 fun _ => .int .u8 0) 24)).setRow a1 (arr 32 (U8 (rd (X j)))) = v2 at *
        have hblt : b < wr.heap.size := by
          rcases Nat.lt_or_ge b wr.heap.size with h' | h'
          · exact h'
          · simp [World.cell?, Array.getElem?_eq_none h'] at c0
        have hc2 : ∀ j, j < 5 → v2.cell? ⟨b, j, none⟩ = some (.string (bs (X j))) := fun j hj => (hv2.cell hblt).trans (hc j hj)
        have c2 := hc2 j hj5
        have hr2 := hr.belowAll hv2
        have hf2 := hf.belowAll hv2
        have hb2 := hb.trans (hv2.mono hb.size)
        have hbl2 : b < v2.heap.size := Nat.lt_of_lt_of_le hblt hv2.size
        clear hc hr hf hb hv2 c0 hblt
        go_wp2_with fail
        refine refread_any.mono ?_
        rintro e v3 ⟨rfl, hv3⟩
        rw [hgd]
        go_wp2_with (first | (refine wpList_alloc_is rfl 24 rfl 32 (.int .u8 0) (by kernel_rfl) ?_) | (refine wpList_store_is rfl 24 (.tmp 16) (.tmp 78) rfl v3.heap.size 32 (U8 (rd (X j))) (fun _ => .int .u8 0) rfl rfl 24 (Row.newArr v3 _ 32 _) (by kernel_rfl) (fun _ _ => rfl) ?_; refine unheld ?_))
        refine Held.of ?_
        have hv4 : Below v2.heap.size v2 ((v3.alloc (.cells (arr 32 fun _ => .int .u8 0) 24)).setRow v3.heap.size (arr 32 (U8 (rd (X j))))) := Below.setRow (hv3.alloc hv3.size _) hv3.size _
        have hd4 : Row ((v3.alloc (.cells (arr 32 fun _ => .int .u8 0) 24)).setRow v3.heap.size (arr 32 (U8 (rd (X j))))) v3.heap.size 24 32 (U8 (rd (X j))) := Row.setRow (Row.newArr v3 _ 32 (fun _ => .int .u8 0)) _
        clear hv3
        generalize v3.heap.size = a3 at *
        generalize (v3.alloc (.cells (arr 32 fun _ => .int .u8 0) 24)).setRow a3 (arr 32 (U8 (rd (X j)))) = v4 at *
        have hc4 : ∀ j, j < 5 → v4.cell? ⟨b, j, none⟩ = some (.string (bs (X j))) := fun j hj => (hv4.cell hbl2).trans (hc2 j hj)
        have ha4 := ha2.belowAll hv4
        have hr4 := hr2.belowAll hv4
        have hf4 := hf2.belowAll hv4
        have hb4 := hb2.trans (hv4.mono hb2.size)
        clear hc2 hr2 hf2 hb2 hv4 c2 ha2
        go_wp2_with (first | (refine wpList_load_is rfl 24 (.tmp 14) rfl a1 rfl 24 32 _ ha4 Try.underlying24 (by kernel_rfl) ?_) | (refine wpList_load_is rfl 24 (.tmp 16) rfl a3 rfl 24 32 _ hd4 Try.underlying24 (by kernel_rfl) ?_))
        go_roundw
        case rel => exact ⟨j + 1, by omega, by go_num, hc4, hr4, hf4, hb4⟩
        case measure => simp [intOf]; omega
      · have hge : (5 : Int) ≤ j := by omega
        obtain rfl : j = 5 := by omega
        go_wp2_with (first | (refine wpList_load_want rfl 24 (.tmp 10) rfl nb rfl 24 32 _ hr Try.underlying24 (by kernel_rfl) ?_) | (refine wpList_load_want rfl 24 (.tmp 3) rfl w.heap.size rfl 24 32 _ hf Try.underlying24 (by kernel_rfl) ?_))
        go_ret
        exact ⟨rfl, hb⟩
  have hmin : min k 64 = k := by omega
  have k2 : (k : Int) ≤ 64 := by omega
  have e0 : IntKind.i64.wrap ((k : Int) + 1) = (k : Int) + 1 := IntWalk.i64_in _ (by omega)
  have p0 : 0 ≤ (k : Int) + 1 := by omega
  have p1 : (k : Int) + 1 ≤ 64 := by omega
  have t0 : ((k : Int) + 1).toNat = k + 1 := by omega
  have ec : IntKind.u8.wrap q1 = ub (toU8 q1) := wrap_toU8 q1
  have hcv : (convert 33 9 (.slice (some ⟨w5.heap.size, 0, none⟩) 1 1)).run Try.prog (w5.alloc (.cells #[.int .u8 (ub (toU8 q1))] 5)).drew = .ok (.string (bs [toU8 q1])) (w5.alloc (.cells #[.int .u8 (ub (toU8 q1))] 5)).drew :=
    run_conv_cells _ _ 5 Try.underlying33 Try.underlying5 Try.underlying9 _ _ 0 1 1 [toU8 q1] rfl (fun j hj => by
      obtain rfl : j = 0 := by simpa using hj
      rw [World.cell?_drew, World.cell?_alloc_at _ _ _ _ rfl]; rfl)
  obtain ⟨O, hO⟩ : ∃ O, O = Obj.cells #[Value.string ⟨#[]⟩, .string ⟨#[]⟩, .string ⟨#[]⟩, .string ⟨#[]⟩, .string ⟨#[]⟩] 38 := ⟨_, rfl⟩
  have hcv1 : (convert 33 9 (.slice (some ⟨w5.heap.size, 0, none⟩) 1 1)).run Try.prog ((w5.alloc (.cells #[.int .u8 (ub (toU8 q1))] 5)).alloc O).drew = .ok (.string (bs [toU8 q1])) ((w5.alloc (.cells #[.int .u8 (ub (toU8 q1))] 5)).alloc O).drew :=
    run_conv_cells _ _ 5 Try.underlying33 Try.underlying5 Try.underlying9 _ _ 0 1 1 [toU8 q1] rfl (fun j hj => by
      obtain rfl : j = 0 := by simpa using hj
      rw [World.cell?_drew, World.cell?_of_block (Below.heap_alloc _ _ _ (by simp)), World.cell?_alloc_at _ _ _ _ rfl]; rfl)
  have hcv2 : (convert 33 9 (.slice (some ⟨w5.heap.size + 1, 0, none⟩) 1 1)).run Try.prog ((w5.alloc O).alloc (.cells #[.int .u8 (ub (toU8 q1))] 5)).drew = .ok (.string (bs [toU8 q1])) ((w5.alloc O).alloc (.cells #[.int .u8 (ub (toU8 q1))] 5)).drew :=
    run_conv_cells _ _ 5 Try.underlying33 Try.underlying5 Try.underlying9 _ _ 0 1 1 [toU8 q1] rfl (fun j hj => by
      obtain rfl : j = 0 := by simpa using hj
      rw [World.cell?_drew, World.cell?_alloc_at _ _ _ _ (by simp)]; rfl)
  have cq2 : (w5.alloc O).drew.cell? ⟨w.heap.size + 1, 1, none⟩ = some (.int .i64 q1) := by
    rw [World.cell?_drew, World.cell?_of_block (Below.heap_alloc _ _ _ (by simp; omega))]; exact cq1
  subst hO
  have hs0 : ¬ 9223372036854775807 < k + 1 := by omega
  have hs1 : k + 1 ≤ 9223372036854775807 := by omega
  go_region
  all_goals (go_wp2_with fail; go_meet)
  all_goals first
    | exact ⟨w5.heap.size + 1, _, _, _, _, rfl, second_new _ _ _, (hr5.alloc _).alloc _, (hf5.alloc _).alloc _, ((hbl5.alloc hbl5.size _).alloc (by have := hbl5.size; simp; omega) _).drew⟩
    | exact ⟨w5.heap.size, _, _, _, _, rfl, first_new _ _ _, (hr5.alloc _).alloc _, (hf5.alloc _).alloc _, ((hbl5.alloc hbl5.size _).alloc (by have := hbl5.size; simp; omega) _).drew⟩

set_option maxRecDepth 100000 in
theorem reads_lifted (os : Os) (started : os.Started) (H : Type) (enc : TypeId × Value → H) :
    ReturnsInHanded {} Try.checked os 9 .any (Rows.digestReadsSpec.pre6 enc Try.prog Try.f9 Rows.digestReadsRow.domain false) (Rows.digestReadsSpec.post enc Try.prog Try.f9 false true false false) := by
  refine returnsInHanded_of_change (C := Try.checked) own started (by kernel_rfl) Try.func9
    (ChangeSpec.witness6 (enc := enc) (C := Try.checked) false ⟨#[], #[.agg (Array.replicate 32 (.int .u8 0)), .agg #[.int .i64 0, .int .i64 0], .string ByteArray.empty], []⟩ 8 (by kernel_rfl) (by kernel_rfl) (by kernel_rfl) (by kernel_rfl)) ?_
  intro W base args ds gs before hval0 hW hcnd _
  have hval : ∀ (j : Nat) t v, Try.f9.params[j]? = some t → args[j]? = some v → Value.okWide Try.prog W .any base t v := hval0
  obtain ⟨p, q, hA0, hV, -, -, -⟩ := id hW
  have hA : DataW.TrodAll enc Try.prog W 0 (fun _ => true) true Try.f9.params.toList args.toList ds p := hA0
  rw [Try.params9] at hA hval
  obtain ⟨v0, vs0, d0, ds0, p0, q0, hargs, rfl, rfl, h0, r0⟩ := trodAll_cons hA
  obtain ⟨v1, vs1, d1, ds1, p1, q1, rfl, rfl, rfl, h1, r1⟩ := trodAll_cons r0
  obtain ⟨v2, vs2, d2, ds2, p2, q2, rfl, rfl, rfl, h2, r2⟩ := trodAll_cons r1
  obtain ⟨rfl, rfl, rfl⟩ := trodAll_nil r2
  obtain rfl : args = #[v0, v1, v2] := by cases args; simp_all
  obtain ⟨rfl, -⟩ := trodVars_none hV
  obtain ⟨a0, rfl⟩ := open_bytes (e := 5) (n := 32) Try.underlying24 Try.underlying5 (by kernel_rfl) (by kernel_rfl) (hval 0 24 v0 rfl rfl)
  obtain ⟨a1, b1, rfl, wl1, wh1, xl1, xh1⟩ := open_pair (e := 3) Try.underlying35 Try.underlying3 (by kernel_rfl) (by kernel_rfl) (hval 1 35 v1 rfl rfl)
  obtain ⟨a2, rfl⟩ := okWide_string Try.underlying9 (hval 2 9 v2 rfl rfl)
  rw [bs_of a2]
  refine (reads_walk _ _ _ wl1 wh1 xl1 xh1 _ W).mono fun e W' ⟨he, hg⟩ => ?_
  subst he
  rw [← bs_of a2]
  exact ⟨_, rfl, law_post (tb := 4) laidOut (by decide +kernel) rfl Try.underlying4 rfl hW rfl hg⟩

theorem reads_proved : Rows.DigestReadsSaid :=
  OpenClaim.holds_of_wide 9 Try.f9 rfl rfl rfl rfl rfl rfl rfl ⟨rfl, rfl, rfl, rfl, rfl⟩ rfl rfl rfl rfl rfl (by kernel_rfl) Try.func9 (by kernel_rfl)
    (of_decide_eq_true (by kernel_rfl)) (by unfold Func.isWrapper; first | (rw [if_pos (by decide +kernel)]; kernel_rfl) | (rw [if_neg (by decide +kernel)]; exact ⟨rfl, rfl⟩))
    (fun os started H enc _ => reads_lifted os started H enc)
#print axioms reads_proved
end Go.Proofs.Ytaphhcalpgibaaa
