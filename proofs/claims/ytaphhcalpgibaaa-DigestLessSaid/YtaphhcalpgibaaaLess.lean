/- DigestLess returns true for every two hashes and every number, and its arguments read behind the call as before. No condition. -/
import Derived.Test.YtaphhcalpgibaaaLessA
namespace Go.Proofs.Ytaphhcalpgibaaa
open Go.ChangeShapes Go.WideShapes Go.ChangeAt Go.RowKit Go.BigFrame

theorem hexDigit_lt {a b : Nat} (ha : a < 16) (hb : b < 16) : decide (hexDigit a < hexDigit b) = decide (a < b) := by
  have k : ∀ a b : Fin 16, decide (hexDigit a.val < hexDigit b.val) = decide (a.val < b.val) := by decide
  exact k ⟨a, ha⟩ ⟨b, hb⟩
theorem hexDigit_beq {a b : Nat} (ha : a < 16) (hb : b < 16) : (hexDigit a == hexDigit b) = decide (a = b) := by
  have k : ∀ a b : Fin 16, (hexDigit a.val == hexDigit b.val) = decide (a.val = b.val) := by decide
  exact k ⟨a, ha⟩ ⟨b, hb⟩
theorem hexText_cons (x : UInt8) (l : List UInt8) : hexText (x :: l) = hexDigit (x.toNat / 16) :: hexDigit (x.toNat % 16) :: hexText l := rfl
theorem text_less_from (f g : Nat → UInt8) : ∀ (n i : Nat), Op.bytesLess (hexText ((List.range' i n).map f)) (hexText ((List.range' i n).map g)) = lessFrom f g n i
  | 0, _ => by simp [hexText, Op.bytesLess, lessFrom]
  | n + 1, i => by
    rw [List.range'_succ, List.map_cons, List.map_cons, hexText_cons, hexText_cons, lessFrom]
    have hx := (f i).toNat_lt
    have hy := (g i).toNat_lt
    have e1 : (f i).toNat / 16 < 16 := by omega
    have e2 : (g i).toNat / 16 < 16 := by omega
    have e3 : (f i).toNat % 16 < 16 := by omega
    have e4 : (g i).toNat % 16 < 16 := by omega
    simp only [Op.bytesLess]
    rw [hexDigit_lt e1 e2, hexDigit_lt e3 e4, hexDigit_beq e1 e2, hexDigit_beq e3 e4, text_less_from f g n (i + 1)]
    unfold ub
    by_cases h : (f i).toNat = (g i).toNat
    · rw [if_pos (by omega), h]
      simp
    · rw [if_neg (by omega)]
      by_cases h1 : (f i).toNat / 16 < (g i).toNat / 16
      · simp only [h1, decide_true, Bool.true_or]
        exact (decide_eq_true (by omega)).symm
      · by_cases h2 : (f i).toNat / 16 = (g i).toNat / 16
        · have h3 : ¬ (f i).toNat % 16 = (g i).toNat % 16 := by omega
          simp only [h2, h3, decide_true, decide_false, Bool.false_or, Bool.true_and, Bool.false_and, Bool.or_false, Nat.lt_irrefl]
          rw [decide_eq_decide]
          omega
        · simp only [h1, h2, decide_false, Bool.false_or, Bool.false_and]
          exact (decide_eq_false (by omega)).symm
theorem text_less (f g : Nat → UInt8) : Op.bytesLess (hx f) (hx g) = lessH f g := by
  unfold hx hl
  rw [List.range_eq_range']
  exact text_less_from f g 32 0
theorem less_anti (f g : Nat → UInt8) : ∀ (n i : Nat), lessFrom f g n i = true → lessFrom g f n i = false
  | 0, _, _ => rfl
  | n + 1, i, h => by
    rw [lessFrom] at h ⊢
    by_cases he : ub (f i) = ub (g i)
    · rw [if_pos he] at h
      rw [if_pos he.symm]
      exact less_anti f g n (i + 1) h
    · rw [if_neg he, decide_eq_true_iff] at h
      rw [if_neg (fun x => he x.symm), decide_eq_false_iff_not]
      omega
theorem less_total (f g : Nat → UInt8) : ∀ (n i : Nat), lessFrom f g n i = false → lessFrom g f n i = false → ∀ j, i ≤ j → j < i + n → f j = g j
  | 0, _, _, _, _, h1, h2 => by omega
  | n + 1, i, h, k, j, h1, h2 => by
    rw [lessFrom] at h k
    by_cases he : ub (f i) = ub (g i)
    · rw [if_pos he] at h
      rw [if_pos he.symm] at k
      rcases Nat.eq_or_lt_of_le h1 with rfl | h3
      · exact ub_inj he
      · exact less_total f g n (i + 1) h k j h3 (by omega)
    · rw [if_neg he, decide_eq_false_iff_not] at h
      rw [if_neg (fun x => he x.symm), decide_eq_false_iff_not] at k
      omega
theorem less_eq {f g : Nat → UInt8} (h : lessH f g = false) (k : lessH g f = false) : hl f 32 = hl g 32 := by
  unfold hl
  rw [List.map_inj_left]
  intro j hj
  exact less_total f g 32 0 h k j (by omega) (by simpa using hj)

set_option maxHeartbeats 2000000 in
theorem dless_walk (f g : Nat → UInt8) (same : Int) (_h0 : -9223372036854775808 ≤ same) (_h1 : same ≤ 9223372036854775807) (w : World) :
    Calls Try.prog 10 #[.agg (arr 32 (U8 f)), .agg (arr 32 (U8 g)), .int .i64 same] w fun e w' => e = .returned (.bool true) ∧ Below w.heap.size w w' := by
  have m0 : 0 ≤ same % 33 := Int.emod_nonneg _ (by decide)
  have m1 : same % 33 < 33 := Int.emod_lt_of_pos _ (by decide)
  go_enter Try.func10, Try.ntmps10
  go_wp2_with (go_at_call 11; refine sanity_any.mono ?_; rintro e w1 ⟨rfl, hb1⟩)
  have hz1 := hb1.size
  simp at hz1
  have hf1 : Row w1 w.heap.size 24 32 (U8 f) := ((Row.newArr w _ 32 _).alloc _).belowAll hb1
  have hg1 : Row w1 (w.heap.size + 1) 24 32 (U8 g) := (Row.newAt _ _ 32 _ (by simp)).belowAll hb1
  have hbl1 : Below w.heap.size w w1 := (((Below.refl _ _).alloc (Nat.le_refl _) _).alloc (by simp) _).trans (hb1.mono (by simp; omega))
  clear hb1
  go_loopw [8] (fun v wr => ∃ (k : Nat) (g2 : Nat → UInt8), (k : Int) ≤ same % 33 ∧ v = .int .i64 k ∧ Row wr w.heap.size 24 32 (U8 f) ∧ Row wr (w.heap.size + 1) 24 32 (U8 g2) ∧ Below w.heap.size w wr ∧ w.heap.size + 2 ≤ wr.heap.size) (fun v _ => (same % 33).toNat - (intOf v).toNat)
  case atStart => exact ⟨0, g, m0, rfl, hf1, hg1, hbl1, hz1⟩
  case round =>
    clear hf1 hg1 hbl1 hz1
    obtain ⟨k, g2, hk, rfl, hf, hg, hb, hz⟩ := hrel
    by_cases hlt : (k : Int) < same % 33
    · have hk32 : (k : Int) < 32 := by omega
      have c0 : wr.cell? ⟨w.heap.size, k, none⟩ = some (.int .u8 (ub (f k))) := hf.cell (i := k) (by omega)
      have c1 : wr.cell? ⟨w.heap.size + 1, k, none⟩ = some (.int .u8 (ub (g2 k))) := hg.cell (i := k) (by omega)
      have f1 := hg.frozen k
      go_wp2_with (go_at_call 15; refine (mod_any (n := same) (m := 33) (by decide) (by decide)).mono ?_; rintro e w2 ⟨rfl, rfl⟩)
      go_roundw
      case rel => exact ⟨k + 1, _, by omega, by go_num, hf.far (by simp) _, hg.setU8 k _, hb.setCell (by simp) _, by simpa [World.setCell] using hz⟩
      case measure => simp [intOf]; omega
    · have hge : same % 33 ≤ k := by omega
      go_wp2_with (first | (refine wpList_load_is rfl 24 (.tmp 3) rfl w.heap.size rfl 24 32 _ hf Try.underlying24 (by kernel_rfl) ?_) | (refine wpList_load_is rfl 24 (.tmp 4) rfl (w.heap.size + 1) rfl 24 32 _ hg Try.underlying24 (by kernel_rfl) ?_) | (go_at_call 15; refine (mod_any (n := same) (m := 33) (by decide) (by decide)).mono ?_; rintro e w2 ⟨rfl, rfl⟩))
      refine less_any.mono ?_
      rintro e w3 ⟨rfl, hb3⟩
      have hf3 := hf.belowAll hb3
      have hg3 := hg.belowAll hb3
      have hbl3 := hb.trans (hb3.mono hb.size)
      clear hf hg hb hb3
      go_wp2_with (first | (refine wpList_load_is rfl 24 (.tmp 3) rfl w.heap.size rfl 24 32 _ hf3 Try.underlying24 (by kernel_rfl) ?_) | (refine wpList_load_is rfl 24 (.tmp 4) rfl (w.heap.size + 1) rfl 24 32 _ hg3 Try.underlying24 (by kernel_rfl) ?_))
      refine less_any.mono ?_
      rintro e w4 ⟨rfl, hb4⟩
      have hf4 := hf3.belowAll hb4
      have hg4 := hg3.belowAll hb4
      have hbl4 := hbl3.trans (hb4.mono hbl3.size)
      clear hf3 hg3 hbl3 hb4
      have htl := text_less f g2
      obtain ⟨x, hx⟩ : ∃ x, lessH f g2 = x := ⟨_, rfl⟩
      obtain ⟨y, hy⟩ : ∃ y, lessH g2 f = y := ⟨_, rfl⟩
      have hxy : x = true → y = false := fun h => by rw [← hy]; exact less_anti f g2 32 0 (hx.trans h)
      have heq : x = false → y = false → hl f 32 = hl g2 32 := fun h k => less_eq (hx.trans h) (hy.trans k)
      cases x
      · cases y
        · have hd : decide (hl f 32 = hl g2 32) = true := decide_eq_true (heq rfl rfl)
          clear hxy heq
          go_wp2_with fail
          refine wp_region_ext (by kernel_rfl) (by kernel_rfl) ?_
          repeat (first | go_big_quiet_step ((first | (go_at_call 16; exact ext_call textL) | (go_at_call 21; exact ext_call refless_any))) | (go_big_quiet_want; (first | (refine quiet_load_is 24 (.tmp 3) rfl w.heap.size rfl 24 32 (U8 f) hf4 Try.underlying24 (by kernel_rfl) ?_) | (refine quiet_load_is 24 (.tmp 4) rfl (w.heap.size + 1) rfl 24 32 (U8 g2) hg4 Try.underlying24 (by kernel_rfl) ?_)); go_simp; go_big_quiet_on))
          refine wpQuiet_nil ?_
          rintro _ ⟨e, rfl⟩
          go_wp2
          go_ret
          exact ⟨rfl, hbl4.trans (e.below.mono hbl4.size)⟩
        · clear hxy heq
          go_wp2_with fail
          refine wp_region_ext (by kernel_rfl) (by kernel_rfl) ?_
          repeat (first | go_big_quiet_step ((first | (go_at_call 16; exact ext_call textL) | (go_at_call 21; exact ext_call refless_any))) | (go_big_quiet_want; (first | (refine quiet_load_is 24 (.tmp 3) rfl w.heap.size rfl 24 32 (U8 f) hf4 Try.underlying24 (by kernel_rfl) ?_) | (refine quiet_load_is 24 (.tmp 4) rfl (w.heap.size + 1) rfl 24 32 (U8 g2) hg4 Try.underlying24 (by kernel_rfl) ?_)); go_simp; go_big_quiet_on))
          refine wpQuiet_nil ?_
          rintro _ ⟨e, rfl⟩
          go_wp2
          go_ret
          exact ⟨rfl, hbl4.trans (e.below.mono hbl4.size)⟩
      · obtain rfl := hxy rfl
        clear hxy heq
        go_wp2_with fail
        refine wp_region_ext (by kernel_rfl) (by kernel_rfl) ?_
        repeat (first | go_big_quiet_step ((first | (go_at_call 16; exact ext_call textL) | (go_at_call 21; exact ext_call refless_any))) | (go_big_quiet_want; (first | (refine quiet_load_is 24 (.tmp 3) rfl w.heap.size rfl 24 32 (U8 f) hf4 Try.underlying24 (by kernel_rfl) ?_) | (refine quiet_load_is 24 (.tmp 4) rfl (w.heap.size + 1) rfl 24 32 (U8 g2) hg4 Try.underlying24 (by kernel_rfl) ?_)); go_simp; go_big_quiet_on))
        refine wpQuiet_nil ?_
        rintro _ ⟨e, rfl⟩
        go_wp2
        go_ret
        exact ⟨rfl, hbl4.trans (e.below.mono hbl4.size)⟩

set_option maxRecDepth 100000 in
theorem dless_lifted (os : Os) (started : os.Started) (H : Type) (enc : TypeId × Value → H) :
    ReturnsInHanded {} Try.checked os 10 .any (Rows.digestLessSpec.pre6 enc Try.prog Try.f10 Rows.digestLessRow.domain false) (Rows.digestLessSpec.post enc Try.prog Try.f10 false true false false) := by
  refine returnsInHanded_of_change (C := Try.checked) own started (by kernel_rfl) Try.func10
    (ChangeSpec.witness6 (enc := enc) (C := Try.checked) false ⟨#[], #[.agg (Array.replicate 32 (.int .u8 0)), .agg (Array.replicate 32 (.int .u8 0)), .int .i64 0], []⟩ 8 (by kernel_rfl) (by kernel_rfl) (by kernel_rfl) (by kernel_rfl)) ?_
  intro W base args ds gs before hval0 hW hcnd _
  have hval : ∀ (j : Nat) t v, Try.f10.params[j]? = some t → args[j]? = some v → Value.okWide Try.prog W .any base t v := hval0
  obtain ⟨p, q, hA0, hV, -, -, -⟩ := id hW
  have hA : DataW.TrodAll enc Try.prog W 0 (fun _ => true) true Try.f10.params.toList args.toList ds p := hA0
  rw [Try.params10] at hA hval
  obtain ⟨v0, vs0, d0, ds0, p0, q0, hargs, rfl, rfl, h0, r0⟩ := trodAll_cons hA
  obtain ⟨v1, vs1, d1, ds1, p1, q1, rfl, rfl, rfl, h1, r1⟩ := trodAll_cons r0
  obtain ⟨v2, vs2, d2, ds2, p2, q2, rfl, rfl, rfl, h2, r2⟩ := trodAll_cons r1
  obtain ⟨rfl, rfl, rfl⟩ := trodAll_nil r2
  obtain rfl : args = #[v0, v1, v2] := by cases args; simp_all
  obtain ⟨rfl, -⟩ := trodVars_none hV
  obtain ⟨a0, rfl⟩ := open_bytes (e := 5) (n := 32) Try.underlying24 Try.underlying5 (by kernel_rfl) (by kernel_rfl) (hval 0 24 v0 rfl rfl)
  obtain ⟨a1, rfl⟩ := open_bytes (e := 5) (n := 32) Try.underlying24 Try.underlying5 (by kernel_rfl) (by kernel_rfl) (hval 1 24 v1 rfl rfl)
  obtain ⟨a2, rfl, wl2, wh2⟩ := open_i64 Try.underlying3 (hval 2 3 v2 rfl rfl)
  refine (dless_walk _ _ _ wl2 wh2 W).mono fun e W' ⟨he, hg⟩ => ?_
  subst he
  exact ⟨_, rfl, law_post (tb := 4) laidOut (by decide +kernel) rfl Try.underlying4 rfl hW rfl hg⟩

theorem dless_proved : Rows.DigestLessSaid :=
  OpenClaim.holds_of_wide 10 Try.f10 rfl rfl rfl rfl rfl rfl rfl ⟨rfl, rfl, rfl, rfl, rfl⟩ rfl rfl rfl rfl rfl (by kernel_rfl) Try.func10 (by kernel_rfl)
    (of_decide_eq_true (by kernel_rfl)) (by unfold Func.isWrapper; first | (rw [if_pos (by decide +kernel)]; kernel_rfl) | (rw [if_neg (by decide +kernel)]; exact ⟨rfl, rfl⟩))
    (fun os started H enc _ => dless_lifted os started H enc)
#print axioms dless_proved
end Go.Proofs.Ytaphhcalpgibaaa
