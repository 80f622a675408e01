/- DigestTexts returns true for every two hashes, and its arguments read behind the call as before. No condition. -/
import Derived.Test.YtaphhcalpgibaaaExt
namespace Go.Proofs.Ytaphhcalpgibaaa
open Go.ChangeShapes Go.WideShapes Go.ChangeAt Go.RowKit Go.BigFrame

theorem hexDigit_inj {a b : Nat} (ha : a < 16) (hb : b < 16) (h : hexDigit a = hexDigit b) : a = b := by
  have k : ∀ a b : Fin 16, hexDigit a.val = hexDigit b.val → a.val = b.val := by decide
  exact k ⟨a, ha⟩ ⟨b, hb⟩ h
theorem hexText_inj : ∀ {l m : List UInt8}, hexText l = hexText m → l = m := by
  intro l
  induction l with
  | nil =>
    intro m h
    have := congrArg List.length h
    rw [hexText_length, hexText_length] at this
    simp at this
    exact (List.eq_nil_of_length_eq_zero (by omega)).symm
  | cons x l ih =>
    intro m h
    cases m with
    | nil =>
      have := congrArg List.length h
      rw [hexText_length, hexText_length] at this
      simp at this
    | cons y m =>
      have h' : hexDigit (x.toNat / 16) :: hexDigit (x.toNat % 16) :: hexText l = hexDigit (y.toNat / 16) :: hexDigit (y.toNat % 16) :: hexText m := h
      simp only [List.cons.injEq] at h'
      obtain ⟨h1, h2, h3⟩ := h'
      have hx := x.toNat_lt
      have hy := y.toNat_lt
      have e1 := hexDigit_inj (by omega) (by omega) h1
      have e2 := hexDigit_inj (by omega) (by omega) h2
      rw [ih h3, UInt8.toNat.inj (show x.toNat = y.toNat by omega)]
theorem hx_eq (f g : Nat → UInt8) : (hx f == hx g) = decide (hl f 32 = hl g 32) := by
  rw [Bool.eq_iff_iff, beq_iff_eq, decide_eq_true_iff]
  unfold hx
  exact ⟨hexText_inj, fun h => by rw [h]⟩

set_option maxHeartbeats 1000000 in
theorem texts_walk (f g : Nat → UInt8) (w : World) :
    Calls Try.prog 6 #[.agg (arr 32 (U8 f)), .agg (arr 32 (U8 g))] w fun e w' => e = .returned (.bool true) ∧ Below w.heap.size w w' := by
  go_enter Try.func6, Try.ntmps6
  go_wp2_with (go_at_call 11; refine sanity_any.mono ?_; rintro e w1 ⟨rfl, hb1⟩)
  have hz1 := hb1.size
  simp at hz1
  have hf : Row w1 w.heap.size 24 32 (U8 f) := ((Row.newArr w _ 32 _).alloc _).belowAll hb1
  have hg : Row w1 (w.heap.size + 1) 24 32 (U8 g) := (Row.newAt _ _ 32 _ (by simp)).belowAll hb1
  have hb : Below w.heap.size w w1 := (((Below.refl _ _).alloc (Nat.le_refl _) _).alloc (by simp) _).trans (hb1.mono (by simp; omega))
  clear hb1
  have hln := hx_length f
  have hxe := hx_eq f g
  refine wp_region_ext (by kernel_rfl) (by kernel_rfl) ?_
  repeat (first | go_big_quiet_step ((first | (go_at_call 16; exact ext_call textL) | (go_at_call 17; exact ext_call reftextL))) | (go_big_quiet_want; (first | (refine quiet_load_is 24 (.tmp 2) rfl w.heap.size rfl 24 32 (U8 f) hf Try.underlying24 (by kernel_rfl) ?_) | (refine quiet_load_is 24 (.tmp 3) rfl (w.heap.size + 1) rfl 24 32 (U8 g) hg Try.underlying24 (by kernel_rfl) ?_)); go_simp; go_big_quiet_on))
  refine wpQuiet_nil ?_
  rintro _ ⟨e, rfl⟩
  go_wp2
  go_ret
  exact ⟨rfl, hb.trans (e.below.mono (by omega))⟩
set_option maxRecDepth 100000 in
theorem texts_lifted (os : Os) (started : os.Started) (H : Type) (enc : TypeId × Value → H) :
    ReturnsInHanded {} Try.checked os 6 .any (Rows.digestTextsSpec.pre6 enc Try.prog Try.f6 Rows.digestTextsRow.domain false) (Rows.digestTextsSpec.post enc Try.prog Try.f6 false true false false) := by
  refine returnsInHanded_of_change (C := Try.checked) own started (by kernel_rfl) Try.func6
    (ChangeSpec.witness6 (enc := enc) (C := Try.checked) false ⟨#[], #[.agg (Array.replicate 32 (.int .u8 0)), .agg (Array.replicate 32 (.int .u8 0))], []⟩ 8 (by kernel_rfl) (by kernel_rfl) (by kernel_rfl) (by kernel_rfl)) ?_
  intro W base args ds gs before hval0 hW hcnd _
  have hval : ∀ (j : Nat) t v, Try.f6.params[j]? = some t → args[j]? = some v → Value.okWide Try.prog W .any base t v := hval0
  obtain ⟨p, q, hA0, hV, -, -, -⟩ := id hW
  have hA : DataW.TrodAll enc Try.prog W 0 (fun _ => true) true Try.f6.params.toList args.toList ds p := hA0
  rw [Try.params6] at hA hval
  obtain ⟨v0, vs0, d0, ds0, p0, q0, hargs, rfl, rfl, h0, r0⟩ := trodAll_cons hA
  obtain ⟨v1, vs1, d1, ds1, p1, q1, rfl, rfl, rfl, h1, r1⟩ := trodAll_cons r0
  obtain ⟨rfl, rfl, rfl⟩ := trodAll_nil r1
  obtain rfl : args = #[v0, v1] := by cases args; simp_all
  obtain ⟨rfl, -⟩ := trodVars_none hV
  obtain ⟨a0, rfl⟩ := open_bytes (e := 5) (n := 32) Try.underlying24 Try.underlying5 (by kernel_rfl) (by kernel_rfl) (hval 0 24 v0 rfl rfl)
  obtain ⟨a1, rfl⟩ := open_bytes (e := 5) (n := 32) Try.underlying24 Try.underlying5 (by kernel_rfl) (by kernel_rfl) (hval 1 24 v1 rfl rfl)
  refine (texts_walk _ _ W).mono fun e W' ⟨he, hg⟩ => ?_
  subst he
  exact ⟨_, rfl, law_post (tb := 4) laidOut (by decide +kernel) rfl Try.underlying4 rfl hW rfl hg⟩

theorem texts_proved : Rows.DigestTextsSaid :=
  OpenClaim.holds_of_wide 6 Try.f6 rfl rfl rfl rfl rfl rfl rfl ⟨rfl, rfl, rfl, rfl, rfl⟩ rfl rfl rfl rfl rfl (by kernel_rfl) Try.func6 (by kernel_rfl)
    (of_decide_eq_true (by kernel_rfl)) (by unfold Func.isWrapper; first | (rw [if_pos (by decide +kernel)]; kernel_rfl) | (rw [if_neg (by decide +kernel)]; exact ⟨rfl, rfl⟩))
    (fun os started H enc _ => texts_lifted os started H enc)
#print axioms texts_proved
end Go.Proofs.Ytaphhcalpgibaaa
