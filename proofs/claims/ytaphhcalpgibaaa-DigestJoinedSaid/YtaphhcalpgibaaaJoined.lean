/- DigestJoined returns true for every string and every number, and its arguments read behind the call as before. No condition. -/
import Derived.Test.YtaphhcalpgibaaaExt
namespace Go.Proofs.Ytaphhcalpgibaaa
open Go.ChangeShapes Go.WideShapes Go.ChangeAt Go.RowKit Go.BigFrame

set_option maxHeartbeats 1000000 in
theorem joined_walk (l : List UInt8) (at_ : Int) (_h0 : -9223372036854775808 ≤ at_) (_h1 : at_ ≤ 9223372036854775807) (w : World) :
    Calls Try.prog 8 #[.string (bs l), .int .i64 at_] w fun e w' => e = .returned (.bool true) ∧ Below w.heap.size w w' := by
  go_enter Try.func8, Try.ntmps8
  go_wp2_with (go_at_call 11; refine sanity_any.mono ?_; rintro e w1 ⟨rfl, hb1⟩)
  rw [← List.length_take]
  obtain ⟨x, hx⟩ : ∃ x, List.take (min (l.length : Int) 300).toNat l = x := ⟨_, rfl⟩
  have hxl : x.length ≤ 300 := by rw [← hx, List.length_take]; omega
  rw [hx]
  clear hx
  have hm0 : 0 ≤ at_ % ((x.length : Int) + 1) := Int.emod_nonneg _ (by omega)
  have hm1 : at_ % ((x.length : Int) + 1) < (x.length : Int) + 1 := Int.emod_lt_of_pos _ (by omega)
  obtain ⟨k, hk⟩ : ∃ k : Nat, at_ % ((x.length : Int) + 1) = k := ⟨_, (Int.toNat_of_nonneg hm0).symm⟩
  refine (mod_any (n := at_) (m := (x.length : Int) + 1) (by omega) (by omega)).mono ?_
  rintro e w2 ⟨rfl, rfl⟩
  rw [hk] at hm0 hm1 ⊢
  have k1 : (k : Int) ≤ (x.length : Int) := by omega
  clear hk hm1
  go_wp2_with fail
  go_region
  have hpq : List.take k x ++ List.drop k x = x := List.take_append_drop k x
  have hpl : (List.take k x).length ≤ 300 := by rw [List.length_take]; omega
  have hql : (List.drop k x).length ≤ 300 := by rw [List.length_drop]; omega
  generalize List.take k x = p at *
  generalize List.drop k x = q at *
  have hrow : (w2.alloc (.cells #[.string (bs p), .string (bs q)] 34)).drew.heap[w2.heap.size]? = some (.cells #[.string (bs p), .string (bs q)] 34 (0, 0)) := heap_alloc_new _ _
  have hb3 : Below w.heap.size w (w2.alloc (.cells #[.string (bs p), .string (bs q)] 34)).drew := (hb1.alloc hb1.size _).drew
  have hz := hb1.size
  clear hb1
  generalize w2.heap.size = b at *
  generalize (w2.alloc (.cells #[.string (bs p), .string (bs q)] 34)).drew = w3 at *
  have c0 : ∀ e : Ext w3, e.at.cell? ⟨b, 0, none⟩ = some (.string (bs p)) := ext_cell (by rw [cell_of_row w3 b 0 _ _ _ hrow]; rfl)
  have c1 : ∀ e : Ext w3, e.at.cell? ⟨b, 1, none⟩ = some (.string (bs q)) := ext_cell (by rw [cell_of_row w3 b 1 _ _ _ hrow]; rfl)
  go_wp2_with fail
  refine wp_region_ext (by kernel_rfl) (by kernel_rfl) ?_
  repeat (first | go_big_quiet_step ((first | (go_at_call 12; exact ext_call (sumL (by omega))) | (go_at_call 13; exact ext_call (refsumL (by omega))))))
  refine wpQuiet_nil ?_
  rintro _ ⟨e, rfl⟩
  go_wp2
  go_ret
  exact ⟨rfl, hb3.trans (e.below.mono hb3.size)⟩
set_option maxRecDepth 100000 in
theorem joined_lifted (os : Os) (started : os.Started) (H : Type) (enc : TypeId × Value → H) :
    ReturnsInHanded {} Try.checked os 8 .any (Rows.digestJoinedSpec.pre6 enc Try.prog Try.f8 Rows.digestJoinedRow.domain false) (Rows.digestJoinedSpec.post enc Try.prog Try.f8 false true false false) := by
  refine returnsInHanded_of_change (C := Try.checked) own started (by kernel_rfl) Try.func8
    (ChangeSpec.witness6 (enc := enc) (C := Try.checked) false ⟨#[], #[.string ByteArray.empty, .int .i64 0], []⟩ 8 (by kernel_rfl) (by kernel_rfl) (by kernel_rfl) (by kernel_rfl)) ?_
  intro W base args ds gs before hval0 hW hcnd _
  have hval : ∀ (j : Nat) t v, Try.f8.params[j]? = some t → args[j]? = some v → Value.okWide Try.prog W .any base t v := hval0
  obtain ⟨p, q, hA0, hV, -, -, -⟩ := id hW
  have hA : DataW.TrodAll enc Try.prog W 0 (fun _ => true) true Try.f8.params.toList args.toList ds p := hA0
  rw [Try.params8] at hA hval
  obtain ⟨v0, vs0, d0, ds0, p0, q0, hargs, rfl, rfl, h0, r0⟩ := trodAll_cons hA
  obtain ⟨v1, vs1, d1, ds1, p1, q1, rfl, rfl, rfl, h1, r1⟩ := trodAll_cons r0
  obtain ⟨rfl, rfl, rfl⟩ := trodAll_nil r1
  obtain rfl : args = #[v0, v1] := by cases args; simp_all
  obtain ⟨rfl, -⟩ := trodVars_none hV
  obtain ⟨a0, rfl⟩ := okWide_string Try.underlying9 (hval 0 9 v0 rfl rfl)
  obtain ⟨a1, rfl, wl1, wh1⟩ := open_i64 Try.underlying3 (hval 1 3 v1 rfl rfl)
  rw [bs_of a0]
  refine (joined_walk _ _ wl1 wh1 W).mono fun e W' ⟨he, hg⟩ => ?_
  subst he
  rw [← bs_of a0]
  exact ⟨_, rfl, law_post (tb := 4) laidOut (by decide +kernel) rfl Try.underlying4 rfl hW rfl hg⟩

theorem joined_proved : Rows.DigestJoinedSaid :=
  OpenClaim.holds_of_wide 8 Try.f8 rfl rfl rfl rfl rfl rfl rfl ⟨rfl, rfl, rfl, rfl, rfl⟩ rfl rfl rfl rfl rfl (by kernel_rfl) Try.func8 (by kernel_rfl)
    (of_decide_eq_true (by kernel_rfl)) (by unfold Func.isWrapper; first | (rw [if_pos (by decide +kernel)]; kernel_rfl) | (rw [if_neg (by decide +kernel)]; exact ⟨rfl, rfl⟩))
    (fun os started H enc _ => joined_lifted os started H enc)
#print axioms joined_proved
end Go.Proofs.Ytaphhcalpgibaaa
