/- GroupMembers returns true for all numbers, and its argument reads behind the call as before. No condition. -/
import Derived.Test.YtiljlopgjlgfoaaGrpS
namespace Go.Proofs.Ytiljlopgjlgfoaa
open Go.ChangeShapes Go.WideShapes Go.ChangeAt Go.RowKit

def eltM (a b c : Int) (j : Nat) : Int := if j = 0 then a else if j = 1 then b else if j = 2 then c else if j = 3 then 2305843009213691579 else if j = 4 then 2305843009213691578 else 0
set_option maxHeartbeats 1000000 in
set_option maxRecDepth 100000 in
theorem gmem_walk (a : Int) (_ : -9223372036854775808 ≤ a) (_ : a ≤ 9223372036854775807) (w : World) :
    Calls Try.prog 7 #[.int .i64 a] w fun e w' => e = .returned (.bool true) ∧ Below w.heap.size w w' := by
  have e1 := and_p61 a
  have e2 := and_p60 a
  obtain ⟨c, hc⟩ : ∃ c, a % 2305843009213693952 = c := ⟨_, rfl⟩
  obtain ⟨x, hx⟩ : ∃ x, a % 1152921504606846976 = x := ⟨_, rfl⟩
  have hx0 : 0 ≤ x := by omega
  have hx1 : x < 1152921504606846976 := by omega
  rw [hc] at e1
  rw [hx] at e2
  have HC := Lib.hid hc
  have HX := Lib.hid hx
  clear hc hx
  go_enter Try.func7, Try.ntmps7
  go_wp2_with fail
  refine sanity_any.mono ?_
  rintro e w1 ⟨rfl, hb1⟩
  go_wp2_with fail
  clear e1
  go_loopw [15] (fun i wr => ∃ k : Nat, k ≤ 6 ∧ i = .int .i64 k ∧ w1.heap.size + 1 ≤ wr.heap.size ∧ Below w.heap.size w wr ∧ Hid (Arr wr w1.heap.size 6 (eltM a (wrap64 (-a)) c))) (fun i _ => 6 - (intOf i).toNat)
  case atStart =>
    refine ⟨0, by omega, rfl, by simp, hb1.alloc hb1.size _, ?_⟩
    intro j hj
    match j, hj with
    | 0, _ => go_simp; rfl
    | 1, _ => go_simp; rfl
    | 2, _ => go_simp; rfl
    | 3, _ => go_simp; rfl
    | 4, _ => go_simp; rfl
    | 5, _ => go_simp; rfl
  case round =>
    obtain ⟨k, hk, rfl, hsz, hb, hc⟩ := hrel
    by_cases hlt : k < 6
    · have g := hc.out k hlt
      obtain ⟨n, hne⟩ : ∃ n, eltM a (wrap64 (-a)) c k = n := ⟨_, rfl⟩
      rw [hne] at g
      clear hne
      go_wp2_with fail
      refine member_any.mono ?_
      rintro e w2 ⟨rfl, hb2⟩
      go_wp2_with fail
      refine refmember_any.mono ?_
      rintro e w3 ⟨rfl, rfl⟩
      go_wp2_with fail
      go_roundw
      case rel =>
        have z2 := hb2.size
        have z1 := hb1.size
        exact ⟨k + 1, by omega, by go_num, by omega, hb.trans (hb2.mono (by omega)), hc.out.below hb2 (by omega)⟩
      case measure => simp [intOf]; omega
    · obtain rfl : k = 6 := by omega
      have hw : wrap64 (1 + x) = 1 + x := by unfold wrap64; omega
      have hm := mem_neg (a := 1 + x) (by omega) (by unfold Pv; omega)
      obtain ⟨u, hu⟩ : ∃ u, memB (1 + x) = u := ⟨_, rfl⟩
      obtain ⟨v, hv⟩ : ∃ v, memB (Pv - (1 + x)) = v := ⟨_, rfl⟩
      rw [hu, hv] at hm
      have hm' : (u == v) = false := by simpa using hm
      clear hm
      have HU := Lib.hid hu
      have HV := Lib.hid hv
      clear hu hv
      go_wp2_with fail
      refine member_any.mono ?_
      rintro e w2 ⟨rfl, hb2⟩
      rw [HU.out]
      go_wp2_with fail
      refine member_any.mono ?_
      rintro e w3 ⟨rfl, hb3⟩
      rw [show memB (2305843009213691579 - (1 + x)) = v from HV.out]
      go_wp2_with fail
      go_ret
      have z2 := hb2.size
      have z1 := hb1.size
      exact ⟨rfl, (hb.trans (hb2.mono (by omega))).trans (hb3.mono (by omega))⟩

set_option maxRecDepth 100000 in
theorem gmem_lifted (os : Os) (started : os.Started) (H : Type) (enc : TypeId × Value → H) :
    ReturnsInHanded {} Try.checked os 7 .any (Rows.groupMembersSpec.pre6 enc Try.prog Try.f7 Rows.groupMembersRow.domain false) (Rows.groupMembersSpec.post enc Try.prog Try.f7 false true false false) := by
  refine returnsInHanded_of_change (C := Try.checked) own started (by kernel_rfl) Try.func7
    (ChangeSpec.witness6 (enc := enc) (C := Try.checked) false ⟨#[], #[.int .i64 0], []⟩ 8 (by kernel_rfl) (by kernel_rfl) (by kernel_rfl) (by kernel_rfl)) ?_
  intro W base args ds gs before hval0 hW hcnd _
  have hval : ∀ (j : Nat) t v, Try.f7.params[j]? = some t → args[j]? = some v → Value.okWide Try.prog W .any base t v := hval0
  obtain ⟨p, q, hA0, hV, -, -, -⟩ := id hW
  have hA : DataW.TrodAll enc Try.prog W 0 (fun _ => true) true Try.f7.params.toList args.toList ds p := hA0
  rw [Try.params7] at hA hval
  obtain ⟨v0, vs0, d0, ds0, p0, q0, hargs, rfl, rfl, h0, r0⟩ := trodAll_cons hA
  obtain ⟨rfl, rfl, rfl⟩ := trodAll_nil r0
  obtain rfl : args = #[v0] := by cases args; simp_all
  obtain ⟨rfl, -⟩ := trodVars_none hV
  obtain ⟨a0, rfl, wl0, wh0⟩ := open_i64 Try.underlying3 (hval 0 3 v0 rfl rfl)
  refine (gmem_walk _ wl0 wh0 W).mono fun e W' ⟨he, hg⟩ => ?_
  subst he
  exact ⟨_, rfl, law_post (tb := 4) laidOut (by decide +kernel) rfl Try.underlying4 rfl hW rfl hg⟩

theorem gmem_proved : Rows.GroupMembersSaid :=
  OpenClaim.holds_of_wide 7 Try.f7 rfl rfl rfl rfl rfl rfl rfl ⟨rfl, rfl, rfl, rfl, rfl⟩ rfl rfl rfl rfl rfl (by kernel_rfl) Try.func7 (by kernel_rfl)
    (of_decide_eq_true (by kernel_rfl)) (by unfold Func.isWrapper; first | (rw [if_pos (by decide +kernel)]; kernel_rfl) | (rw [if_neg (by decide +kernel)]; exact ⟨rfl, rfl⟩))
    (fun os started H enc _ => gmem_lifted os started H enc)
#print axioms gmem_proved
end Go.Proofs.Ytiljlopgjlgfoaa
