/- TreePaths returns true for all numbers, and its arguments read behind the call as before. No condition. -/
import Derived.Test.YtijhdfllffkfjaaTrL
import Derived.Test.YtijhdfllffkfjaaArgs
namespace Go.Proofs.Ytijhdfllffkfjaa
open Go.ChangeShapes Go.WideShapes Go.ChangeAt Go.RowKit

theorem path_any {L : List (List UInt8)} {v : Value} {n : Int} {w : World} (hf : Fits L) (hsm : L.length ≤ 1000) (h : SSlice w v L) :
    Calls Try.prog 28 #[v, .int .i64 n] w (if 0 ≤ n ∧ n < L.length then ListTrue w (pathS L n.toNat) else NoneFalse w) := by
  by_cases hn : 0 ≤ n ∧ n < L.length
  · rw [if_pos hn]
    obtain ⟨k, rfl⟩ : ∃ k : Nat, n = k := ⟨n.toNat, by omega⟩
    rw [Int.toNat_natCast]
    rcases h with ⟨⟨ea, ecap, rfl, _⟩, rfl⟩ | ⟨b, off, cap, rfl, h1, h2, h3⟩
    · exfalso; simp at hn; omega
    · exact path_loop hf h1 h2 h3 (by omega) hsm
  · rw [if_neg hn]
    rcases h with ⟨⟨ea, ecap, rfl, _⟩, rfl⟩ | ⟨b, off, cap, rfl, h1, h2, h3⟩
    · exact path_bad (len := 0) (by simp at hn; simp; omega)
    · exact path_bad (by omega)
theorem refpath_any {L : List (List UInt8)} {v : Value} {n : Int} {w : World} (hf : Fits L) (hsm : L.length ≤ 1000) (h : SSlice w v L) :
    Calls Try.prog 23 #[v, .int .i64 n] w (if 0 ≤ n ∧ n < L.length then ListTrue w (pathS L n.toNat) else NoneFalse w) := by
  by_cases hn : 0 ≤ n ∧ n < L.length
  · rw [if_pos hn]
    obtain ⟨k, rfl⟩ : ∃ k : Nat, n = k := ⟨n.toNat, by omega⟩
    rw [Int.toNat_natCast]
    rcases h with ⟨⟨ea, ecap, rfl, _⟩, rfl⟩ | ⟨b, off, cap, rfl, h1, h2, h3⟩
    · exfalso; simp at hn; omega
    · exact refpath_row _ L (Nat.le_refl _) hf hsm w b off cap k h1 h2 h3 (by omega)
  · rw [if_neg hn]
    rcases h with ⟨⟨ea, ecap, rfl, _⟩, rfl⟩ | ⟨b, off, cap, rfl, h1, h2, h3⟩
    · exact refpath_bad (len := 0) (by simp at hn; simp; omega)
    · exact refpath_bad (by omega)
theorem SSlice.form {w : World} {v : Value} {L : List (List UInt8)} (h : SSlice w v L) : ∃ (a : Option Addr) (cap : Nat), v = .slice a (L.length : Nat) cap ∧ L.length ≤ cap ∧ cap ≤ 9223372036854775807 ∧ (0 < L.length → ∃ b off : Nat, a = some ⟨b, off, none⟩ ∧ SRow w b off L) := by
  rcases h with ⟨⟨ea, ecap, rfl, eh⟩, rfl⟩ | ⟨b, off, cap, rfl, h2, h3, h4⟩
  · exact ⟨ea, ecap, rfl, Nat.zero_le _, eh, fun h => by simp at h⟩
  · exact ⟨_, cap, rfl, h3, h4, fun _ => ⟨b, off, rfl, h2⟩⟩
/-- the loop of the law, as a function of what it finds -/
theorem pathfits_true {L : List (List UInt8)} {k : Nat} {v : Value} {w : World} (hk : k < L.length) (hL : L.length ≤ 20) (hf : Fits L) (hv : HSlice w v (pathS L k)) :
    Calls Try.prog 21 #[.agg (hd L.length (rootS L)), .int .i64 (k : Int), .string (bs (L.getD k [])), v] w fun e w' => e = .returned (.bool true) ∧ Below w.heap.size w w' := by
  have := fits_any (size := (L.length : Int)) (n := (k : Int)) (root := rootS L) (leaf := L.getD k []) (by omega) (hf.get k) hv
  rw [fit_path hk] at this
  exact this
set_option maxHeartbeats 4000000 in
set_option maxRecDepth 100000 in
theorem paths_walk {v : Value} {l : List UInt8} {w : World} (hv0 : BSlice w v l) (n : Int) (_h0 : -9223372036854775808 ≤ n) (_h1 : n ≤ 9223372036854775807) :
    Calls Try.prog 5 #[v, .int .i64 n] w (Said true w) := by
  obtain ⟨L, hLe⟩ : ∃ L, strS l = L := ⟨_, rfl⟩
  have hL20 : L.length ≤ 20 := by rw [← hLe, strS_length]; omega
  have hf : Fits L := by rw [← hLe]; exact strS_fits l
  have HV := Lib.hid hv0
  have HLE := Lib.hid hLe
  clear hv0 hLe
  obtain ⟨H, hH⟩ : ∃ H, (if 0 ≤ n ∧ n < L.length then pathS L n.toNat else []) = H := ⟨_, rfl⟩
  obtain ⟨bq, hbq⟩ : ∃ bq : Bool, decide (0 ≤ n ∧ n < L.length) = bq := ⟨_, rfl⟩
  have P1 : Hid (∀ W v, SSlice W v L → Calls Try.prog 28 #[v, .int .i64 n] W fun e w' => ∃ u, e = .returned (.tuple #[u, .bool bq]) ∧ HSlice w' u H ∧ Below W.heap.size W w') := fun W v hs => by
    refine (path_any (n := n) hf (by omega) hs).mono fun e w' he => ?_
    by_cases hn : 0 ≤ n ∧ n < L.length
    · rw [if_pos hn] at he hH
      obtain ⟨u, e1, e2, e3⟩ := he
      exact ⟨u, by rw [e1, ← hbq, decide_eq_true hn], by rw [← hH]; exact e2.slice, e3⟩
    · rw [if_neg hn] at he hH
      obtain ⟨e1, rfl⟩ := he
      exact ⟨_, by rw [e1, ← hbq, decide_eq_false hn], .inl ⟨Empty.nil, hH.symm⟩, Below.refl _ _⟩
  have P2 : Hid (∀ W v, SSlice W v L → Calls Try.prog 23 #[v, .int .i64 n] W fun e w' => ∃ u, e = .returned (.tuple #[u, .bool bq]) ∧ HSlice w' u H ∧ Below W.heap.size W w') := fun W v hs => by
    refine (refpath_any (n := n) hf (by omega) hs).mono fun e w' he => ?_
    by_cases hn : 0 ≤ n ∧ n < L.length
    · rw [if_pos hn] at he hH
      obtain ⟨u, e1, e2, e3⟩ := he
      exact ⟨u, by rw [e1, ← hbq, decide_eq_true hn], by rw [← hH]; exact e2.slice, e3⟩
    · rw [if_neg hn] at he hH
      obtain ⟨e1, rfl⟩ := he
      exact ⟨_, by rw [e1, ← hbq, decide_eq_false hn], .inl ⟨Empty.nil, hH.symm⟩, Below.refl _ _⟩
  clear hH hbq
  go_enter Try.func5, Try.ntmps5
  go_wp2_with fail
  refine sanity_any.mono ?_
  rintro e w1 ⟨rfl, hb1⟩
  go_wp2_with fail
  refine (strings_any (HV.out.below hb1)).mono ?_
  rintro e w2 ⟨s, rfl, hs, hb2⟩
  rw [HLE.out] at hs
  have hB2 := hb1.trans (hb2.mono hb1.size)
  have hs2 := hs.slice
  clear hs hb1 hb2
  go_wp2_with fail
  refine (P1.out _ _ hs2).mono ?_
  rintro e w3 ⟨u, rfl, hu, hb3⟩
  have hs3 := hs2.below hb3
  have hB3 := hB2.trans (hb3.mono hB2.size)
  go_wp2_with fail
  refine (P2.out _ _ hs3).mono ?_
  rintro e w4 ⟨q, rfl, hq, hb4⟩
  have hs4 := hs3.below hb4
  have hu4 := hu.below hb4
  have hB4 := hB3.trans (hb4.mono hB3.size)
  clear hs2 hs3 hu hb3 hb4 hB2 hB3 P1 P2
  obtain ⟨a, cap, hse, c1, c2, hrow⟩ := hs4.form
  have HS := Lib.hid hs4
  rw [hse] at HS ⊢
  obtain ⟨len, hlen⟩ : ∃ len, L.length = len := ⟨_, rfl⟩
  rw [hlen] at hse hrow c1 hL20 HS ⊢
  have HN := Lib.hid hlen
  have HR' := Lib.hid hrow
  have HU := Lib.hid hu4
  have HQ := Lib.hid hq
  clear hse hs4 hlen hrow hu4 hq
  go_wp2_with fail
  refine (same_self HU.out HQ.out).mono ?_
  rintro e w5 ⟨rfl, hb5⟩
  have hB5 := hB4.trans (hb5.mono hB4.size)
  go_wp2_with fail
  go_loopw [40] (fun i wr => ∃ k : Nat, k ≤ len ∧ i = .int .i64 k ∧ Below w4.heap.size w4 wr) (fun i _ => len - (intOf i).toNat)
  case atStart => exact ⟨0, by omega, rfl, hb5⟩
  case round =>
    obtain ⟨k, hk, rfl, hB⟩ := hrel
    by_cases hlt : k < len
    · have hsr := HS.out.below hB
      go_wp2_with fail
      have hp := path_any (n := (k : Int)) hf (by rw [HN.out]; omega) hsr
      rw [if_pos (by rw [HN.out]; omega), Int.toNat_natCast] at hp
      refine hp.mono ?_
      rintro e w6 ⟨p, rfl, hpo, hb6⟩
      have hs6 := hsr.below hb6
      obtain ⟨b, off, hae, hrow⟩ := HR'.out (by omega)
      have hB6 := hB.trans (hb6.mono hB.size)
      have hcell := (hrow.below hB6) k (by rw [HN.out]; exact hlt)
      have G1 : Hid (∀ e : Ext w6, Calls Try.prog 22 #[.slice a len cap] e.at fun x w' => x = .returned (.agg (hd len (rootS L))) ∧ Below e.at.heap.size e.at w') := fun e => by
        have := headof_any (hs6.below e.below) hf
        rw [HN.out] at this
        exact this
      have G2 : Hid (∀ e : Ext w6, Calls Try.prog 21 #[.agg (hd len (rootS L)), .int .i64 (k : Int), .string (bs (L.getD k [])), p] e.at fun x w' => x = .returned (.bool true) ∧ Below e.at.heap.size e.at w') := fun e => by
        have := pathfits_true (L := L) (k := k) (by rw [HN.out]; exact hlt) (by rw [HN.out]; omega) hf (hpo.slice.below e.below)
        rw [HN.out] at this
        exact this
      obtain ⟨y, hy⟩ : ∃ y, L.getD k [] = y := ⟨_, rfl⟩
      rw [hy] at hcell G2
      subst hae
      have hx : ∀ e : Ext w6, e.at.cell? ⟨b, off + k, none⟩ = some (.string (bs y)) := ext_cell hcell
      clear hy hrow hp hpo hsr hs6 hb6 hcell
      go_wp2_with fail
      refine wp_region_ext (by kernel_rfl) (by kernel_rfl) ?_
      repeat (go_big_quiet_step ((first | (go_at_call 22; with_reducible exact ext_call (G1.out _)) | (go_at_call 21; with_reducible exact ext_call (G2.out _)))))
      refine wpQuiet_nil ?_
      rintro _ ⟨e, rfl⟩
      have hB7 := hB6.trans (e.below.mono hB6.size)
      go_wp2_with fail
      go_roundw
      case rel => exact ⟨k + 1, hlt, by go_num, hB7⟩
      case measure => simp [intOf]; omega
    · have t1 : decide (k < len) = false := decide_eq_false hlt
      go_wp2_with fail
      go_ret
      exact ⟨rfl, hB4.trans (hB.mono hB4.size)⟩

set_option maxRecDepth 100000 in
theorem paths_lifted (os : Os) (started : os.Started) (H : Type) (enc : TypeId × Value → H) :
    ReturnsInHanded {} Try.checked os 5 .any (Rows.treePathsSpec.pre6 enc Try.prog Try.f5 Rows.treePathsRow.domain false) (Rows.treePathsSpec.post enc Try.prog Try.f5 false true false false) := by
  refine returnsInHanded_of_change (C := Try.checked) own started (by kernel_rfl) Try.func5
    (ChangeSpec.witness6 (enc := enc) (C := Try.checked) false ⟨#[], #[.slice none 0 0, .int .i64 0], []⟩ 8 (by kernel_rfl) (by kernel_rfl) (by kernel_rfl) (by kernel_rfl)) ?_
  intro W base args ds gs before hval0 hW hcnd _
  have hval : ∀ (j : Nat) t v, Try.f5.params[j]? = some t → args[j]? = some v → Value.okWide Try.prog W .any base t v := hval0
  obtain ⟨p, q, hA0, hV, -, -, -⟩ := id hW
  have hA : DataW.TrodAll enc Try.prog W 0 (fun _ => true) true Try.f5.params.toList args.toList ds p := hA0
  rw [Try.params5] at hA hval
  obtain ⟨v0, vs0, d0, ds0, p0, q0, hargs, rfl, rfl, h0, r0⟩ := trodAll_cons hA
  obtain ⟨v1, vs1, d1, ds1, p1, q1, rfl, rfl, rfl, h1, r1⟩ := trodAll_cons r0
  obtain ⟨rfl, rfl, rfl⟩ := trodAll_nil r1
  obtain rfl : args = #[v0, v1] := by cases args; simp_all
  obtain ⟨rfl, -⟩ := trodVars_none hV
  obtain ⟨a0, hs0⟩ := open_bslice Try.underlying30 Try.underlying5 (by kernel_rfl) (hval 0 30 v0 rfl rfl) h0
  obtain ⟨a1, rfl, wl1, wh1⟩ := open_i64 Try.underlying3 (hval 1 3 v1 rfl rfl)
  refine (paths_walk hs0 _ wl1 wh1).mono fun e W' ⟨he, hg⟩ => ?_
  subst he
  exact ⟨_, rfl, law_post (tb := 4) laidOut (by decide +kernel) rfl Try.underlying4 rfl hW rfl hg⟩

theorem paths_proved : Rows.TreePathsSaid :=
  OpenClaim.holds_of_wide 5 Try.f5 rfl rfl rfl rfl rfl rfl rfl ⟨rfl, rfl, rfl, rfl, rfl⟩ rfl rfl rfl rfl rfl (by kernel_rfl) Try.func5 (by kernel_rfl)
    (of_decide_eq_true (by kernel_rfl)) (by unfold Func.isWrapper; first | (rw [if_pos (by decide +kernel)]; kernel_rfl) | (rw [if_neg (by decide +kernel)]; exact ⟨rfl, rfl⟩))
    (fun os started H enc _ => paths_lifted os started H enc)
#print axioms paths_proved
end Go.Proofs.Ytijhdfllffkfjaa
