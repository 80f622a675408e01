/- Growth, the reference's. -/
import Derived.Test.YtijhdfllffkfjaaTrQ
import Derived.Test.YtijhdfllffkfjaaRel
namespace Go.Proofs.Ytijhdfllffkfjaa
open Go.RowKit

/-- a list of hashes, in memory of the call's own -/
def OwnList (w : World) (H : List HF) (e : Ending) (w' : World) : Prop := ∃ v, e = .returned v ∧ HOwn w' w.heap.size v H ∧ Below w.heap.size w w'
theorem HOwn.one (w : World) (f : HF) {B : Nat} (hB : B ≤ w.heap.size) : HOwn (w.alloc (.cells (arr 32 (U8 f)) 24)) B (.slice (some ⟨w.heap.size, 0, none⟩) 1 1) [f] :=
  ⟨HC_length [f], .inr ⟨w.heap.size, 1, arr 32 (U8 f), rfl, hB, heap_alloc_new w _, Nat.le_refl _, by unfold maxLen; decide, by rw [size_arr], by
    rw [HC_one]; unfold hc; exact List.take_of_length_le (by simp [size_arr])⟩⟩
set_option maxHeartbeats 1000000 in
theorem refgrow_eq {n : Nat} {a : Option Addr} {cap : Nat} {whole : Bool} {f : HF} {w : World} (h1 : whole = false → ∀ W, Below w.heap.size w W → Calls Try.prog 17 #[.slice a n cap] W fun e w' => e = .returned (hv f) ∧ Below W.heap.size W w') :
    Calls Try.prog 46 #[.slice a n cap, .int .i64 (n : Int), .bool whole] w (OwnList w (if whole then [] else [f])) := by
  cases whole with
  | true =>
    clear h1
    go_enter Try.func46, Try.ntmps46
    go_wp2_with fail
    go_ret
    exact ⟨_, rfl, HOwn.nil _ _, Below.refl _ _⟩
  | false =>
    have H1 := Lib.hid (h1 rfl)
    clear h1
    go_enter Try.func46, Try.ntmps46
    go_wp2_with fail
    refine (H1.out _ (Below.refl _ _)).mono ?_
    rintro e w2 ⟨rfl, hb2⟩
    unfold hv
    go_wp2_with (refine wpList_slice_h rfl _ rfl f rfl ?_)
    go_ret
    exact ⟨_, rfl, HOwn.one _ _ hb2.size, hb2.alloc hb2.size _⟩
theorem HOwn.weaken {w : World} {B B' : Nat} {v : Value} {H : List HF} (h : HOwn w B v H) (hB : B' ≤ B) : HOwn w B' v H := by
  obtain ⟨hl, h⟩ := h
  refine ⟨hl, ?_⟩
  rcases h with h | ⟨g, cap, cur, h1, h2, h3⟩
  · exact .inl h
  · exact .inr ⟨g, cap, cur, h1, by omega, h3⟩
theorem HOwn.stable (B : Nat) (v : Value) (H : List HF) : Stable (fun w => HOwn w B v H) := fun _ _ h hb => h.below hb
/-- a fresh slice of one hash -/
def OneH (f : HF) (v : Value) (w : World) : Prop := ∃ g : Nat, v = .slice (some ⟨g, 0, none⟩) 1 1 ∧ w.rangeAt g 0 (hc f)
theorem OneH.stable (f : HF) (v : Value) : Stable (OneH f v) := fun _ _ ⟨g, h, hr⟩ hb => ⟨g, h, range_below hr hb (range_lt hr)⟩
set_option maxHeartbeats 2000000 in
set_option maxRecDepth 100000 in
theorem refgrow_lo {H : List HF} {f : HF} {n m k b off cap : Nat} {whole : Bool} {w : World} (h2 : 2 ≤ n) (hcap : n ≤ cap) (hcm : cap ≤ 9223372036854775807) (hk : halfN n = k) (hm : m ≤ k) (hH : H.length ≤ 1000)
    (h1 : ∀ W, Below w.heap.size w W → Calls Try.prog 46 #[.slice (some ⟨b, off, none⟩) k cap, .int .i64 (m : Int), .bool whole] W (OwnList W H))
    (h3 : ∀ W, Below w.heap.size w W → Calls Try.prog 17 #[.slice (some ⟨b, off + k, none⟩) (n - k) (cap - k)] W fun e w' => e = .returned (hv f) ∧ Below W.heap.size W w') :
    Calls Try.prog 46 #[.slice (some ⟨b, off, none⟩) n cap, .int .i64 (m : Int), .bool whole] w (OwnList w (H ++ [f])) := by
  obtain ⟨k1, k2, k3⟩ := halfN_lt h2
  rw [hk] at k1 k2 k3
  have HK := Lib.hid hk
  have n0 : ((m : Int) == (n : Int)) = false := by simp; omega
  have H1 := Lib.hid h1
  have H3 := Lib.hid h3
  clear hk h1 h3
  go_enter Try.func46, Try.ntmps46
  go_wp2_with fail
  refine (refhalf_any h2 (by omega)).mono ?_
  rintro e w1 ⟨rfl, hw⟩
  obtain rfl := hw.symm
  rw [HK.out]
  clear n0
  go_wp2_with fail
  refine wp_region_facts 11 [(5, [], fun v w' => HOwn w' w.heap.size v H), (4, [], OneH f)] (by kernel_rfl) (by kernel_rfl) (by kernel_rfl) ?_ ?_
  · intro p hp v
    simp only [List.mem_cons, List.not_mem_nil, or_false] at hp
    rcases hp with rfl | rfl
    · exact HOwn.stable _ _ _
    · exact OneH.stable _ _
  simp only [planOf, wpPlan, bareOp, List.take_succ_cons, List.take_zero, List.drop_succ_cons, List.drop_zero, Option.getD_some]
  intro c
  repeat (go_big_quiet_step (fail))
  refine wpQuiet_nil ⟨by rfl, by show (27 : Nat) < _; simp, ?_, ?_⟩
  · intro W hW _
    go_wp2_with fail
    refine (H1.out _ hW).mono ?_
    rintro e w2 ⟨v, rfl, hO, hb⟩
    go_wp2_with fail
    exact ⟨hO.weaken hW.size, rfl, hb⟩
  · intro v1 hv1
    simp only [Act.put, Array.setIfInBounds, List.size_toArray, List.length_cons, List.length_nil, Nat.reduceAdd, Nat.reduceLT, dite_true, List.set_toArray, List.set_cons_succ, List.set_cons_zero]
    intro c
    repeat (go_big_quiet_step ((go_at_call 17; with_reducible exact cls_call (H3.out _ (Cls.El.below _)))))
    refine wpQuiet_nil ⟨by rfl, by show (32 : Nat) < _; simp, ?_, ?_⟩
    · intro W hW _
      unfold hv
      go_wp2_with (refine wpList_slice_h rfl _ rfl f rfl ?_)
      exact ⟨⟨_, rfl, row_range (Row.newArr _ _ _ _)⟩, rfl, (Below.refl _ _).alloc (Nat.le_refl _) _⟩
    · intro v2 hv2
      simp only [List.size_toArray, List.length_cons, List.length_nil, Nat.reduceAdd, Nat.reduceLT, dite_true, List.set_toArray, List.set_cons_succ, List.set_cons_zero]
      intro c
      refine wpQuiet_nil ?_
      intro w3 hw3 hG
      have hO : HOwn w3 w.heap.size v1 H := hG _ (List.mem_cons_of_mem _ (List.mem_cons_self ..))
      obtain ⟨g, rfl, hr⟩ : OneH f v2 w3 := hG _ (List.mem_cons_self ..)
      have hA2 : H.length + [f].length ≤ 1000000000 := by simp; omega
      have hr1 : w3.rangeAt g 0 (HC [f]) := by rw [HC_one]; exact hr
      go_wp2_with (at_builtin; refine wpList_append_h rfl _ _ rfl w.heap.size _ H [f] rfl hO g 0 1 1 rfl rfl hr1 hA2 hw3.size ?_; rintro v' w4 hO4 hg4)
      go_ret
      exact ⟨_, rfl, hO4, HOwn.grown_below hO hw3 hw3.size hg4⟩
set_option maxHeartbeats 2000000 in
set_option maxRecDepth 100000 in
theorem refgrow_hi {H : List HF} {f : HF} {n m k b off cap : Nat} {whole : Bool} {w : World} (h2 : 2 ≤ n) (hcap : n ≤ cap) (hcm : cap ≤ 9223372036854775807) (hk : halfN n = k) (hm : k < m) (hmn : m < n) (hH : H.length ≤ 1000)
    (h1 : ∀ W, Below w.heap.size w W → Calls Try.prog 46 #[.slice (some ⟨b, off + k, none⟩) (n - k) (cap - k), .int .i64 ((m : Int) - (k : Int)), .bool false] W (OwnList W H))
    (h3 : ∀ W, Below w.heap.size w W → Calls Try.prog 17 #[.slice (some ⟨b, off, none⟩) k cap] W fun e w' => e = .returned (hv f) ∧ Below W.heap.size W w') :
    Calls Try.prog 46 #[.slice (some ⟨b, off, none⟩) n cap, .int .i64 (m : Int), .bool whole] w (OwnList w (H ++ [f])) := by
  obtain ⟨k1, k2, k3⟩ := halfN_lt h2
  rw [hk] at k1 k2 k3
  have HK := Lib.hid hk
  have n0 : ((m : Int) == (n : Int)) = false := by simp; omega
  have n4 : decide ((m : Int) ≤ (k : Int)) = false := decide_eq_false (by omega)
  have n5 : decide (m ≤ k) = false := decide_eq_false (by omega)
  have H1 := Lib.hid h1
  have H3 := Lib.hid h3
  clear hk h1 h3
  go_enter Try.func46, Try.ntmps46
  go_wp2_with fail
  refine (refhalf_any h2 (by omega)).mono ?_
  rintro e w1 ⟨rfl, hw⟩
  obtain rfl := hw.symm
  rw [HK.out]
  clear n0
  go_wp2_with fail
  refine wp_region_facts 12 [(6, [], fun v w' => HOwn w' w.heap.size v H), (4, [], OneH f)] (by kernel_rfl) (by kernel_rfl) (by kernel_rfl) ?_ ?_
  · intro p hp v
    simp only [List.mem_cons, List.not_mem_nil, or_false] at hp
    rcases hp with rfl | rfl
    · exact HOwn.stable _ _ _
    · exact OneH.stable _ _
  have s1 : IntKind.i64.wrap ((m : Int) - (k : Int)) = (m : Int) - (k : Int) := by rw [IntKind.wrap_i64]; omega
  simp only [planOf, wpPlan, bareOp, List.take_succ_cons, List.take_zero, List.drop_succ_cons, List.drop_zero, Option.getD_some]
  intro c
  repeat (go_big_quiet_step (fail))
  refine wpQuiet_nil ⟨by rfl, by show (40 : Nat) < _; simp, ?_, ?_⟩
  · intro W hW _
    go_wp2_with fail
    refine (H1.out _ hW).mono ?_
    rintro e w2 ⟨v, rfl, hO, hb⟩
    go_wp2_with fail
    exact ⟨hO.weaken hW.size, rfl, hb⟩
  · intro v1 hv1
    simp only [Act.put, Array.setIfInBounds, List.size_toArray, List.length_cons, List.length_nil, Nat.reduceAdd, Nat.reduceLT, dite_true, List.set_toArray, List.set_cons_succ, List.set_cons_zero]
    intro c
    repeat (go_big_quiet_step ((go_at_call 17; with_reducible exact cls_call (H3.out _ (Cls.El.below _)))))
    refine wpQuiet_nil ⟨by rfl, by show (45 : Nat) < _; simp, ?_, ?_⟩
    · intro W hW _
      unfold hv
      go_wp2_with (refine wpList_slice_h rfl _ rfl f rfl ?_)
      exact ⟨⟨_, rfl, row_range (Row.newArr _ _ _ _)⟩, rfl, (Below.refl _ _).alloc (Nat.le_refl _) _⟩
    · intro v2 hv2
      simp only [List.size_toArray, List.length_cons, List.length_nil, Nat.reduceAdd, Nat.reduceLT, dite_true, List.set_toArray, List.set_cons_succ, List.set_cons_zero]
      intro c
      refine wpQuiet_nil ?_
      intro w3 hw3 hG
      have hO : HOwn w3 w.heap.size v1 H := hG _ (List.mem_cons_of_mem _ (List.mem_cons_self ..))
      obtain ⟨g, rfl, hr⟩ : OneH f v2 w3 := hG _ (List.mem_cons_self ..)
      have hA2 : H.length + [f].length ≤ 1000000000 := by simp; omega
      have hr1 : w3.rangeAt g 0 (HC [f]) := by rw [HC_one]; exact hr
      go_wp2_with (at_builtin; refine wpList_append_h rfl _ _ rfl w.heap.size _ H [f] rfl hO g 0 1 1 rfl rfl hr1 hA2 hw3.size ?_; rintro v' w4 hO4 hg4)
      go_ret
      exact ⟨_, rfl, hO4, HOwn.grown_below hO hw3 hw3.size hg4⟩
theorem refgrow_row : ∀ (j : Nat) (L : List (List UInt8)) (m : Nat) (whole : Bool) (_ : L.length ≤ j) (_ : Fits L) (_ : L.length ≤ 1000) (w : World) (b off cap : Nat) (_ : SRow w b off L) (_ : L.length ≤ cap) (_ : cap ≤ 9223372036854775807) (_ : 0 < m) (_ : m ≤ L.length),
    Calls Try.prog 46 #[.slice (some ⟨b, off, none⟩) L.length cap, .int .i64 (m : Int), .bool whole] w (OwnList w (growS L m whole))
  | j, L, m, whole, hj, hf, hsm, w, b, off, cap, hc, hcap, hcm, hm0, hm => by
    by_cases he : m = L.length
    · rw [growS_eq he]
      subst he
      exact refgrow_eq (fun _ W hW => refroot_row L.length L (Nat.le_refl _) hf W b off cap (hc.below hW) hcap hcm)
    · have h2 : 2 ≤ L.length := by omega
      obtain ⟨k1, k2, k3⟩ := halfN_lt h2
      obtain ⟨j', rfl⟩ : ∃ j', j = j' + 1 := ⟨j - 1, by omega⟩
      have hlt : (L.take (halfN L.length)).length = halfN L.length := by rw [List.length_take]; omega
      have hld : (L.drop (halfN L.length)).length = L.length - halfN L.length := List.length_drop
      by_cases hk : m ≤ halfN L.length
      · rw [growS_lo he h2 hk]
        have hl := growS_len _ (L.take (halfN L.length)) m whole (Nat.le_refl _)
        have h64 := manyS_64 (m := m) (n := (L.take (halfN L.length)).length) (whole := whole) (by omega)
        refine refgrow_lo h2 hcap hcm rfl hk (by omega) (fun W hW => ?_) (fun W hW => ?_)
        · have h := refgrow_row j' (L.take (halfN L.length)) m whole (by omega) (hf.take _) (by omega) W b off cap ((hc.below hW).take _) (by omega) hcm hm0 (by omega)
          rw [hlt] at h
          exact h
        · have h := refroot_row j' (L.drop (halfN L.length)) (by omega) (hf.drop _) W b (off + halfN L.length) (cap - halfN L.length) ((hc.below hW).drop _) (by omega) (by omega)
          rw [hld] at h
          exact h
      · rw [growS_hi he h2 hk]
        have hl := growS_len _ (L.drop (halfN L.length)) (m - halfN L.length) false (Nat.le_refl _)
        have h64 := manyS_64 (m := m - halfN L.length) (n := (L.drop (halfN L.length)).length) (whole := false) (by omega)
        refine refgrow_hi h2 hcap hcm rfl (by omega) (by omega) (by omega) (fun W hW => ?_) (fun W hW => ?_)
        · have h := refgrow_row j' (L.drop (halfN L.length)) (m - halfN L.length) false (by omega) (hf.drop _) (by omega) W b (off + halfN L.length) (cap - halfN L.length) ((hc.below hW).drop _) (by omega) (by omega) (by omega) (by omega)
          rw [hld, show ((m - halfN L.length : Nat) : Int) = (m : Int) - (halfN L.length : Nat) by omega] at h
          exact h
        · have h := refroot_row j' (L.take (halfN L.length)) (by omega) (hf.take _) W b off cap ((hc.below hW).take _) (by omega) hcm
          rw [hlt] at h
          exact h
set_option maxHeartbeats 1000000 in
theorem refgrowth_bad {a : Option Addr} {len cap : Nat} {m : Int} {w : World} (h : m < 0 ∨ (len : Int) < m) :
    Calls Try.prog 31 #[.slice a len cap, .int .i64 m] w (NoneFalse w) := by
  by_cases h0 : m < 0
  · go_enter Try.func31, Try.ntmps31
    go_wp2_with fail
    go_ret2
    exact ⟨rfl, rfl⟩
  · have h1 : (len : Int) < m := by omega
    go_enter Try.func31, Try.ntmps31
    go_wp2_with fail
    go_ret2
    exact ⟨rfl, rfl⟩
set_option maxHeartbeats 1000000 in
theorem refgrowth_end {a : Option Addr} {len cap m : Nat} {w : World} (h : m = 0 ∨ m = len) :
    Calls Try.prog 31 #[.slice a len cap, .int .i64 (m : Int)] w (ListTrue w []) := by
  have n1 : ((m : Int) < 0) = False := by simp
  have n2 : decide ((m : Int) > (len : Int)) = false := decide_eq_false (by omega)
  have n3 : decide (len < m) = false := decide_eq_false (by omega)
  have n4 : decide ((len : Int) < (m : Int)) = false := decide_eq_false (by omega)
  by_cases h0 : m = 0
  · have t0 : ((m : Int) == 0) = true := by simp; omega
    clear h h0
    go_enter Try.func31, Try.ntmps31
    go_wp2_with fail
    go_ret2
    exact ⟨_, rfl, HOwn.nil _ _, Below.refl _ _⟩
  · have t0 : ((m : Int) == 0) = false := by simp; omega
    have t1 : ((m : Int) == (len : Int)) = true := by simp; omega
    clear h h0
    go_enter Try.func31, Try.ntmps31
    go_wp2_with fail
    go_ret2
    exact ⟨_, rfl, HOwn.nil _ _, Below.refl _ _⟩
set_option maxHeartbeats 1000000 in
theorem refgrowth_mid {H : List HF} {a : Option Addr} {len cap m : Nat} {w : World} (h0 : 0 < m) (h : m < len) (_hlm : len ≤ 9223372036854775807)
    (h1 : Calls Try.prog 46 #[.slice a len cap, .int .i64 (m : Int), .bool true] w (OwnList w H)) :
    Calls Try.prog 31 #[.slice a len cap, .int .i64 (m : Int)] w (ListTrue w H) := by
  have n1 : ((m : Int) < 0) = False := by simp
  have n2 : decide ((m : Int) > (len : Int)) = false := decide_eq_false (by omega)
  have n3 : decide (len < m) = false := decide_eq_false (by omega)
  have n4 : decide ((len : Int) < (m : Int)) = false := decide_eq_false (by omega)
  have t0 : ((m : Int) == 0) = false := by simp; omega
  have t1 : ((m : Int) == (len : Int)) = false := by simp; omega
  have H1 := Lib.hid h1
  clear h1
  go_enter Try.func31, Try.ntmps31
  go_wp2_with fail
  refine H1.out.mono ?_
  rintro e w2 ⟨v, rfl, hO, hb⟩
  go_wp2_with fail
  go_ret2
  exact ⟨_, rfl, hO, hb⟩
theorem refgrowth_any {L : List (List UInt8)} {v : Value} {m : Int} {w : World} (hf : Fits L) (hsm : L.length ≤ 1000) (h : SSlice w v L) :
    Calls Try.prog 31 #[v, .int .i64 m] w (if 0 ≤ m ∧ m ≤ L.length then ListTrue w (growthS L m.toNat) else NoneFalse w) := by
  by_cases hm : 0 ≤ m ∧ m ≤ L.length
  · rw [if_pos hm]
    obtain ⟨k, rfl⟩ : ∃ k : Nat, m = k := ⟨m.toNat, by omega⟩
    rw [Int.toNat_natCast]
    by_cases he : k = 0 ∨ k = L.length
    · have e : growthS L k = [] := by
        unfold growthS
        split
        · rfl
        · rw [growS_eq (by omega)]; rfl
      rw [e]
      rcases h with ⟨⟨ea, ecap, rfl, _⟩, rfl⟩ | ⟨b, off, cap, rfl, h1⟩
      · exact refgrowth_end he
      · exact refgrowth_end he
    · rcases h with ⟨⟨ea, ecap, rfl, _⟩, rfl⟩ | ⟨b, off, cap, rfl, h1, h2, h3⟩
      · exfalso; simp at hm; omega
      · have e : growthS L k = growS L k true := by unfold growthS; rw [if_neg (by omega)]
        rw [e]
        exact refgrowth_mid (by omega) (by omega) (by omega) (refgrow_row _ L k true (Nat.le_refl _) hf hsm w b off cap h1 h2 h3 (by omega) (by omega))
  · rw [if_neg hm]
    rcases h with ⟨⟨ea, ecap, rfl, _⟩, rfl⟩ | ⟨b, off, cap, rfl, h1, h2, h3⟩
    · exact refgrowth_bad (len := 0) (by simp at hm; simp; omega)
    · exact refgrowth_bad (by omega)
end Go.Proofs.Ytijhdfllffkfjaa
