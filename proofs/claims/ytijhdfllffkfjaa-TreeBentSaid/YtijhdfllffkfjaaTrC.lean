/- Paths: both implementations. -/
import Derived.Test.YtijhdfllffkfjaaTrH
namespace Go.Proofs.Ytijhdfllffkfjaa
open Go.RowKit

def pathS (L : List (List UInt8)) (n : Nat) : List HF :=
  if _h : L.length ≤ 1 then [] else if n < halfN L.length then pathS (L.take (halfN L.length)) n ++ [rootS (L.drop (halfN L.length))] else pathS (L.drop (halfN L.length)) (n - halfN L.length) ++ [rootS (L.take (halfN L.length))]
termination_by L.length
decreasing_by
  · have := halfN_lt (n := L.length) (by omega); rw [List.length_take]; omega
  · have := halfN_lt (n := L.length) (by omega); rw [List.length_drop]; omega
theorem pathS_1 {L : List (List UInt8)} {n : Nat} (h : L.length ≤ 1) : pathS L n = [] := by rw [pathS, dif_pos h]
theorem pathS_lo {L : List (List UInt8)} {n : Nat} (h : 2 ≤ L.length) (hn : n < halfN L.length) : pathS L n = pathS (L.take (halfN L.length)) n ++ [rootS (L.drop (halfN L.length))] := by rw [pathS, dif_neg (by omega), if_pos hn]
theorem pathS_hi {L : List (List UInt8)} {n : Nat} (h : 2 ≤ L.length) (hn : ¬ n < halfN L.length) : pathS L n = pathS (L.drop (halfN L.length)) (n - halfN L.length) ++ [rootS (L.take (halfN L.length))] := by rw [pathS, dif_neg (by omega), if_neg hn]
/-- a list of hashes, in memory of the call's own, and true -/
def ListTrue (w : World) (H : List HF) (e : Ending) (w' : World) : Prop := ∃ v, e = .returned (.tuple #[v, .bool true]) ∧ HOwn w' w.heap.size v H ∧ Below w.heap.size w w'
set_option maxHeartbeats 2000000 in
set_option maxRecDepth 100000 in
theorem path_loop {L : List (List UInt8)} {n b off cap : Nat} {w : World} (hf : Fits L) (hc : SRow w b off L) (h1 : L.length ≤ cap) (h2 : cap ≤ 9223372036854775807) (hn : n < L.length) (hsm : L.length ≤ 1000) :
    Calls Try.prog 28 #[.slice (some ⟨b, off, none⟩) (L.length : Nat) cap, .int .i64 (n : Int)] w (ListTrue w (pathS L n)) := by
  obtain ⟨i0, hi, hz0, hz1, hz2⟩ := info_parts Try.infoHash
  obtain ⟨len, hlen⟩ : ∃ len, L.length = len := ⟨_, rfl⟩
  have n1 : ((n : Int) < 0) = False := by simp
  have n2 : decide ((len : Int) ≤ (n : Int)) = false := decide_eq_false (by omega)
  have n3 : decide (len ≤ n) = false := decide_eq_false (by omega)
  rw [hlen]
  have HL := Lib.hid hlen
  go_enter Try.func28, Try.ntmps28
  go_wp2_with fail
  clear n1 n2 n3
  have hbw : b < w.heap.size := hc.lt (by omega)
  go_loopw [0, 1, 6] (fun l n' v wr => ∃ (M : List (List UInt8)) (m bo cp len : Nat) (acc : List HF), l = .slice (some ⟨b, bo, none⟩) len cp ∧ n' = .int .i64 m ∧ m < len ∧ len ≤ cp ∧ cp ≤ 9223372036854775807 ∧
      Hid (M.length = len ∧ SRow w b bo M ∧ Fits M ∧ pathS M m ++ acc.reverse = pathS L n ∧ acc.length + M.length ≤ L.length) ∧ Hid (HOwn wr w.heap.size v acc) ∧ Below w.heap.size w wr) (fun l _ _ _ => match l with | .slice _ k _ => k | _ => 0)
  case atStart => exact ⟨L, n, off, cap, len, [], rfl, rfl, by omega, by omega, h2, ⟨hlen, hc, hf, by simp, by simp⟩, World.ownsRow_nil _ _ _ _, Below.refl _ _⟩
  case round =>
    obtain ⟨M, m, bo, cp, len', acc, rfl, rfl, hm, hcp, hcm, hR, hO, hb⟩ := hrel
    by_cases hlt : 1 < len'
    · obtain ⟨hMl, hS, hF, hP, hA⟩ := hR.out
      obtain ⟨k1, k2, k3⟩ := halfN_lt (n := len') (by omega)
      obtain ⟨k, hk⟩ : ∃ k, halfN len' = k := ⟨_, rfl⟩
      have hkM : halfN M.length = k := by rw [hMl]; exact hk
      rw [hk] at k1 k2 k3
      have HK := Lib.hid hk
      have HKM := Lib.hid hkM
      have HML := Lib.hid hMl
      have HP := Lib.hid hP
      have hkc : k < cp := by omega
      clear hk hkM hMl hP
      by_cases hmk : m < k
      · go_wp2_with fail
        refine (half_any (n := len') (by omega) (by omega)).mono ?_
        rintro e w1 ⟨rfl, rfl⟩
        rw [HK.out]
        go_wp2_with fail
        have hSw := SRow.at_ hS hb hbw
        have hld : (M.drop k).length = len' - k := by rw [List.length_drop, HML.out]
        have hlt3 : (M.take k).length = k := by rw [List.length_take, HML.out]; omega
        have G := root_row len' (M.drop k) (by omega) (hF.drop k) w1 b (bo + k) (cp - k) (hSw.drop k) (by omega) (by omega)
        rw [hld] at G
        refine G.mono ?_
        rintro e w2 ⟨rfl, hb2⟩
        obtain ⟨f, hfe⟩ : ∃ f, rootS (M.drop k) = f := ⟨_, rfl⟩
        rw [hfe]
        have HFE := Lib.hid hfe
        have HLD := Lib.hid hld
        have HLT := Lib.hid hlt3
        clear hfe hld hlt3
        unfold hv
        have hb3 := hb.trans (hb2.mono hb.size)
        have hO2 := hO.out.below hb2
        have z2 := hb3.size
        have hA2 : acc.length + [f].length ≤ 1000000000 := by simp; omega
        clear G hSw
        go_wp2_with (first | (refine wpList_slice_h rfl _ rfl f rfl ?_) | (at_builtin; refine wpList_append_h rfl _ _ rfl w.heap.size _ acc [f] rfl (hO2.alloc _) w2.heap.size 0 1 1 rfl rfl (range_new _ _ _) hA2 (size_new z2 _) ?_; rintro v' w3 hO3 hg3))
        have hb4 := HOwn.grown_below (hO2.alloc _) (hb3.alloc z2 _) (size_new z2 _) hg3
        clear hg3 hO2 hb2 hb3
        go_roundw
        case rel =>
          have e1 := HLD.out
          have e2 := HLT.out
          have e3 := HML.out
          refine ⟨M.take k, m, bo, cp, k, acc ++ [f], rfl, rfl, by omega, by omega, by omega, ⟨e2, hS.take k, hF.take k, ?_, ?_⟩, hO3, hb4⟩
          · have hp := HP.out
            rw [pathS_lo (by omega) (by rw [HKM.out]; exact hmk), HKM.out, HFE.out] at hp
            rw [List.reverse_append, List.reverse_cons, List.reverse_nil, List.nil_append, ← hp]
            simp
          · simp only [List.length_append, List.length_cons, List.length_nil]; omega
        case measure => simp only; omega
      · have hmk' : decide ((m : Int) < (k : Int)) = false := decide_eq_false (by omega)
        have hmk2 : decide (m < k) = false := decide_eq_false (by omega)
        go_wp2_with fail
        refine (half_any (n := len') (by omega) (by omega)).mono ?_
        rintro e w1 ⟨rfl, rfl⟩
        rw [HK.out]
        go_wp2_with fail
        have hSw := SRow.at_ hS hb hbw
        have hld : (M.drop k).length = len' - k := by rw [List.length_drop, HML.out]
        have hlt3 : (M.take k).length = k := by rw [List.length_take, HML.out]; omega
        have G := root_row len' (M.take k) (by omega) (hF.take k) w1 b bo cp (hSw.take k) (by omega) (by omega)
        rw [hlt3] at G
        refine G.mono ?_
        rintro e w2 ⟨rfl, hb2⟩
        obtain ⟨f, hfe⟩ : ∃ f, rootS (M.take k) = f := ⟨_, rfl⟩
        rw [hfe]
        have HFE := Lib.hid hfe
        have HLD := Lib.hid hld
        have HLT := Lib.hid hlt3
        clear hfe hld hlt3
        unfold hv
        have hb3 := hb.trans (hb2.mono hb.size)
        have hO2 := hO.out.below hb2
        have z2 := hb3.size
        have hA2 : acc.length + [f].length ≤ 1000000000 := by simp; omega
        clear G hSw
        go_wp2_with (first | (refine wpList_slice_h rfl _ rfl f rfl ?_) | (at_builtin; refine wpList_append_h rfl _ _ rfl w.heap.size _ acc [f] rfl (hO2.alloc _) w2.heap.size 0 1 1 rfl rfl (range_new _ _ _) hA2 (size_new z2 _) ?_; rintro v' w3 hO3 hg3))
        have hb4 := HOwn.grown_below (hO2.alloc _) (hb3.alloc z2 _) (size_new z2 _) hg3
        clear hg3 hO2 hb2 hb3
        go_roundw
        case rel =>
          have e1 := HLD.out
          have e2 := HLT.out
          have e3 := HML.out
          refine ⟨M.drop k, m - k, bo + k, cp - k, len' - k, acc ++ [f], rfl, by go_num, by omega, by omega, by omega, ⟨e1, hS.drop k, hF.drop k, ?_, ?_⟩, hO3, hb4⟩
          · have hp := HP.out
            rw [pathS_hi (by omega) (by rw [HKM.out]; exact hmk), HKM.out, HFE.out] at hp
            rw [List.reverse_append, List.reverse_cons, List.reverse_nil, List.nil_append, ← hp]
            simp
          · simp only [List.length_append, List.length_cons, List.length_nil]; omega
        case measure => simp only; omega
    · have t1 : decide (1 < len') = false := decide_eq_false hlt
      have hP : acc.reverse = pathS L n := by
        obtain ⟨hMl, _, _, hP, _⟩ := hR.out
        rw [pathS_1 (by omega)] at hP
        simpa using hP
      have HP := Lib.hid hP
      have hO' := hO.out
      have HO := Lib.hid hO'
      clear hP hO' hR hO
      go_wp2_with fail
      refine (reverse_h HO.out).mono ?_
      rintro e w1 ⟨rfl, hO1, hg1⟩
      go_wp2_with fail
      go_ret2
      rw [HP.out] at hO1
      exact ⟨_, rfl, hO1, HOwn.grown_below HO.out hb hb.size hg1⟩
/-- no list, and false -/
def NoneFalse (w : World) (e : Ending) (w' : World) : Prop := e = .returned (.tuple #[.slice none 0 0, .bool false]) ∧ w' = w
set_option maxHeartbeats 1000000 in
theorem path_bad {a : Option Addr} {len cap : Nat} {n : Int} {w : World} (h : n < 0 ∨ (len : Int) ≤ n) :
    Calls Try.prog 28 #[.slice a len cap, .int .i64 n] w (NoneFalse w) := by
  by_cases h0 : n < 0
  · go_enter Try.func28, Try.ntmps28
    go_wp2_with fail
    go_ret2
    exact ⟨rfl, rfl⟩
  · have h1 : (len : Int) ≤ n := by omega
    go_enter Try.func28, Try.ntmps28
    go_wp2_with fail
    go_ret2
    exact ⟨rfl, rfl⟩
set_option maxHeartbeats 1000000 in
theorem refpath_bad {a : Option Addr} {len cap : Nat} {n : Int} {w : World} (h : n < 0 ∨ (len : Int) ≤ n) :
    Calls Try.prog 23 #[.slice a len cap, .int .i64 n] w (NoneFalse w) := by
  by_cases h0 : n < 0
  · go_enter Try.func23, Try.ntmps23
    go_wp2_with fail
    go_ret2
    exact ⟨rfl, rfl⟩
  · have h1 : (len : Int) ≤ n := by omega
    go_enter Try.func23, Try.ntmps23
    go_wp2_with fail
    go_ret2
    exact ⟨rfl, rfl⟩
set_option maxHeartbeats 1000000 in
theorem refpath_1 {a : Option Addr} {cap : Nat} {w : World} :
    Calls Try.prog 23 #[.slice a 1 cap, .int .i64 0] w (ListTrue w []) := by
  go_enter Try.func23, Try.ntmps23
  go_wp2_with fail
  go_ret2
  exact ⟨_, rfl, HOwn.nil _ _, Below.refl _ _⟩
set_option maxHeartbeats 2000000 in
set_option maxRecDepth 100000 in
theorem refpath_lo {H : List HF} {f : HF} {n i b off cap : Nat} {w : World} (h2 : 2 ≤ n) (hcap : n ≤ cap) (hcm : cap ≤ 9223372036854775807) (hi : i < halfN n) (hH : H.length ≤ 1000)
    (h1 : Calls Try.prog 23 #[.slice (some ⟨b, off, none⟩) (halfN n) cap, .int .i64 i] w (ListTrue w H))
    (h3 : ∀ W, Below w.heap.size w W → Calls Try.prog 17 #[.slice (some ⟨b, off + halfN n, none⟩) (n - halfN n) (cap - halfN n)] W fun e w' => e = .returned (hv f) ∧ Below W.heap.size W w') :
    Calls Try.prog 23 #[.slice (some ⟨b, off, none⟩) n cap, .int .i64 i] w (ListTrue w (H ++ [f])) := by
  obtain ⟨k1, k2, k3⟩ := halfN_lt h2
  obtain ⟨k, hk⟩ : ∃ k, halfN n = k := ⟨_, rfl⟩
  rw [hk] at h1 h3 k1 k2 k3 hi
  have HK := Lib.hid hk
  have n0 : ((n : Int) == 1) = false := by simp; omega
  have n1 : ((i : Int) < 0) = False := by simp
  have n2 : decide ((n : Int) ≤ (i : Int)) = false := decide_eq_false (by omega)
  have n3 : decide (n ≤ i) = false := decide_eq_false (by omega)
  have H1 := Lib.hid h1
  have H3 := Lib.hid h3
  clear hk h1 h3
  go_enter Try.func23, Try.ntmps23
  go_wp2_with fail
  refine (refhalf_any h2 (by omega)).mono ?_
  rintro e w1 ⟨rfl, hw⟩
  obtain rfl := hw.symm
  rw [HK.out]
  clear n0 n1 n2 n3
  go_wp2_with fail
  refine H1.out.mono ?_
  rintro e w1 ⟨v, rfl, hO, hb⟩
  go_wp2_with fail
  refine (H3.out _ hb).mono ?_
  rintro e w2 ⟨rfl, hb2⟩
  unfold hv
  have hb3 := hb.trans (hb2.mono hb.size)
  have hO2 := hO.below hb2
  have z2 := hb3.size
  have hA2 : H.length + [f].length ≤ 1000000000 := by simp; omega
  clear H1 H3 hO hb2
  go_wp2_with (first | (refine wpList_slice_h rfl _ rfl f rfl ?_) | (at_builtin; refine wpList_append_h rfl _ _ rfl w.heap.size _ H [f] rfl (hO2.alloc _) w2.heap.size 0 1 1 rfl rfl (range_new _ _ _) hA2 (size_new z2 _) ?_; rintro v' w3 hO3 hg3))
  go_ret2
  exact ⟨_, rfl, hO3, HOwn.grown_below (hO2.alloc _) (hb3.alloc z2 _) (size_new z2 _) hg3⟩
set_option maxHeartbeats 2000000 in
set_option maxRecDepth 100000 in
theorem refpath_hi {H : List HF} {f : HF} {n i b off cap : Nat} {w : World} (h2 : 2 ≤ n) (hcap : n ≤ cap) (hcm : cap ≤ 9223372036854775807) (hi : halfN n ≤ i) (hin : i < n) (hH : H.length ≤ 1000)
    (h1 : Calls Try.prog 23 #[.slice (some ⟨b, off + halfN n, none⟩) (n - halfN n) (cap - halfN n), .int .i64 ((i : Int) - (halfN n : Nat))] w (ListTrue w H))
    (h3 : ∀ W, Below w.heap.size w W → Calls Try.prog 17 #[.slice (some ⟨b, off, none⟩) (halfN n) cap] W fun e w' => e = .returned (hv f) ∧ Below W.heap.size W w') :
    Calls Try.prog 23 #[.slice (some ⟨b, off, none⟩) n cap, .int .i64 i] w (ListTrue w (H ++ [f])) := by
  obtain ⟨k1, k2, k3⟩ := halfN_lt h2
  obtain ⟨k, hk⟩ : ∃ k, halfN n = k := ⟨_, rfl⟩
  rw [hk] at h1 h3 k1 k2 k3 hi
  have HK := Lib.hid hk
  have n0 : ((n : Int) == 1) = false := by simp; omega
  have n1 : ((i : Int) < 0) = False := by simp
  have n2 : decide ((n : Int) ≤ (i : Int)) = false := decide_eq_false (by omega)
  have n3 : decide (n ≤ i) = false := decide_eq_false (by omega)
  have n4 : decide ((i : Int) < (k : Int)) = false := decide_eq_false (by omega)
  have n5 : decide (i < k) = false := decide_eq_false (by omega)
  have H1 := Lib.hid h1
  have H3 := Lib.hid h3
  clear hk h1 h3
  go_enter Try.func23, Try.ntmps23
  go_wp2_with fail
  refine (refhalf_any h2 (by omega)).mono ?_
  rintro e w1 ⟨rfl, hw⟩
  obtain rfl := hw.symm
  rw [HK.out]
  clear n0 n1 n2 n3
  go_wp2_with fail
  refine H1.out.mono ?_
  rintro e w1 ⟨v, rfl, hO, hb⟩
  go_wp2_with fail
  refine (H3.out _ hb).mono ?_
  rintro e w2 ⟨rfl, hb2⟩
  unfold hv
  have hb3 := hb.trans (hb2.mono hb.size)
  have hO2 := hO.below hb2
  have z2 := hb3.size
  have hA2 : H.length + [f].length ≤ 1000000000 := by simp; omega
  clear H1 H3 hO hb2
  go_wp2_with (first | (refine wpList_slice_h rfl _ rfl f rfl ?_) | (at_builtin; refine wpList_append_h rfl _ _ rfl w.heap.size _ H [f] rfl (hO2.alloc _) w2.heap.size 0 1 1 rfl rfl (range_new _ _ _) hA2 (size_new z2 _) ?_; rintro v' w3 hO3 hg3))
  go_ret2
  exact ⟨_, rfl, hO3, HOwn.grown_below (hO2.alloc _) (hb3.alloc z2 _) (size_new z2 _) hg3⟩
theorem pathS_len : ∀ (m : Nat) (L : List (List UInt8)) (n : Nat), L.length ≤ m → (pathS L n).length ≤ L.length
  | m, L, n, hm => by
    by_cases h1 : L.length ≤ 1
    · rw [pathS_1 h1]; simp
    · obtain ⟨k1, k2, k3⟩ := halfN_lt (n := L.length) (by omega)
      obtain ⟨m', rfl⟩ : ∃ m', m = m' + 1 := ⟨m - 1, by omega⟩
      by_cases hn : n < halfN L.length
      · rw [pathS_lo (by omega) hn]
        have := pathS_len m' (L.take (halfN L.length)) n (by rw [List.length_take]; omega)
        rw [List.length_take] at this
        simp only [List.length_append, List.length_cons, List.length_nil]; omega
      · rw [pathS_hi (by omega) hn]
        have := pathS_len m' (L.drop (halfN L.length)) (n - halfN L.length) (by rw [List.length_drop]; omega)
        rw [List.length_drop] at this
        simp only [List.length_append, List.length_cons, List.length_nil]; omega
theorem refpath_row : ∀ (m : Nat) (L : List (List UInt8)) (_ : L.length ≤ m) (_ : Fits L) (_ : L.length ≤ 1000) (w : World) (b off cap n : Nat) (_ : SRow w b off L) (_ : L.length ≤ cap) (_ : cap ≤ 9223372036854775807) (_ : n < L.length),
    Calls Try.prog 23 #[.slice (some ⟨b, off, none⟩) (L.length : Nat) cap, .int .i64 (n : Int)] w (ListTrue w (pathS L n))
  | m, L, hm, hf, hsm, w, b, off, cap, n, hc, hcap, hcm, hn => by
    by_cases h1 : L.length = 1
    · obtain rfl : n = 0 := by omega
      rw [h1, pathS_1 (by omega)]
      exact refpath_1
    · have h2 : 2 ≤ L.length := by omega
      obtain ⟨k1, k2, k3⟩ := halfN_lt h2
      obtain ⟨m', rfl⟩ : ∃ m', m = m' + 1 := ⟨m - 1, by omega⟩
      have hlt : (L.take (halfN L.length)).length = halfN L.length := by rw [List.length_take]; omega
      have hld : (L.drop (halfN L.length)).length = L.length - halfN L.length := List.length_drop
      by_cases hk : n < halfN L.length
      · rw [pathS_lo h2 hk]
        have hp := pathS_len m' (L.take (halfN L.length)) n (by omega)
        refine refpath_lo h2 hcap hcm hk (by omega) ?_ (fun W hW => ?_)
        · have h := refpath_row m' (L.take (halfN L.length)) (by omega) (hf.take _) (by omega) w b off cap n (hc.take _) (by omega) hcm (by omega)
          rw [hlt] at h
          exact h
        · have h := refroot_row m' (L.drop (halfN L.length)) (by omega) (hf.drop _) W b (off + halfN L.length) (cap - halfN L.length) ((hc.below hW).drop _) (by omega) (by omega)
          rw [hld] at h
          exact h
      · rw [pathS_hi h2 hk]
        have hp := pathS_len m' (L.drop (halfN L.length)) (n - halfN L.length) (by omega)
        refine refpath_hi h2 hcap hcm (by omega) hn (by omega) ?_ (fun W hW => ?_)
        · have h := refpath_row m' (L.drop (halfN L.length)) (by omega) (hf.drop _) (by omega) w b (off + halfN L.length) (cap - halfN L.length) (n - halfN L.length) (hc.drop _) (by omega) (by omega) (by omega)
          rw [hld, show ((n - halfN L.length : Nat) : Int) = (n : Int) - (halfN L.length : Nat) by omega] at h
          exact h
        · have h := refroot_row m' (L.take (halfN L.length)) (by omega) (hf.take _) W b off cap ((hc.below hW).take _) (by omega) hcm
          rw [hlt] at h
          exact h
end Go.Proofs.Ytijhdfllffkfjaa
