/- Bent: whatever it changes, a list of hashes comes back; the reference's. -/
import Derived.Test.YtijhdfllffkfjaaTrZ
import Derived.RegionTactic
import Derived.StillTailTactics
namespace Go.Proofs.Ytijhdfllffkfjaa
open Go.RowKit

def BentEnd (w : World) (n : Nat) (e : Ending) (w' : World) : Prop := ∃ u K, e = .returned u ∧ HSlice w' u K ∧ K.length ≤ n + 1 ∧ Below w.heap.size w w'
section
variable {w : World}
theorem bent_start {v : Value} {H : List HF} (q0 q1 : Int) (h : HSlice w v H) :
    HOwn ((w.alloc (.cells #[.int .i64 q0, .int .i64 q1] 42)).alloc (.cells #[] 24)) (w.heap.size + 1) (.slice (some ⟨w.heap.size + 1, 0, none⟩) 0 0) [] ∧
    HSlice ((w.alloc (.cells #[.int .i64 q0, .int .i64 q1] 42)).alloc (.cells #[] 24)) v H ∧
    ((w.alloc (.cells #[.int .i64 q0, .int .i64 q1] 42)).alloc (.cells #[] 24)).cell? ⟨w.heap.size, 0, none⟩ = some (.int .i64 q0) ∧
    ((w.alloc (.cells #[.int .i64 q0, .int .i64 q1] 42)).alloc (.cells #[] 24)).cell? ⟨w.heap.size, 1, none⟩ = some (.int .i64 q1) ∧
    Below w.heap.size w ((w.alloc (.cells #[.int .i64 q0, .int .i64 q1] 42)).alloc (.cells #[] 24)) ∧ w.heap.size + 1 ≤ ((w.alloc (.cells #[.int .i64 q0, .int .i64 q1] 42)).alloc (.cells #[] 24)).heap.size := by
  have hb := ((Below.refl w.heap.size w).alloc (Nat.le_refl _) (.cells #[.int .i64 q0, .int .i64 q1] 42)).alloc (by simp) (.cells #[] 24)
  have hh : ((w.alloc (.cells #[.int .i64 q0, .int .i64 q1] 42)).alloc (.cells #[] 24)).heap[w.heap.size]? = some (.cells #[.int .i64 q0, .int .i64 q1] 42 (0, 0)) := by
    rw [Below.heap_alloc _ _ _ (by simp)]; exact heap_alloc_new _ _
  refine ⟨?_, h.below hb, ?_, ?_, hb, by simp⟩
  · have := HOwn.made (w.alloc (.cells #[.int .i64 q0, .int .i64 q1] 42)) (B := w.heap.size + 1) (by simp)
    rwa [World.size_alloc] at this
  · rw [cell_of_row _ _ _ _ 42 (0, 0) hh]; rfl
  · rw [cell_of_row _ _ _ _ 42 (0, 0) hh]; rfl
set_option maxHeartbeats 4000000 in
set_option maxRecDepth 100000 in
theorem bent_none {q0 q1 : Int} {v : Value} {H : List HF} (hH : HSlice w v H) (hl : H.length ≤ 1000) (h0 : H = []) (he : q0.tmod 2 = 0) :
    Calls Try.prog 24 #[v, .agg #[.int .i64 q0, .int .i64 q1]] w (BentEnd w H.length) := by
  obtain ⟨pa, cap, rfl, p1, p2, -⟩ := hH.form
  obtain ⟨own0, hH1, c0, c1, hb1, hz1⟩ := bent_start q0 q1 hH
  obtain ⟨len, hlen⟩ : ∃ len, H.length = len := ⟨_, rfl⟩
  rw [hlen] at hH hH1 p1 hl ⊢
  have OWN := Lib.hid own0
  have HH1 := Lib.hid hH1
  have C0 := Lib.hid c0
  have C1 := Lib.hid c1
  have HN := Lib.hid hlen
  have hl0 : len = 0 := by rw [← hlen, h0]; rfl
  have H0 := Lib.hid h0
  subst hl0
  clear h0
  have t0 : (q0.tmod 2 == 0) = true := by rw [he]; rfl
  obtain ⟨b, hbq⟩ : ∃ b : UInt8, IntKind.u8.wrap q1 = ub b := ⟨UInt8.ofNat (q1 % 256).toNat, by unfold ub; simp [IntKind.wrap, IntKind.signed, IntKind.bits]; omega⟩
  clear he
  clear own0 hH1 c0 c1 hH hlen
  go_enter Try.func24, Try.ntmps24
  go_upto_region 2 with (at_builtin; (refine wpList_append_any_h rfl _ _ rfl rfl (w.heap.size + 1) _ _ [] H rfl OWN.out rfl HH1.out (by rw [HN.out]; show 0 + _ ≤ _; omega) hz1 ?_; rintro o w2 hO hg))
  have hb2 : Below (w.heap.size + 1) ((w.alloc (.cells #[.int .i64 q0, .int .i64 q1] 42)).alloc (.cells #[] 24)) w2 := HOwn.grown_below OWN.out (Below.refl _ _) hz1 hg
  rw [List.nil_append] at hO
  have c0 : w2.cell? ⟨w.heap.size, 0, none⟩ = some (.int .i64 q0) := (hb2.cell (p := ⟨w.heap.size, 0, none⟩) (Nat.lt_succ_self _)).trans C0.out
  have c1 : w2.cell? ⟨w.heap.size, 1, none⟩ = some (.int .i64 q1) := (hb2.cell (p := ⟨w.heap.size, 1, none⟩) (Nat.lt_succ_self _)).trans C1.out
  have hB := hb1.trans (hb2.mono (Nat.le_succ _))
  have hz2 : w.heap.size + 1 ≤ w2.heap.size := Nat.le_trans hz1 hb2.size
  clear hb1 hb2 hz1 hg C0 C1 OWN HH1
  rw [H0.out] at hO
  clear H0
  rcases hO.row with ⟨rfl, -⟩ | ⟨g, cap2, rfl, hr, -, hc1, hc2⟩
  all_goals
    have hO := Lib.hid hO
    go_wp2_with (first | ((with_reducible refine wpList_build_is ?_ 24 _ ?_ (arr 32 (U8 (oneF b))) ?_ ?_); rfl; rfl; exact build_one b) | ((with_reducible refine wpList_slice_h1 ?_ (.tmp 23) ?_ (oneF b) ?_ ?_); rfl; rfl; rfl; rintro u w3 hb3 hu) | (at_builtin; refine wpList_append_any_h rfl _ _ rfl rfl (w.heap.size + 1) _ _ [] [oneF b] rfl (hO.out.below hb3) rfl (hu.slice (by show 1 ≤ 1000; omega)) (by show 0 + 1 ≤ 1000000000; omega) (Nat.le_trans hz2 hb3.size) ?_; rintro o4 w4 hO4 hg4))
    go_ret
    exact ⟨_, [oneF b], rfl, hO4.slice, by simp, (hB.trans (hb3.mono hB.size)).trans ((HOwn.grown_below (hO.out.below hb3) (Below.refl _ _) (Nat.le_trans hz2 hb3.size) hg4).mono (Nat.le_succ _))⟩
set_option maxHeartbeats 4000000 in
set_option maxRecDepth 100000 in
theorem bent_none2 {q0 q1 : Int} {v : Value} {H : List HF} (hH : HSlice w v H) (hl : H.length ≤ 1000) (h0 : H = []) (he : ¬ q0.tmod 2 = 0) :
    Calls Try.prog 24 #[v, .agg #[.int .i64 q0, .int .i64 q1]] w (BentEnd w H.length) := by
  obtain ⟨pa, cap, rfl, p1, p2, -⟩ := hH.form
  obtain ⟨own0, hH1, c0, c1, hb1, hz1⟩ := bent_start q0 q1 hH
  obtain ⟨len, hlen⟩ : ∃ len, H.length = len := ⟨_, rfl⟩
  rw [hlen] at hH hH1 p1 hl ⊢
  have OWN := Lib.hid own0
  have HH1 := Lib.hid hH1
  have C0 := Lib.hid c0
  have C1 := Lib.hid c1
  have HN := Lib.hid hlen
  have hl0 : len = 0 := by rw [← hlen, h0]; rfl
  have H0 := Lib.hid h0
  subst hl0
  clear h0
  have t0 : (q0.tmod 2 == 0) = false := by simpa using he
  clear he
  clear own0 hH1 c0 c1 hH hlen
  go_enter Try.func24, Try.ntmps24
  go_upto_region 2 with (at_builtin; (refine wpList_append_any_h rfl _ _ rfl rfl (w.heap.size + 1) _ _ [] H rfl OWN.out rfl HH1.out (by rw [HN.out]; show 0 + _ ≤ _; omega) hz1 ?_; rintro o w2 hO hg))
  have hb2 : Below (w.heap.size + 1) ((w.alloc (.cells #[.int .i64 q0, .int .i64 q1] 42)).alloc (.cells #[] 24)) w2 := HOwn.grown_below OWN.out (Below.refl _ _) hz1 hg
  rw [List.nil_append] at hO
  have c0 : w2.cell? ⟨w.heap.size, 0, none⟩ = some (.int .i64 q0) := (hb2.cell (p := ⟨w.heap.size, 0, none⟩) (Nat.lt_succ_self _)).trans C0.out
  have c1 : w2.cell? ⟨w.heap.size, 1, none⟩ = some (.int .i64 q1) := (hb2.cell (p := ⟨w.heap.size, 1, none⟩) (Nat.lt_succ_self _)).trans C1.out
  have hB := hb1.trans (hb2.mono (Nat.le_succ _))
  have hz2 : w.heap.size + 1 ≤ w2.heap.size := Nat.le_trans hz1 hb2.size
  clear hb1 hb2 hz1 hg C0 C1 OWN HH1
  rw [H0.out] at hO
  clear H0
  rcases hO.row with ⟨rfl, -⟩ | ⟨g, cap2, rfl, hr, -, hc1, hc2⟩
  all_goals
    have hO := Lib.hid hO
    go_wp2_with fail
    go_ret
    exact ⟨_, [], rfl, hO.out.slice, by simp, hB⟩
set_option maxHeartbeats 4000000 in
set_option maxRecDepth 100000 in
theorem bent_4 {q0 q1 : Int} {v : Value} {H : List HF} (hH : HSlice w v H) (hl : H.length ≤ 1000) {n : Nat} {r r0 : Int} (hn : n < H.length) (hr : q1.tmod (H.length : Int) = r) (b1 : -(H.length : Int) < r) (b2 : r < (H.length : Int)) (e1 : (r + (H.length : Int)) % (H.length : Int) = (n : Int)) (e2 : (r + (H.length : Int)).tmod (H.length : Int) = (n : Int)) (hr0 : q0.tmod 5 = r0) (b3 : -5 < r0) (b4 : r0 < 5) (e3 : (r0 + 5) % 5 = 4) (e4 : (r0 + 5).tmod 5 = 4) :
    Calls Try.prog 24 #[v, .agg #[.int .i64 q0, .int .i64 q1]] w (BentEnd w H.length) := by
  obtain ⟨pa, cap, rfl, p1, p2, -⟩ := hH.form
  obtain ⟨own0, hH1, c0, c1, hb1, hz1⟩ := bent_start q0 q1 hH
  obtain ⟨len, hlen⟩ : ∃ len, H.length = len := ⟨_, rfl⟩
  rw [hlen] at hH hH1 p1 hl ⊢
  have OWN := Lib.hid own0
  have HH1 := Lib.hid hH1
  have C0 := Lib.hid c0
  have C1 := Lib.hid c1
  have HN := Lib.hid hlen
  rw [hlen] at hn hr b1 b2 e1 e2
  have z0 : ((len : Int) == 0) = false := by simp; omega
  clear own0 hH1 c0 c1 hH hlen
  go_enter Try.func24, Try.ntmps24
  go_upto_region 2 with (at_builtin; (refine wpList_append_any_h rfl _ _ rfl rfl (w.heap.size + 1) _ _ [] H rfl OWN.out rfl HH1.out (by rw [HN.out]; show 0 + _ ≤ _; omega) hz1 ?_; rintro o w2 hO hg))
  have hb2 : Below (w.heap.size + 1) ((w.alloc (.cells #[.int .i64 q0, .int .i64 q1] 42)).alloc (.cells #[] 24)) w2 := HOwn.grown_below OWN.out (Below.refl _ _) hz1 hg
  rw [List.nil_append] at hO
  have c0 : w2.cell? ⟨w.heap.size, 0, none⟩ = some (.int .i64 q0) := (hb2.cell (p := ⟨w.heap.size, 0, none⟩) (Nat.lt_succ_self _)).trans C0.out
  have c1 : w2.cell? ⟨w.heap.size, 1, none⟩ = some (.int .i64 q1) := (hb2.cell (p := ⟨w.heap.size, 1, none⟩) (Nat.lt_succ_self _)).trans C1.out
  have hB := hb1.trans (hb2.mono (Nat.le_succ _))
  have hz2 : w.heap.size + 1 ≤ w2.heap.size := Nat.le_trans hz1 hb2.size
  clear hb1 hb2 hz1 hg C0 C1 OWN HH1
  obtain ⟨g, cap2, rfl, hg, hBg, hc1, hc2⟩ : ∃ g cap : Nat, o = .slice (some ⟨g, 0, none⟩) (H.length : Nat) cap ∧ HR w2 g 0 H ∧ w.heap.size + 1 ≤ g ∧ H.length ≤ cap ∧ cap ≤ 9223372036854775807 := by
    rcases hO.row with ⟨-, h0⟩ | h
    · have := HN.out; rw [h0] at this; simp at this; omega
    · exact h
  rw [HN.out] at hc1 hO ⊢
  have hgn := hg.get n (by rw [HN.out]; exact hn)
  rw [Nat.zero_add] at hgn
  obtain ⟨f, hf⟩ : ∃ f, H.getD n (fun _ => 0) = f := ⟨_, rfl⟩
  rw [hf] at hgn
  have HO := Lib.hid hO
  have HG := Lib.hid hg
  have HF := Lib.hid hf
  clear hO hg hf
  clear hgn
  go_wp2_with fail
  go_ret
  exact ⟨_, H, rfl, by have := HO.out.slice; exact this, by rw [HN.out]; omega, hB⟩
set_option maxHeartbeats 4000000 in
set_option maxRecDepth 100000 in
theorem bent_2 {q0 q1 : Int} {v : Value} {H : List HF} (hH : HSlice w v H) (hl : H.length ≤ 1000) {n : Nat} {r r0 : Int} (hn : n < H.length) (hr : q1.tmod (H.length : Int) = r) (b1 : -(H.length : Int) < r) (b2 : r < (H.length : Int)) (e1 : (r + (H.length : Int)) % (H.length : Int) = (n : Int)) (e2 : (r + (H.length : Int)).tmod (H.length : Int) = (n : Int)) (hr0 : q0.tmod 5 = r0) (b3 : -5 < r0) (b4 : r0 < 5) (e3 : (r0 + 5) % 5 = 2) (e4 : (r0 + 5).tmod 5 = 2) :
    Calls Try.prog 24 #[v, .agg #[.int .i64 q0, .int .i64 q1]] w (BentEnd w H.length) := by
  obtain ⟨pa, cap, rfl, p1, p2, -⟩ := hH.form
  obtain ⟨own0, hH1, c0, c1, hb1, hz1⟩ := bent_start q0 q1 hH
  obtain ⟨len, hlen⟩ : ∃ len, H.length = len := ⟨_, rfl⟩
  rw [hlen] at hH hH1 p1 hl ⊢
  have OWN := Lib.hid own0
  have HH1 := Lib.hid hH1
  have C0 := Lib.hid c0
  have C1 := Lib.hid c1
  have HN := Lib.hid hlen
  rw [hlen] at hn hr b1 b2 e1 e2
  have z0 : ((len : Int) == 0) = false := by simp; omega
  clear own0 hH1 c0 c1 hH hlen
  go_enter Try.func24, Try.ntmps24
  go_upto_region 2 with (at_builtin; (refine wpList_append_any_h rfl _ _ rfl rfl (w.heap.size + 1) _ _ [] H rfl OWN.out rfl HH1.out (by rw [HN.out]; show 0 + _ ≤ _; omega) hz1 ?_; rintro o w2 hO hg))
  have hb2 : Below (w.heap.size + 1) ((w.alloc (.cells #[.int .i64 q0, .int .i64 q1] 42)).alloc (.cells #[] 24)) w2 := HOwn.grown_below OWN.out (Below.refl _ _) hz1 hg
  rw [List.nil_append] at hO
  have c0 : w2.cell? ⟨w.heap.size, 0, none⟩ = some (.int .i64 q0) := (hb2.cell (p := ⟨w.heap.size, 0, none⟩) (Nat.lt_succ_self _)).trans C0.out
  have c1 : w2.cell? ⟨w.heap.size, 1, none⟩ = some (.int .i64 q1) := (hb2.cell (p := ⟨w.heap.size, 1, none⟩) (Nat.lt_succ_self _)).trans C1.out
  have hB := hb1.trans (hb2.mono (Nat.le_succ _))
  have hz2 : w.heap.size + 1 ≤ w2.heap.size := Nat.le_trans hz1 hb2.size
  clear hb1 hb2 hz1 hg C0 C1 OWN HH1
  obtain ⟨g, cap2, rfl, hg, hBg, hc1, hc2⟩ : ∃ g cap : Nat, o = .slice (some ⟨g, 0, none⟩) (H.length : Nat) cap ∧ HR w2 g 0 H ∧ w.heap.size + 1 ≤ g ∧ H.length ≤ cap ∧ cap ≤ 9223372036854775807 := by
    rcases hO.row with ⟨-, h0⟩ | h
    · have := HN.out; rw [h0] at this; simp at this; omega
    · exact h
  rw [HN.out] at hc1 hO ⊢
  have hgn := hg.get n (by rw [HN.out]; exact hn)
  rw [Nat.zero_add] at hgn
  obtain ⟨f, hf⟩ : ∃ f, H.getD n (fun _ => 0) = f := ⟨_, rfl⟩
  rw [hf] at hgn
  have HO := Lib.hid hO
  have HG := Lib.hid hg
  have HF := Lib.hid hf
  clear hO hg hf
  go_wp2_with (first | ((with_reducible refine wpList_load_h ?_ (.tmp 75) ?_ g (n * 32) ?_ f hgn ?_); rfl; rfl; rfl) | ((with_reducible refine wpList_slice_h1 ?_ (.tmp 76) ?_ f ?_ ?_); rfl; rfl; rfl; rintro u w3 hb3 hu) | (at_builtin; refine wpList_append_any_h rfl _ _ rfl rfl (w.heap.size + 1) _ _ H [f] rfl (HO.out.below hb3) rfl (hu.slice (by show 1 ≤ 1000; omega)) (by rw [HN.out]; show _ + 1 ≤ _; omega) (Nat.le_trans hz2 hb3.size) ?_; rintro o4 w4 hO4 hg4))
  go_ret
  exact ⟨_, H ++ [f], rfl, hO4.slice, by rw [List.length_append, HN.out]; show _ + 1 ≤ _; omega, (hB.trans (hb3.mono hB.size)).trans ((HOwn.grown_below (HO.out.below hb3) (Below.refl _ _) (Nat.le_trans hz2 hb3.size) hg4).mono (Nat.le_succ _))⟩
set_option maxHeartbeats 4000000 in
set_option maxRecDepth 100000 in
theorem bent_3 {q0 q1 : Int} {v : Value} {H : List HF} (hH : HSlice w v H) (hl : H.length ≤ 1000) {n : Nat} {r r0 : Int} (hn : n < H.length) (hr : q1.tmod (H.length : Int) = r) (b1 : -(H.length : Int) < r) (b2 : r < (H.length : Int)) (e1 : (r + (H.length : Int)) % (H.length : Int) = (n : Int)) (e2 : (r + (H.length : Int)).tmod (H.length : Int) = (n : Int)) (hr0 : q0.tmod 5 = r0) (b3 : -5 < r0) (b4 : r0 < 5) (e3 : (r0 + 5) % 5 = 3) (e4 : (r0 + 5).tmod 5 = 3) :
    Calls Try.prog 24 #[v, .agg #[.int .i64 q0, .int .i64 q1]] w (BentEnd w H.length) := by
  obtain ⟨pa, cap, rfl, p1, p2, -⟩ := hH.form
  obtain ⟨own0, hH1, c0, c1, hb1, hz1⟩ := bent_start q0 q1 hH
  obtain ⟨len, hlen⟩ : ∃ len, H.length = len := ⟨_, rfl⟩
  rw [hlen] at hH hH1 p1 hl ⊢
  have OWN := Lib.hid own0
  have HH1 := Lib.hid hH1
  have C0 := Lib.hid c0
  have C1 := Lib.hid c1
  have HN := Lib.hid hlen
  rw [hlen] at hn hr b1 b2 e1 e2
  have z0 : ((len : Int) == 0) = false := by simp; omega
  clear own0 hH1 c0 c1 hH hlen
  go_enter Try.func24, Try.ntmps24
  go_upto_region 2 with (at_builtin; (refine wpList_append_any_h rfl _ _ rfl rfl (w.heap.size + 1) _ _ [] H rfl OWN.out rfl HH1.out (by rw [HN.out]; show 0 + _ ≤ _; omega) hz1 ?_; rintro o w2 hO hg))
  have hb2 : Below (w.heap.size + 1) ((w.alloc (.cells #[.int .i64 q0, .int .i64 q1] 42)).alloc (.cells #[] 24)) w2 := HOwn.grown_below OWN.out (Below.refl _ _) hz1 hg
  rw [List.nil_append] at hO
  have c0 : w2.cell? ⟨w.heap.size, 0, none⟩ = some (.int .i64 q0) := (hb2.cell (p := ⟨w.heap.size, 0, none⟩) (Nat.lt_succ_self _)).trans C0.out
  have c1 : w2.cell? ⟨w.heap.size, 1, none⟩ = some (.int .i64 q1) := (hb2.cell (p := ⟨w.heap.size, 1, none⟩) (Nat.lt_succ_self _)).trans C1.out
  have hB := hb1.trans (hb2.mono (Nat.le_succ _))
  have hz2 : w.heap.size + 1 ≤ w2.heap.size := Nat.le_trans hz1 hb2.size
  clear hb1 hb2 hz1 hg C0 C1 OWN HH1
  obtain ⟨g, cap2, rfl, hg, hBg, hc1, hc2⟩ : ∃ g cap : Nat, o = .slice (some ⟨g, 0, none⟩) (H.length : Nat) cap ∧ HR w2 g 0 H ∧ w.heap.size + 1 ≤ g ∧ H.length ≤ cap ∧ cap ≤ 9223372036854775807 := by
    rcases hO.row with ⟨-, h0⟩ | h
    · have := HN.out; rw [h0] at this; simp at this; omega
    · exact h
  rw [HN.out] at hc1 hO ⊢
  have hgn := hg.get n (by rw [HN.out]; exact hn)
  rw [Nat.zero_add] at hgn
  obtain ⟨f, hf⟩ : ∃ f, H.getD n (fun _ => 0) = f := ⟨_, rfl⟩
  rw [hf] at hgn
  have HO := Lib.hid hO
  have HG := Lib.hid hg
  have HF := Lib.hid hf
  clear hO hg hf
  obtain ⟨m, hm, m1, m2⟩ : ∃ m : Nat, m < len ∧ ((n : Int) + 1) % (len : Int) = (m : Int) ∧ ((n : Int) + 1).tmod (len : Int) = (m : Int) := ⟨(n + 1) % len, Nat.mod_lt _ (by omega), by rw [Int.natCast_emod, Int.natCast_add]; rfl, by rw [Int.tmod_eq_emod_of_nonneg (by omega), Int.natCast_emod, Int.natCast_add]; rfl⟩
  have hth := HOwn.there (cap := cap2) (H := H) (g := g) (B := w.heap.size + 1) (w := w2) (by rw [HN.out]; exact HO.out)
  rw [HN.out] at hth
  have ha := Row.newArr w2 24 32 (fun _ => .int .u8 0)
  have hb3 := Below.setRow ((Below.refl w2.heap.size w2).alloc (Nat.le_refl _) (.cells (arr 32 fun _ => .int .u8 0) 24)) (Nat.le_refl _) (arr 32 (U8 f))
  have hr8 := ha.setRow (U8 f)
  obtain ⟨fm, hfm⟩ : ∃ fm, H.getD m (fun _ => 0) = fm := ⟨_, rfl⟩
  have hgm := HG.out.get m (by rw [HN.out]; exact hm)
  rw [Nat.zero_add, hfm] at hgm
  have hgl := HO.out.slice
  have hglt : g < w2.heap.size := range_lt hgn
  have hgm3 := range_below hgm hb3 hglt
  have hth3 : (((w2.alloc (.cells (arr 32 fun _ => .int .u8 0) 24)).setRow w2.heap.size (arr 32 (U8 f)))).there g 0 (len * 32) := fun j hj => by
    rw [hb3.cell (p := ⟨g, 0 + j, none⟩) hglt, hb3.frozen (p := ⟨g, 0 + j, none⟩) hglt]
    exact hth j hj
  have hg3 := HG.out.at_ hb3 hglt
  have hlf : ∀ q, (arr 32 (U8 q)).toList = hc q := fun q => rfl
  have hg4 := hg3.set (i := n) (by rw [HN.out]; exact hn) (World.there.mid hth3 hn) fm
  have hth4 := World.there_setCells hth3 g (n * 32) (hc fm)
  have hg5 := hg4.set (i := m) (by rw [List.length_set, HN.out]; exact hm) (World.there.mid hth4 hm) f
  have hr9 : ((((w2.alloc (.cells (arr 32 fun _ => .int .u8 0) 24)).setRow w2.heap.size (arr 32 (U8 f)))).setCells g (n * 32) (hc fm)).rangeAt w2.heap.size 0 (hc f) := World.rangeAt_setCells_apart (row_range hr8) g (n * 32) (hc fm) (.inl (by omega))
  have hend : Below w.heap.size w (((((w2.alloc (.cells (arr 32 fun _ => .int .u8 0) 24)).setRow w2.heap.size (arr 32 (U8 f)))).setCells g (n * 32) (hc fm)).setCells g (m * 32) (hc f)) :=
    Below.setCells (by omega) _ _ _ (Below.setCells (by omega) _ _ _ (hB.trans (hb3.mono hB.size)))
  have t3 := World.there.mid hth3 hn
  have t4 := World.there.mid hth4 hm
  have HG5 := Lib.hid hg5
  clear hg5 hg4 hg3 hth hth3 hth4 hb3 hgm hfm hgl
  go_upto_region 17 with (first | ((with_reducible refine wpList_load_h ?_ (.tmp 88) ?_ g (n * 32) ?_ f hgn ?_); rfl; rfl; rfl) | ((with_reducible refine wpList_alloc_is ?_ 24 ?_ 32 (.int .u8 0) ?_ ?_); rfl; rfl; kernel_rfl) | ((with_reducible refine wpList_store_is ?_ 24 (.tmp 8) (.tmp 89) ?_ w2.heap.size 32 (U8 f) _ ?_ ?_ 24 ha ?_ ?_ ?_); rfl; rfl; rfl; rfl; kernel_rfl; exact fun _ _ => rfl))
  generalize ((w2.alloc (.cells (arr 32 fun _ => .int .u8 0) 24)).setRow w2.heap.size (arr 32 (U8 f))) = w3 at *
  generalize w2.heap.size = z at *
  go_upto_region 18 with (first | ((with_reducible refine wpList_load_h ?_ (.tmp 94) ?_ g (m * 32) ?_ fm hgm3 ?_); rfl; rfl; rfl) | ((with_reducible refine wpList_store_mid ?_ 24 (.tmp 96) (.tmp 95) ?_ g (n * 32) (arr 32 (U8 fm)) ?_ ?_ ?_ ?_ ?_ ?_); rfl; rfl; rfl; rfl; (rw [size_arr]; exact t3); kernel_rfl; exact oneCell_arr 32 (U8 fm) (fun _ _ => rfl)))
  rw [hlf]
  generalize w3.setCells g (n * 32) (hc fm) = w4 at *
  go_wp2_with (first | ((with_reducible refine wpList_load_h ?_ (.tmp 8) ?_ z 0 ?_ f hr9 ?_); rfl; rfl; rfl) | ((with_reducible refine wpList_store_mid ?_ 24 (.tmp 100) (.tmp 99) ?_ g (m * 32) (arr 32 (U8 f)) ?_ ?_ ?_ ?_ ?_ ?_); rfl; rfl; rfl; rfl; (rw [size_arr]; exact t4); kernel_rfl; exact oneCell_arr 32 (U8 f) (fun _ _ => rfl)))
  go_ret
  exact ⟨_, (H.set n fm).set m f, rfl, .inr ⟨g, 0, cap2, by rw [List.length_set, List.length_set, HN.out]; rfl, HG5.out, by rw [List.length_set, List.length_set, HN.out]; exact hc1, hc2⟩, by rw [List.length_set, List.length_set, HN.out]; omega, hend⟩
set_option maxHeartbeats 4000000 in
set_option maxRecDepth 100000 in
theorem bent_0 {q0 q1 : Int} {v : Value} {H : List HF} (hH : HSlice w v H) (hl : H.length ≤ 1000) {n : Nat} {r r0 : Int} (hn : n < H.length) (hr : q1.tmod (H.length : Int) = r) (b1 : -(H.length : Int) < r) (b2 : r < (H.length : Int)) (e1 : (r + (H.length : Int)) % (H.length : Int) = (n : Int)) (e2 : (r + (H.length : Int)).tmod (H.length : Int) = (n : Int)) (hr0 : q0.tmod 5 = r0) (b3 : -5 < r0) (b4 : r0 < 5) (e3 : (r0 + 5) % 5 = 0) (e4 : (r0 + 5).tmod 5 = 0) {j : Nat} {r1 : Int} (hj : j < 32) (hr1 : q1.tmod 32 = r1) (b5 : -32 < r1) (b6 : r1 < 32) (e5 : (r1 + 32) % 32 = (j : Int)) (e6 : (r1 + 32).tmod 32 = (j : Int)) :
    Calls Try.prog 24 #[v, .agg #[.int .i64 q0, .int .i64 q1]] w (BentEnd w H.length) := by
  obtain ⟨pa, cap, rfl, p1, p2, -⟩ := hH.form
  obtain ⟨own0, hH1, c0, c1, hb1, hz1⟩ := bent_start q0 q1 hH
  obtain ⟨len, hlen⟩ : ∃ len, H.length = len := ⟨_, rfl⟩
  rw [hlen] at hH hH1 p1 hl ⊢
  have OWN := Lib.hid own0
  have HH1 := Lib.hid hH1
  have C0 := Lib.hid c0
  have C1 := Lib.hid c1
  have HN := Lib.hid hlen
  rw [hlen] at hn hr b1 b2 e1 e2
  have z0 : ((len : Int) == 0) = false := by simp; omega
  clear own0 hH1 c0 c1 hH hlen
  go_enter Try.func24, Try.ntmps24
  go_upto_region 2 with (at_builtin; (refine wpList_append_any_h rfl _ _ rfl rfl (w.heap.size + 1) _ _ [] H rfl OWN.out rfl HH1.out (by rw [HN.out]; show 0 + _ ≤ _; omega) hz1 ?_; rintro o w2 hO hg))
  have hb2 : Below (w.heap.size + 1) ((w.alloc (.cells #[.int .i64 q0, .int .i64 q1] 42)).alloc (.cells #[] 24)) w2 := HOwn.grown_below OWN.out (Below.refl _ _) hz1 hg
  rw [List.nil_append] at hO
  have c0 : w2.cell? ⟨w.heap.size, 0, none⟩ = some (.int .i64 q0) := (hb2.cell (p := ⟨w.heap.size, 0, none⟩) (Nat.lt_succ_self _)).trans C0.out
  have c1 : w2.cell? ⟨w.heap.size, 1, none⟩ = some (.int .i64 q1) := (hb2.cell (p := ⟨w.heap.size, 1, none⟩) (Nat.lt_succ_self _)).trans C1.out
  have hB := hb1.trans (hb2.mono (Nat.le_succ _))
  have hz2 : w.heap.size + 1 ≤ w2.heap.size := Nat.le_trans hz1 hb2.size
  clear hb1 hb2 hz1 hg C0 C1 OWN HH1
  obtain ⟨g, cap2, rfl, hg, hBg, hc1, hc2⟩ : ∃ g cap : Nat, o = .slice (some ⟨g, 0, none⟩) (H.length : Nat) cap ∧ HR w2 g 0 H ∧ w.heap.size + 1 ≤ g ∧ H.length ≤ cap ∧ cap ≤ 9223372036854775807 := by
    rcases hO.row with ⟨-, h0⟩ | h
    · have := HN.out; rw [h0] at this; simp at this; omega
    · exact h
  rw [HN.out] at hc1 hO ⊢
  have hgn := hg.get n (by rw [HN.out]; exact hn)
  rw [Nat.zero_add] at hgn
  obtain ⟨f, hf⟩ : ∃ f, H.getD n (fun _ => 0) = f := ⟨_, rfl⟩
  rw [hf] at hgn
  have HO := Lib.hid hO
  have HG := Lib.hid hg
  have HF := Lib.hid hf
  clear hO hg hf
  have hcell : w2.cell? ⟨g, n * 32 + j, none⟩ = some (.int .u8 (ub (f j))) := hgn j _ (hc_get f j hj)
  have hfr : w2.frozen? ⟨g, n * 32 + j, none⟩ = false := by
    have hth := HOwn.there (cap := cap2) (H := H) (g := g) (B := w.heap.size + 1) (w := w2) (by rw [HN.out]; exact HO.out)
    have := (hth (n * 32 + j) (by rw [HN.out]; omega)).2
    rwa [Nat.zero_add] at this
  have hn0 : (0 : Int) ≤ (n : Int) := by omega
  have hnl : (n : Int) < (len : Int) := by omega
  have hj0 : (0 : Int) ≤ (j : Int) := by omega
  have hjl : (j : Int) < 32 := by omega
  clear hgn
  go_upto_region 9 with fail
  have w1 : IntKind.i64.wrap r1 = r1 := IntWalk.i64_in _ (by omega)
  have w2' : IntKind.i64.wrap (r1 + 32) = r1 + 32 := IntWalk.i64_in _ (by omega)
  have w3 : IntKind.i64.wrap (j : Int) = (j : Int) := IntWalk.i64_in _ (by omega)
  go_still_tail 13, (by kernel_rfl)
  clear w1 w2' w3
  obtain ⟨c, hcx⟩ := bits_u8_any .xor (ub (f j)) 1
  rw [hcx]
  change wpList _ _ _ _ _ w2.drew
  have c2' : w2.drew.cell? ⟨g, n * 32 + j, none⟩ = some (.int .u8 (ub (f j))) := hcell
  have f2' : w2.drew.frozen? ⟨g, n * 32 + j, none⟩ = false := hfr
  have hK := Lib.hid ((show HR w2.drew g 0 H from HG.out).setByte (i := n) (j := j) (by rw [HN.out]; exact hn) hj c)
  have hend : Below w.heap.size w (w2.drew.setCell ⟨g, n * 32 + j, none⟩ (.int .u8 (ub c))) := hB.drew.setCell (p := ⟨g, n * 32 + j, none⟩) (by show _ ≤ g; omega) _
  clear hcell hfr hcx
  go_wp2_with fail
  go_ret
  exact ⟨_, _, rfl, .inr ⟨g, 0, cap2, by rw [List.length_set, HN.out]; rfl, hK.out, by rw [List.length_set, HN.out]; exact hc1, hc2⟩, by rw [List.length_set, HN.out]; omega, hend⟩
set_option maxHeartbeats 8000000 in
set_option maxRecDepth 100000 in
theorem bent_1 {q0 q1 : Int} {v : Value} {H : List HF} (hH : HSlice w v H) (hl : H.length ≤ 1000) {n : Nat} {r r0 : Int} (hn : n < H.length) (hr : q1.tmod (H.length : Int) = r) (b1 : -(H.length : Int) < r) (b2 : r < (H.length : Int)) (e1 : (r + (H.length : Int)) % (H.length : Int) = (n : Int)) (e2 : (r + (H.length : Int)).tmod (H.length : Int) = (n : Int)) (hr0 : q0.tmod 5 = r0) (b3 : -5 < r0) (b4 : r0 < 5) (e3 : (r0 + 5) % 5 = 1) (e4 : (r0 + 5).tmod 5 = 1) :
    Calls Try.prog 24 #[v, .agg #[.int .i64 q0, .int .i64 q1]] w (BentEnd w H.length) := by
  obtain ⟨pa, cap, rfl, p1, p2, -⟩ := hH.form
  obtain ⟨own0, hH1, c0, c1, hb1, hz1⟩ := bent_start q0 q1 hH
  obtain ⟨len, hlen⟩ : ∃ len, H.length = len := ⟨_, rfl⟩
  rw [hlen] at hH hH1 p1 hl ⊢
  have OWN := Lib.hid own0
  have HH1 := Lib.hid hH1
  have C0 := Lib.hid c0
  have C1 := Lib.hid c1
  have HN := Lib.hid hlen
  rw [hlen] at hn hr b1 b2 e1 e2
  have z0 : ((len : Int) == 0) = false := by simp; omega
  clear own0 hH1 c0 c1 hH hlen
  go_enter Try.func24, Try.ntmps24
  go_upto_region 2 with (at_builtin; (refine wpList_append_any_h rfl _ _ rfl rfl (w.heap.size + 1) _ _ [] H rfl OWN.out rfl HH1.out (by rw [HN.out]; show 0 + _ ≤ _; omega) hz1 ?_; rintro o w2 hO hg))
  have hb2 : Below (w.heap.size + 1) ((w.alloc (.cells #[.int .i64 q0, .int .i64 q1] 42)).alloc (.cells #[] 24)) w2 := HOwn.grown_below OWN.out (Below.refl _ _) hz1 hg
  rw [List.nil_append] at hO
  have c0 : w2.cell? ⟨w.heap.size, 0, none⟩ = some (.int .i64 q0) := (hb2.cell (p := ⟨w.heap.size, 0, none⟩) (Nat.lt_succ_self _)).trans C0.out
  have c1 : w2.cell? ⟨w.heap.size, 1, none⟩ = some (.int .i64 q1) := (hb2.cell (p := ⟨w.heap.size, 1, none⟩) (Nat.lt_succ_self _)).trans C1.out
  have hB := hb1.trans (hb2.mono (Nat.le_succ _))
  have hz2 : w.heap.size + 1 ≤ w2.heap.size := Nat.le_trans hz1 hb2.size
  clear hb1 hb2 hz1 hg C0 C1 OWN HH1
  obtain ⟨g, cap2, rfl, hg, hBg, hc1, hc2⟩ : ∃ g cap : Nat, o = .slice (some ⟨g, 0, none⟩) (H.length : Nat) cap ∧ HR w2 g 0 H ∧ w.heap.size + 1 ≤ g ∧ H.length ≤ cap ∧ cap ≤ 9223372036854775807 := by
    rcases hO.row with ⟨-, h0⟩ | h
    · have := HN.out; rw [h0] at this; simp at this; omega
    · exact h
  rw [HN.out] at hc1 hO ⊢
  have hgn := hg.get n (by rw [HN.out]; exact hn)
  rw [Nat.zero_add] at hgn
  obtain ⟨f, hf⟩ : ∃ f, H.getD n (fun _ => 0) = f := ⟨_, rfl⟩
  rw [hf] at hgn
  have HO := Lib.hid hO
  have HG := Lib.hid hg
  have HF := Lib.hid hf
  clear hO hg hf
  clear hgn
  have n0' : (n : Int) + 1 = ((n + 1 : Nat) : Int) := by omega
  have hglt : g < w2.heap.size := by
    have := HG.out.lt (by rw [HN.out]; omega)
    exact this
  have hT : (H.take n).length = n := by rw [List.length_take, HN.out]; omega
  have hD : (H.drop (n + 1)).length = len - (n + 1) := by rw [List.length_drop, HN.out]
  have HS1 : Hid (∀ W, Below w2.heap.size w2 W → HSlice W (.slice (some ⟨g, 0, none⟩) n cap2) (H.take n)) := fun W hW => .inr ⟨g, 0, cap2, by rw [hT], (HG.out.at_ hW hglt).take n, by rw [hT]; omega, hc2⟩
  have HS2 : Hid (∀ W A, Below w2.heap.size w2 W → (A = some ⟨g, (n + 1) * 32, none⟩ ∨ len - (n + 1) = 0) → HSlice W (.slice A (len - (n + 1) : Nat) (cap2 - (n + 1) : Nat)) (H.drop (n + 1))) := fun W A hW hA => by
    by_cases hz : len - (n + 1) = 0
    · refine .inl ⟨⟨A, cap2 - (n + 1), by rw [hz], by omega⟩, ?_⟩
      exact List.eq_nil_of_length_eq_zero (by rw [hD, hz])
    · rcases hA with rfl | hA
      · refine .inr ⟨g, (n + 1) * 32, cap2 - (n + 1), by rw [hD], HR.mk' fun i hi => ?_, by rw [hD]; omega, by omega⟩
        rw [hD] at hi
        have := (HG.out.at_ hW hglt).get (n + 1 + i) (by rw [HN.out]; omega)
        rw [Nat.zero_add] at this
        rw [show (n + 1) * 32 + i * 32 = (n + 1 + i) * 32 by omega, List.getD_eq_getElem?_getD, List.getElem?_drop, ← List.getD_eq_getElem?_getD]
        exact this
      · exact absurd hA hz
  have HT := Lib.hid hT
  have HD := Lib.hid hD
  clear hT hD n0'
  go_upto_region 11 with fail
  refine wp_forget4 [60, 61, 62, 63, 64, 65, 66, 67, 68, 69, 4] (fun act => act.tmps.size = 102 ∧ act.tmps.getD 5 undef = .slice (some ⟨g, 0, none⟩) len cap2 ∧ act.tmps.getD 6 undef = .int .i64 (n : Int) ∧ act.defers = []) (fun f x => x.tmps.getD 4 undef = f 4 ∧ x.defers = []) (fun f w' => HOwn w' w2.heap.size (f 4) (H.take n ++ H.drop (n + 1)) ∧ Below w2.heap.size w2 w') ⟨rfl, rfl, rfl, rfl⟩ (fun f => ⟨puts_in (show (4 : Nat) < 102 by decide) _ f (by decide), (puts_defers _ _ _).trans rfl⟩) ?_ ?_
  · rintro x f w' ⟨x4, xd⟩ ⟨hO, hb⟩
    apply_assumption
    refine wp_ret ?_
    show bodyPost Try.prog Try.f24 (BentEnd w len) .ret x w'
    refine bodyPost_ret (results_tmp rfl _ _ _) xd ?_
    rw [x4]
    refine ⟨f 4, _, rfl, hO.slice, ?_, hB.trans (hb.mono (by omega))⟩
    rw [List.length_append, HT.out, HD.out]
    omega
  rintro act Q' ⟨a1, a5, a6, ad⟩ HQ
  refine wp_region_inv [60, 61, 62, 63, 64, 65, 66, 67, 68, 69, 4] (fun δ f w' => (δ 0 = true → δ 4 = false → HOwn w' w2.heap.size (f 60) []) ∧ (δ 1 = true → f 61 = .slice (some ⟨g, 0, none⟩) len cap2) ∧ (δ 2 = true → f 62 = .int .i64 (n : Int)) ∧ (δ 3 = true → f 63 = .slice (some ⟨g, 0, none⟩) n cap2) ∧ (δ 4 = true → δ 9 = false → HOwn w' w2.heap.size (f 64) (H.take n)) ∧ (δ 5 = true → f 65 = .slice (some ⟨g, 0, none⟩) len cap2) ∧ (δ 6 = true → f 66 = .int .i64 (n : Int)) ∧ (δ 7 = true → f 67 = .int .i64 ((n + 1 : Nat) : Int)) ∧
    (δ 8 = true → ∃ A, f 68 = .slice A (len - (n + 1) : Nat) (cap2 - (n + 1) : Nat) ∧ (A = some ⟨g, (n + 1) * 32, none⟩ ∨ len - (n + 1) = 0)) ∧ (δ 9 = true → HOwn w' w2.heap.size (f 69) (H.take n ++ H.drop (n + 1))) ∧ (δ 10 = true → HOwn w' w2.heap.size (f 4) (H.take n ++ H.drop (n + 1))) ∧ (δ 9 = true → δ 4 = true) ∧ (δ 10 = true → δ 9 = true) ∧ Below w2.heap.size w2 w') (by kernel_rfl) (by kernel_rfl) ?_ ?_ ?_
  · exact ⟨fun e => Bool.noConfusion e, fun e => Bool.noConfusion e, fun e => Bool.noConfusion e, fun e => Bool.noConfusion e, fun e => Bool.noConfusion e, fun e => Bool.noConfusion e, fun e => Bool.noConfusion e, fun e => Bool.noConfusion e, fun e => Bool.noConfusion e, fun e => Bool.noConfusion e, fun e => Bool.noConfusion e, fun e => Bool.noConfusion e, fun e => Bool.noConfusion e, (Below.refl _ _).drew⟩
  · refine ⟨?_, ?_, ?_, ?_, ?_, ?_, ?_, ?_, ?_, ?_, ?_, trivial⟩
    · rintro δ f w' ⟨h0, h1, h2, h3, h4, h5, h6, h7, h8, h9, h10, i1, i2, hb⟩ hd ha
      refine wpList_slice_h0 rfl rfl ?_
      exact ⟨_, puts_put _ 60 _ _ f (by decide), fun _ _ => HOwn.made w' hb.size, h1, h2, h3, fun e e' => (h4 e e').alloc _, h5, h6, h7, h8, fun e => (h9 e).alloc _, fun e => (h10 e).alloc _, i1, i2, hb.alloc hb.size _⟩
    · rintro δ f w' ⟨h0, h1, h2, h3, h4, h5, h6, h7, h8, h9, h10, i1, i2, hb⟩ hd ha
      refine wpList_move rfl (.tmp 5) rfl (eval_out (by decide) a5) ?_
      exact ⟨_, puts_put _ 61 _ _ f (by decide), h0, fun _ => rfl, h2, h3, h4, h5, h6, h7, h8, h9, h10, i1, i2, hb⟩
    · rintro δ f w' ⟨h0, h1, h2, h3, h4, h5, h6, h7, h8, h9, h10, i1, i2, hb⟩ hd ha
      refine wpList_move rfl (.tmp 6) rfl (eval_out (by decide) a6) ?_
      exact ⟨_, puts_put _ 62 _ _ f (by decide), h0, h1, fun _ => rfl, h3, h4, h5, h6, h7, h8, h9, h10, i1, i2, hb⟩
    · rintro δ f w' ⟨h0, h1, h2, h3, h4, h5, h6, h7, h8, h9, h10, i1, i2, hb⟩ hd ha
      refine wpList_slice_to rfl (.tmp 61) (.tmp 62) rfl (by omega) hc2 (eval_in (by rw [a1]; decide) (by decide) (h1 (ha.1 rfl))) (eval_in (by rw [a1]; decide) (by decide) (h2 (ha.2.1 rfl))) ?_
      exact ⟨_, puts_put _ 63 _ _ f (by decide), h0, h1, h2, fun _ => rfl, h4, h5, h6, h7, h8, h9, h10, i1, i2, hb⟩
    · rintro δ f w' ⟨h0, h1, h2, h3, h4, h5, h6, h7, h8, h9, h10, i1, i2, hb⟩ hd ha
      have n9 : δ 9 = false := by cases h : δ 9 with | false => rfl | true => rw [i1 h] at hd; cases hd
      have n10 : δ 10 = false := by cases h : δ 10 with | false => rfl | true => rw [i2 h] at n9; cases n9
      have own := h0 (ha.1 rfl) hd
      refine wpList_append_any_h rfl (.tmp 60) (.tmp 63) rfl rfl w2.heap.size (f 60) _ [] (H.take n) (eval_in (by rw [a1]; decide) (by decide) rfl) own (eval_in (by rw [a1]; decide) (by decide) (h3 (ha.2.1 rfl))) (HS1.out _ hb) (by rw [HT.out]; show 0 + _ ≤ _; omega) hb.size ?_
      intro v' w'' hO hg
      rw [List.nil_append] at hO
      exact ⟨_, puts_put _ 64 _ _ f (by decide), fun _ e => Bool.noConfusion e, h1, h2, h3, fun _ _ => hO, h5, h6, h7, h8, fun e => absurd (n9.symm.trans e) Bool.false_ne_true, fun e => absurd (n10.symm.trans e) Bool.false_ne_true, fun _ => rfl, i2, HOwn.grown_below own hb hb.size hg⟩
    · rintro δ f w' ⟨h0, h1, h2, h3, h4, h5, h6, h7, h8, h9, h10, i1, i2, hb⟩ hd ha
      refine wpList_move rfl (.tmp 5) rfl (eval_out (by decide) a5) ?_
      exact ⟨_, puts_put _ 65 _ _ f (by decide), h0, h1, h2, h3, h4, fun _ => rfl, h6, h7, h8, h9, h10, i1, i2, hb⟩
    · rintro δ f w' ⟨h0, h1, h2, h3, h4, h5, h6, h7, h8, h9, h10, i1, i2, hb⟩ hd ha
      refine wpList_move rfl (.tmp 6) rfl (eval_out (by decide) a6) ?_
      exact ⟨_, puts_put _ 66 _ _ f (by decide), h0, h1, h2, h3, h4, h5, fun _ => rfl, h7, h8, h9, h10, i1, i2, hb⟩
    · rintro δ f w' ⟨h0, h1, h2, h3, h4, h5, h6, h7, h8, h9, h10, i1, i2, hb⟩ hd ha
      refine wpList_succ rfl (.tmp 66) rfl (n := n) (by omega) (eval_in (by rw [a1]; decide) (by decide) (h6 (ha.1 rfl))) ?_
      exact ⟨_, puts_put _ 67 _ _ f (by decide), h0, h1, h2, h3, h4, h5, h6, fun _ => rfl, h8, h9, h10, i1, i2, hb⟩
    · rintro δ f w' ⟨h0, h1, h2, h3, h4, h5, h6, h7, h8, h9, h10, i1, i2, hb⟩ hd ha
      refine wpList_slice_from rfl (.tmp 65) (.tmp 67) rfl (n := n + 1) (by omega) hc1 hc2 (eval_in (by rw [a1]; decide) (by decide) (h5 (ha.1 rfl))) (eval_in (by rw [a1]; decide) (by decide) (h7 (ha.2.1 rfl))) ?_
      intro A hA
      exact ⟨_, puts_put _ 68 _ _ f (by decide), h0, h1, h2, h3, h4, h5, h6, h7, fun _ => ⟨A, rfl, hA⟩, h9, h10, i1, i2, hb⟩
    · rintro δ f w' ⟨h0, h1, h2, h3, h4, h5, h6, h7, h8, h9, h10, i1, i2, hb⟩ hd ha
      have n10 : δ 10 = false := by cases h : δ 10 with | false => rfl | true => rw [i2 h] at hd; cases hd
      have d4 := ha.1 rfl
      have own := h4 d4 hd
      obtain ⟨A, hA, hA2⟩ := h8 (ha.2.1 rfl)
      refine wpList_append_any_h rfl (.tmp 64) (.tmp 68) rfl rfl w2.heap.size (f 64) _ (H.take n) (H.drop (n + 1)) (eval_in (by rw [a1]; decide) (by decide) rfl) own (eval_in (by rw [a1]; decide) (by decide) hA) (HS2.out _ A hb hA2) (by rw [HT.out, HD.out]; omega) hb.size ?_
      intro v' w'' hO hg
      exact ⟨_, puts_put _ 69 _ _ f (by decide), fun _ e => absurd (d4.symm.trans e) (Ne.symm Bool.false_ne_true), h1, h2, h3, fun _ e => Bool.noConfusion e, h5, h6, h7, h8, fun _ => hO, fun e => absurd (n10.symm.trans e) Bool.false_ne_true, fun _ => d4, fun _ => rfl, HOwn.grown_below own hb hb.size hg⟩
    · rintro δ f w' ⟨h0, h1, h2, h3, h4, h5, h6, h7, h8, h9, h10, i1, i2, hb⟩ hd ha
      have d9 := ha.1 rfl
      refine wpList_assign rfl (.tmp 69) rfl (eval_in (by rw [a1]; decide) (by decide) rfl) ?_
      exact ⟨_, puts_put _ 4 _ _ f (by decide), h0, h1, h2, h3, h4, h5, h6, h7, h8, h9, fun _ => h9 d9, i1, fun _ => d9, hb⟩
  · rintro δ f w' hall ⟨-, -, -, -, -, -, -, -, -, -, h10, -, -, hb⟩
    exact HQ f w' ⟨h10 (hall 10 (by decide)), hb⟩
/-- a number taken into a range -/
theorem place (q : Int) (n : Nat) (hn : 0 < n) : ∃ (r : Int) (m : Nat), m < n ∧ q.tmod (n : Int) = r ∧ -(n : Int) < r ∧ r < (n : Int) ∧ (r + (n : Int)) % (n : Int) = (m : Int) ∧ (r + (n : Int)).tmod (n : Int) = (m : Int) := by
  have h1 : q.tmod (n : Int) < (n : Int) := Int.tmod_lt_of_pos q (by omega)
  have h2 : -(n : Int) < q.tmod (n : Int) := by
    rw [Int.tmod_eq_emod]
    have := Int.emod_nonneg q (b := (n : Int)) (by omega)
    split
    · omega
    · rename_i h
      have h3 : q % (n : Int) ≠ 0 := fun e => h (.inr (Int.dvd_of_emod_eq_zero e))
      omega
  have h3 := Int.emod_nonneg (q.tmod (n : Int) + (n : Int)) (b := (n : Int)) (by omega)
  have h4 := Int.emod_lt_of_pos (q.tmod (n : Int) + (n : Int)) (b := (n : Int)) (by omega)
  refine ⟨_, ((q.tmod (n : Int) + (n : Int)) % (n : Int)).toNat, by omega, rfl, h2, h1, by omega, ?_⟩
  rw [Int.tmod_eq_emod_of_nonneg (by omega)]
  omega
theorem bent_any {q0 q1 : Int} {v : Value} {H : List HF} (hH : HSlice w v H) (hl : H.length ≤ 1000) :
    Calls Try.prog 24 #[v, .agg #[.int .i64 q0, .int .i64 q1]] w (BentEnd w H.length) := by
  by_cases h0 : H = []
  · by_cases he : q0.tmod 2 = 0
    · exact bent_none hH hl h0 he
    · exact bent_none2 hH hl h0 he
  · have hp : 0 < H.length := by
      cases H with
      | nil => exact absurd rfl h0
      | cons x l => simp
    obtain ⟨r, n, hn, hr, b1, b2, e1, e2⟩ := place q1 H.length hp
    obtain ⟨r0, c, hc, hr0, b3, b4, e3, e4⟩ := place q0 5 (by decide)
    obtain ⟨r1, j, hj, hr1, b5, b6, e5, e6⟩ := place q1 32 (by decide)
    have hcc : c = 0 ∨ c = 1 ∨ c = 2 ∨ c = 3 ∨ c = 4 := by omega
    rcases hcc with rfl | rfl | rfl | rfl | rfl
    · exact bent_0 hH hl hn hr b1 b2 e1 e2 hr0 b3 b4 e3 e4 hj hr1 b5 b6 e5 e6
    · exact bent_1 hH hl hn hr b1 b2 e1 e2 hr0 b3 b4 e3 e4
    · exact bent_2 hH hl hn hr b1 b2 e1 e2 hr0 b3 b4 e3 e4
    · exact bent_3 hH hl hn hr b1 b2 e1 e2 hr0 b3 b4 e3 e4
    · exact bent_4 hH hl hn hr b1 b2 e1 e2 hr0 b3 b4 e3 e4
end
end Go.Proofs.Ytijhdfllffkfjaa
