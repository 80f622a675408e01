/- Roots: both implementations. -/
import Derived.Test.YtijhdfllffkfjaaTrA
import Derived.Test.YtijhdfllffkfjaaTail
namespace Go.Proofs.Ytijhdfllffkfjaa
open Go.RowKit

/-- the root of a list -/
def rootS (L : List (List UInt8)) : Nat → UInt8 :=
  if _h0 : L.length = 0 then sb [] else if _h1 : L.length = 1 then leafS (L.getD 0 []) else nodeS (rootS (L.take (halfN L.length))) (rootS (L.drop (halfN L.length)))
termination_by L.length
decreasing_by
  · have := halfN_lt (n := L.length) (by omega); rw [List.length_take]; omega
  · have := halfN_lt (n := L.length) (by omega); rw [List.length_drop]; omega
theorem rootS_0 {L : List (List UInt8)} (h : L.length = 0) : rootS L = sb [] := by rw [rootS, dif_pos h]
theorem rootS_1 {L : List (List UInt8)} (h : L.length = 1) : rootS L = leafS (L.getD 0 []) := by rw [rootS, dif_neg (by omega), dif_pos h]
theorem rootS_2 {L : List (List UInt8)} (h : 2 ≤ L.length) : rootS L = nodeS (rootS (L.take (halfN L.length))) (rootS (L.drop (halfN L.length))) := by
  rw [rootS, dif_neg (by omega), dif_neg (by omega)]
/-- a row of strings -/
def SRow (w : World) (b off : Nat) (L : List (List UInt8)) : Prop := ∀ i, i < L.length → w.cell? ⟨b, off + i, none⟩ = some (.string (bs (L.getD i [])))
theorem SRow.lt {w : World} {b off : Nat} {L : List (List UInt8)} (h : SRow w b off L) (hp : 0 < L.length) : b < w.heap.size := by
  have h0 := h 0 hp
  rcases Nat.lt_or_ge b w.heap.size with h' | h'
  · exact h'
  · simp [World.cell?, Array.getElem?_eq_none h'] at h0
theorem SRow.below {w w' : World} {b off : Nat} {L : List (List UInt8)} (h : SRow w b off L) (hb : Below w.heap.size w w') : SRow w' b off L := fun i hi => by
  rw [hb.cell (p := ⟨b, off + i, none⟩) (h.lt (by omega))]; exact h i hi
theorem SRow.alloc {w : World} {b off : Nat} {L : List (List UInt8)} (h : SRow w b off L) (o : Obj) : SRow (w.alloc o) b off L := h.below ((Below.refl _ _).alloc (Nat.le_refl _) _)
theorem SRow.take {w : World} {b off : Nat} {L : List (List UInt8)} (h : SRow w b off L) (k : Nat) : SRow w b off (L.take k) := fun i hi => by
  rw [List.length_take] at hi
  rw [h i (by omega)]
  simp [show i < k by omega, show i < L.length by omega]
theorem SRow.drop {w : World} {b off : Nat} {L : List (List UInt8)} (h : SRow w b off L) (k : Nat) : SRow w b (off + k) (L.drop k) := fun i hi => by
  rw [List.length_drop] at hi
  rw [Nat.add_assoc, h (k + i) (by omega)]
  simp
/-- each string within the reach -/
def Fits (L : List (List UInt8)) : Prop := ∀ s ∈ L, s.length ≤ 140737488351232
theorem Fits.get {L : List (List UInt8)} (h : Fits L) (i : Nat) : (L.getD i []).length ≤ 140737488351232 := by
  rcases Nat.lt_or_ge i L.length with hi | hi
  · rw [List.getD_eq_getElem?_getD, List.getElem?_eq_getElem hi]; exact h _ (List.getElem_mem hi)
  · rw [List.getD_eq_getElem?_getD, List.getElem?_eq_none hi]; simp
theorem Fits.take {L : List (List UInt8)} (h : Fits L) (k : Nat) : Fits (L.take k) := fun s hs => h s (List.mem_of_mem_take hs)
theorem Fits.drop {L : List (List UInt8)} (h : Fits L) (k : Nat) : Fits (L.drop k) := fun s hs => h s (List.mem_of_mem_drop hs)
/-- a slice without elements -/
def Empty (v : Value) : Prop := ∃ (a : Option Addr) (cap : Nat), v = .slice a 0 cap ∧ cap ≤ 9223372036854775807
theorem Empty.nil : Empty (.slice none 0 0) := ⟨none, 0, rfl, by omega⟩
/-- a slice of strings, as a value -/
def SSlice (w : World) (v : Value) (L : List (List UInt8)) : Prop := (Empty v ∧ L = []) ∨ ∃ b off cap : Nat, v = .slice (some ⟨b, off, none⟩) (L.length : Nat) cap ∧ SRow w b off L ∧ L.length ≤ cap ∧ cap ≤ 9223372036854775807
theorem SSlice.below {w w' : World} {v : Value} {L : List (List UInt8)} (h : SSlice w v L) (hb : Below w.heap.size w w') : SSlice w' v L := by
  rcases h with h | ⟨b, off, cap, h1, h2, h3⟩
  · exact .inl h
  · exact .inr ⟨b, off, cap, h1, h2.below hb, h3⟩
set_option maxHeartbeats 1000000 in
theorem root_0 {a : Option Addr} {cap : Nat} {w : World} :
    Calls Try.prog 16 #[.slice a 0 cap] w fun e w' => e = .returned (hv (sb [])) ∧ Below w.heap.size w w' := by
  have h0 : Row (w.alloc (.cells (arr 32 fun _ => .int .u8 0) 24)) w.heap.size 24 32 (fun _ => .int .u8 0) := Row.newArr _ _ _ _
  unfold hv
  go_enter Try.func16, Try.ntmps16
  go_wp2_with (refine wpList_alloc_is rfl 24 rfl 32 (.int .u8 0) (by kernel_rfl) ?_)
  refine (sumL (l := []) (by simp)).mono ?_
  rintro e w1 ⟨rfl, hb1⟩
  have h1 := h0.belowAll hb1
  have hb := ((Below.refl _ _).alloc (Nat.le_refl _) (.cells (arr 32 fun _ => .int .u8 0) 24)).trans (hb1.mono (by simp))
  clear hb1 h0
  go_wp2_with (refine wpList_store_is rfl 24 (.tmp 2) (.tmp 8) rfl w.heap.size 32 (U8 (sb [])) (fun _ => .int .u8 0) rfl rfl 24 h1 (by kernel_rfl) (fun _ _ => rfl) ?_)
  exact ret_row rfl w.heap.size rfl (h1.setRow _) Try.underlying24 (by rw [size_arr]; kernel_rfl) rfl ⟨rfl, Below.setRow hb (Nat.le_refl _) _⟩
set_option maxHeartbeats 1000000 in
theorem root_1 {s : List UInt8} {b off cap : Nat} {w : World} (hs : s.length ≤ 140737488351232) (hc : w.cell? ⟨b, off, none⟩ = some (.string (bs s))) :
    Calls Try.prog 16 #[.slice (some ⟨b, off, none⟩) 1 cap] w fun e w' => e = .returned (hv (leafS s)) ∧ Below w.heap.size w w' := by
  have h0 : Row (w.alloc (.cells (arr 32 fun _ => .int .u8 0) 24)) w.heap.size 24 32 (fun _ => .int .u8 0) := Row.newArr _ _ _ _
  have hc0 : (w.alloc (.cells (arr 32 fun _ => .int .u8 0) 24)).cell? ⟨b, off, none⟩ = some (.string (bs s)) := by
    rw [World.cell?_alloc_some _ _ _ (by rw [hc]; rfl), hc]
  go_enter Try.func16, Try.ntmps16
  go_wp2_with (refine wpList_alloc_is rfl 24 rfl 32 (.int .u8 0) (by kernel_rfl) ?_)
  refine (leaf_any (s := s) (by omega)).mono ?_
  rintro e w1 ⟨rfl, hb1⟩
  have h1 := h0.belowAll hb1
  have hb := ((Below.refl _ _).alloc (Nat.le_refl _) (.cells (arr 32 fun _ => .int .u8 0) 24)).trans (hb1.mono (by simp))
  clear hb1 h0
  unfold hv
  go_wp2_with (refine wpList_store_is rfl 24 (.tmp 2) (.tmp 14) rfl w.heap.size 32 (U8 (leafS s)) (fun _ => .int .u8 0) rfl rfl 24 h1 (by kernel_rfl) (fun _ _ => rfl) ?_)
  exact ret_row rfl w.heap.size rfl (h1.setRow _) Try.underlying24 (by rw [size_arr]; kernel_rfl) rfl ⟨rfl, Below.setRow hb (Nat.le_refl _) _⟩
set_option maxHeartbeats 2000000 in
set_option maxRecDepth 100000 in
theorem root_2 {f g : Nat → UInt8} {n b off cap : Nat} {w : World} (h2 : 2 ≤ n) (hcap : n ≤ cap) (hcm : cap ≤ 9223372036854775807)
    (h1 : ∀ W, Below w.heap.size w W → Calls Try.prog 16 #[.slice (some ⟨b, off, none⟩) (halfN n) cap] W fun e w' => e = .returned (hv f) ∧ Below W.heap.size W w')
    (h3 : ∀ W, Below w.heap.size w W → Calls Try.prog 16 #[.slice (some ⟨b, off + halfN n, none⟩) (n - halfN n) (cap - halfN n)] W fun e w' => e = .returned (hv g) ∧ Below W.heap.size W w') :
    Calls Try.prog 16 #[.slice (some ⟨b, off, none⟩) n cap] w fun e w' => e = .returned (hv (nodeS f g)) ∧ Below w.heap.size w w' := by
  have h0 : Row (w.alloc (.cells (arr 32 fun _ => .int .u8 0) 24)) w.heap.size 24 32 (fun _ => .int .u8 0) := Row.newArr _ _ _ _
  have hb := (Below.refl w.heap.size w).alloc (Nat.le_refl _) (.cells (arr 32 fun _ => .int .u8 0) 24)
  have hz : (w.alloc (.cells (arr 32 fun _ => .int .u8 0) 24)).heap.size = w.heap.size + 1 := by simp
  obtain ⟨k1, k2, k3⟩ := halfN_lt h2
  obtain ⟨k, hk⟩ : ∃ k, halfN n = k := ⟨_, rfl⟩
  rw [hk] at h1 h3 k1 k2 k3
  have HK := Lib.hid hk
  have n0 : ((n : Int) == 0) = false := by simp; omega
  have n1 : ((n : Int) == 1) = false := by simp; omega
  have H1 := Lib.hid h1
  have H3 := Lib.hid h3
  clear hk h1 h3
  go_enter Try.func16, Try.ntmps16
  go_wp2_with (refine wpList_alloc_is rfl 24 rfl 32 (.int .u8 0) (by kernel_rfl) ?_)
  refine (half_any h2 (by omega)).mono ?_
  rintro e w1 ⟨rfl, rfl⟩
  rw [HK.out]
  generalize (w.alloc (.cells (arr 32 fun _ => .int .u8 0) 24)) = w0 at *
  have G1 : Hid (∀ e : Ext w0, Calls Try.prog 16 #[.slice (some ⟨b, off, none⟩) k cap] e.at fun x w' => x = .returned (hv f) ∧ Below e.at.heap.size e.at w') := fun e => H1.out _ (hb.trans (e.below.mono (by omega)))
  have G3 : Hid (∀ e : Ext w0, Calls Try.prog 16 #[.slice (some ⟨b, off + k, none⟩) (n - k) (cap - k)] e.at fun x w' => x = .returned (hv g) ∧ Below e.at.heap.size e.at w') := fun e => H3.out _ (hb.trans (e.below.mono (by omega)))
  clear H1 H3
  go_wp2_with fail
  refine wp_region_ext_tail 9 (by kernel_rfl) (by kernel_rfl) ?_
  simp only [List.take_succ_cons, List.take_zero, List.drop_succ_cons, List.drop_zero]
  repeat (first | go_big_quiet_step ((first | (go_at_call 16; first | with_reducible exact ext_call (G1.out _) | with_reducible exact ext_call (G3.out _)) | (go_at_call 18; with_reducible exact ext_call node_any))))
  refine wpQuiet_nil ?_
  rintro _ ⟨e, rfl⟩
  have hr := h0.ext e
  have hbe := hb.trans (e.below.mono (by omega))
  unfold hv
  go_wp2_with (refine wpList_store_is rfl 24 (.tmp 2) (.tmp 26) rfl w.heap.size 32 (U8 (nodeS f g)) (fun _ => .int .u8 0) rfl rfl 24 hr (by kernel_rfl) (fun _ _ => rfl) ?_)
  exact ret_row rfl w.heap.size rfl (hr.setRow _) Try.underlying24 (by rw [size_arr]; kernel_rfl) rfl ⟨rfl, Below.setRow hbe (Nat.le_refl _) _⟩
theorem root_row : ∀ (n : Nat) (L : List (List UInt8)) (_ : L.length ≤ n) (_ : Fits L) (w : World) (b off cap : Nat) (_ : SRow w b off L) (_ : L.length ≤ cap) (_ : cap ≤ 9223372036854775807),
    Calls Try.prog 16 #[.slice (some ⟨b, off, none⟩) (L.length : Nat) cap] w fun e w' => e = .returned (hv (rootS L)) ∧ Below w.heap.size w w'
  | n, L, hn, hf, w, b, off, cap, hc, hcap, hcm => by
    by_cases h0 : L.length = 0
    · rw [h0, rootS_0 h0]
      exact root_0
    · by_cases h1 : L.length = 1
      · rw [h1, rootS_1 h1]
        exact root_1 (hf.get 0) (hc 0 (by omega))
      · have h2 : 2 ≤ L.length := by omega
        obtain ⟨k1, k2, k3⟩ := halfN_lt h2
        obtain ⟨m, rfl⟩ : ∃ m, n = m + 1 := ⟨n - 1, by omega⟩
        have hlt : (L.take (halfN L.length)).length = halfN L.length := by rw [List.length_take]; omega
        have hld : (L.drop (halfN L.length)).length = L.length - halfN L.length := List.length_drop
        rw [rootS_2 h2]
        refine root_2 h2 hcap hcm (fun W hW => ?_) (fun W hW => ?_)
        · have h := root_row m (L.take (halfN L.length)) (by omega) (hf.take _) W b off cap ((hc.below hW).take _) (by omega) hcm
          rw [hlt] at h
          exact h
        · have h := root_row m (L.drop (halfN L.length)) (by omega) (hf.drop _) W b (off + halfN L.length) (cap - halfN L.length) ((hc.below hW).drop _) (by omega) (by omega)
          rw [hld] at h
          exact h
theorem root_any {L : List (List UInt8)} {v : Value} {w : World} (h : SSlice w v L) (hf : Fits L) :
    Calls Try.prog 16 #[v] w fun e w' => e = .returned (hv (rootS L)) ∧ Below w.heap.size w w' := by
  rcases h with ⟨⟨ea, ecap, rfl, _⟩, rfl⟩ | ⟨b, off, cap, rfl, hc, h1, h2⟩
  · rw [rootS_0 rfl]; exact root_0
  · exact root_row L.length L (Nat.le_refl _) hf w b off cap hc h1 h2
set_option maxHeartbeats 1000000 in
theorem refroot_0 {a : Option Addr} {cap : Nat} {w : World} :
    Calls Try.prog 17 #[.slice a 0 cap] w fun e w' => e = .returned (hv (sb [])) ∧ Below w.heap.size w w' := by
  have h0 : Row (w.alloc (.cells (arr 32 fun _ => .int .u8 0) 24)) w.heap.size 24 32 (fun _ => .int .u8 0) := Row.newArr _ _ _ _
  unfold hv
  go_enter Try.func17, Try.ntmps17
  go_wp2_with (refine wpList_alloc_is rfl 24 rfl 32 (.int .u8 0) (by kernel_rfl) ?_)
  refine (refsumL (l := []) (by simp)).mono ?_
  rintro e w1 ⟨rfl, hb1⟩
  have h1 := h0.belowAll hb1
  have hb := ((Below.refl _ _).alloc (Nat.le_refl _) (.cells (arr 32 fun _ => .int .u8 0) 24)).trans (hb1.mono (by simp))
  clear hb1 h0
  go_wp2_with (refine wpList_store_is rfl 24 (.tmp 2) (.tmp 7) rfl w.heap.size 32 (U8 (sb [])) (fun _ => .int .u8 0) rfl rfl 24 h1 (by kernel_rfl) (fun _ _ => rfl) ?_)
  exact ret_row rfl w.heap.size rfl (h1.setRow _) Try.underlying24 (by rw [size_arr]; kernel_rfl) rfl ⟨rfl, Below.setRow hb (Nat.le_refl _) _⟩
set_option maxHeartbeats 1000000 in
theorem refroot_1 {s : List UInt8} {b off cap : Nat} {w : World} (hs : s.length ≤ 140737488351232) (hc : w.cell? ⟨b, off, none⟩ = some (.string (bs s))) :
    Calls Try.prog 17 #[.slice (some ⟨b, off, none⟩) 1 cap] w fun e w' => e = .returned (hv (leafS s)) ∧ Below w.heap.size w w' := by
  have h0 : Row (w.alloc (.cells (arr 32 fun _ => .int .u8 0) 24)) w.heap.size 24 32 (fun _ => .int .u8 0) := Row.newArr _ _ _ _
  have hc0 : (w.alloc (.cells (arr 32 fun _ => .int .u8 0) 24)).cell? ⟨b, off, none⟩ = some (.string (bs s)) := by
    rw [World.cell?_alloc_some _ _ _ (by rw [hc]; rfl), hc]
  go_enter Try.func17, Try.ntmps17
  go_wp2_with (refine wpList_alloc_is rfl 24 rfl 32 (.int .u8 0) (by kernel_rfl) ?_)
  refine (refleaf_any (s := s) (by omega)).mono ?_
  rintro e w1 ⟨rfl, hb1⟩
  have h1 := h0.belowAll hb1
  have hb := ((Below.refl _ _).alloc (Nat.le_refl _) (.cells (arr 32 fun _ => .int .u8 0) 24)).trans (hb1.mono (by simp))
  clear hb1 h0
  unfold hv
  go_wp2_with (refine wpList_store_is rfl 24 (.tmp 2) (.tmp 14) rfl w.heap.size 32 (U8 (leafS s)) (fun _ => .int .u8 0) rfl rfl 24 h1 (by kernel_rfl) (fun _ _ => rfl) ?_)
  exact ret_row rfl w.heap.size rfl (h1.setRow _) Try.underlying24 (by rw [size_arr]; kernel_rfl) rfl ⟨rfl, Below.setRow hb (Nat.le_refl _) _⟩
set_option maxHeartbeats 2000000 in
set_option maxRecDepth 100000 in
theorem refroot_2 {f g : Nat → UInt8} {n b off cap : Nat} {w : World} (h2 : 2 ≤ n) (hcap : n ≤ cap) (hcm : cap ≤ 9223372036854775807)
    (h1 : ∀ W, Below w.heap.size w W → Calls Try.prog 17 #[.slice (some ⟨b, off, none⟩) (halfN n) cap] W fun e w' => e = .returned (hv f) ∧ Below W.heap.size W w')
    (h3 : ∀ W, Below w.heap.size w W → Calls Try.prog 17 #[.slice (some ⟨b, off + halfN n, none⟩) (n - halfN n) (cap - halfN n)] W fun e w' => e = .returned (hv g) ∧ Below W.heap.size W w') :
    Calls Try.prog 17 #[.slice (some ⟨b, off, none⟩) n cap] w fun e w' => e = .returned (hv (nodeS f g)) ∧ Below w.heap.size w w' := by
  have h0 : Row (w.alloc (.cells (arr 32 fun _ => .int .u8 0) 24)) w.heap.size 24 32 (fun _ => .int .u8 0) := Row.newArr _ _ _ _
  have hb := (Below.refl w.heap.size w).alloc (Nat.le_refl _) (.cells (arr 32 fun _ => .int .u8 0) 24)
  have hz : (w.alloc (.cells (arr 32 fun _ => .int .u8 0) 24)).heap.size = w.heap.size + 1 := by simp
  obtain ⟨k1, k2, k3⟩ := halfN_lt h2
  obtain ⟨k, hk⟩ : ∃ k, halfN n = k := ⟨_, rfl⟩
  rw [hk] at h1 h3 k1 k2 k3
  have HK := Lib.hid hk
  have n0 : ((n : Int) == 0) = false := by simp; omega
  have n1 : ((n : Int) == 1) = false := by simp; omega
  have H1 := Lib.hid h1
  have H3 := Lib.hid h3
  clear hk h1 h3
  go_enter Try.func17, Try.ntmps17
  go_wp2_with (refine wpList_alloc_is rfl 24 rfl 32 (.int .u8 0) (by kernel_rfl) ?_)
  refine (refhalf_any h2 (by omega)).mono ?_
  rintro e w1 ⟨rfl, rfl⟩
  rw [HK.out]
  generalize (w.alloc (.cells (arr 32 fun _ => .int .u8 0) 24)) = w0 at *
  have G1 : Hid (∀ e : Ext w0, Calls Try.prog 17 #[.slice (some ⟨b, off, none⟩) k cap] e.at fun x w' => x = .returned (hv f) ∧ Below e.at.heap.size e.at w') := fun e => H1.out _ (hb.trans (e.below.mono (by omega)))
  have G3 : Hid (∀ e : Ext w0, Calls Try.prog 17 #[.slice (some ⟨b, off + k, none⟩) (n - k) (cap - k)] e.at fun x w' => x = .returned (hv g) ∧ Below e.at.heap.size e.at w') := fun e => H3.out _ (hb.trans (e.below.mono (by omega)))
  clear H1 H3
  go_wp2_with fail
  refine wp_region_ext_tail 9 (by kernel_rfl) (by kernel_rfl) ?_
  simp only [List.take_succ_cons, List.take_zero, List.drop_succ_cons, List.drop_zero]
  repeat (first | go_big_quiet_step ((first | (go_at_call 17; first | with_reducible exact ext_call (G1.out _) | with_reducible exact ext_call (G3.out _)) | (go_at_call 19; with_reducible exact ext_call refnode_any))))
  refine wpQuiet_nil ?_
  rintro _ ⟨e, rfl⟩
  have hr := h0.ext e
  have hbe := hb.trans (e.below.mono (by omega))
  unfold hv
  go_wp2_with (refine wpList_store_is rfl 24 (.tmp 2) (.tmp 26) rfl w.heap.size 32 (U8 (nodeS f g)) (fun _ => .int .u8 0) rfl rfl 24 hr (by kernel_rfl) (fun _ _ => rfl) ?_)
  exact ret_row rfl w.heap.size rfl (hr.setRow _) Try.underlying24 (by rw [size_arr]; kernel_rfl) rfl ⟨rfl, Below.setRow hbe (Nat.le_refl _) _⟩
theorem refroot_row : ∀ (n : Nat) (L : List (List UInt8)) (_ : L.length ≤ n) (_ : Fits L) (w : World) (b off cap : Nat) (_ : SRow w b off L) (_ : L.length ≤ cap) (_ : cap ≤ 9223372036854775807),
    Calls Try.prog 17 #[.slice (some ⟨b, off, none⟩) (L.length : Nat) cap] w fun e w' => e = .returned (hv (rootS L)) ∧ Below w.heap.size w w'
  | n, L, hn, hf, w, b, off, cap, hc, hcap, hcm => by
    by_cases h0 : L.length = 0
    · rw [h0, rootS_0 h0]
      exact refroot_0
    · by_cases h1 : L.length = 1
      · rw [h1, rootS_1 h1]
        exact refroot_1 (hf.get 0) (hc 0 (by omega))
      · have h2 : 2 ≤ L.length := by omega
        obtain ⟨k1, k2, k3⟩ := halfN_lt h2
        obtain ⟨m, rfl⟩ : ∃ m, n = m + 1 := ⟨n - 1, by omega⟩
        have hlt : (L.take (halfN L.length)).length = halfN L.length := by rw [List.length_take]; omega
        have hld : (L.drop (halfN L.length)).length = L.length - halfN L.length := List.length_drop
        rw [rootS_2 h2]
        refine refroot_2 h2 hcap hcm (fun W hW => ?_) (fun W hW => ?_)
        · have h := refroot_row m (L.take (halfN L.length)) (by omega) (hf.take _) W b off cap ((hc.below hW).take _) (by omega) hcm
          rw [hlt] at h
          exact h
        · have h := refroot_row m (L.drop (halfN L.length)) (by omega) (hf.drop _) W b (off + halfN L.length) (cap - halfN L.length) ((hc.below hW).drop _) (by omega) (by omega)
          rw [hld] at h
          exact h
theorem refroot_any {L : List (List UInt8)} {v : Value} {w : World} (h : SSlice w v L) (hf : Fits L) :
    Calls Try.prog 17 #[v] w fun e w' => e = .returned (hv (rootS L)) ∧ Below w.heap.size w w' := by
  rcases h with ⟨⟨ea, ecap, rfl, _⟩, rfl⟩ | ⟨b, off, cap, rfl, hc, h1, h2⟩
  · rw [rootS_0 rfl]; exact refroot_0
  · exact refroot_row L.length L (Nat.le_refl _) hf w b off cap hc h1 h2
end Go.Proofs.Ytijhdfllffkfjaa
