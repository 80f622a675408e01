/- TreeRoots returns true for all strings and hashes, and its arguments read behind the call as before. No condition. -/
import Derived.Test.YtijhdfllffkfjaaTPaths
namespace Go.Proofs.Ytijhdfllffkfjaa
open Go.ChangeShapes Go.WideShapes Go.ChangeAt Go.RowKit

theorem SSlice.cut {w : World} {a : Option Addr} {n cap : Nat} {L : List (List UInt8)} (h : SSlice w (.slice a n cap) L) (hn : L.length = n) (k : Nat) (hk : k ≤ n) : SSlice w (.slice a k cap) (L.take k) := by
  have hl : (L.take k).length = k := by rw [List.length_take]; omega
  rcases h with ⟨⟨ea, ecap, he, eh⟩, rfl⟩ | ⟨b, off, c, he, h2, h3, h4⟩
  · injection he with e1 e2 e3
    subst e1 e2 e3
    have : k = 0 := by omega
    subst this
    exact .inl ⟨⟨a, cap, rfl, eh⟩, by simp⟩
  · injection he with e1 e2 e3
    subst e1 e2 e3
    exact .inr ⟨b, off, cap, by rw [hl], h2.take k, by omega, h4⟩
set_option maxHeartbeats 4000000 in
set_option maxRecDepth 100000 in
theorem roots_walk {v : Value} {L0 : List (List UInt8)} {w : World} (hv0 : SSlice w v L0) (hf0 : Fits L0) (fa fb : Nat → UInt8) :
    Calls Try.prog 3 #[v, .agg (arr 32 (U8 fa)), .agg (arr 32 (U8 fb))] w (Said true w) := by
  obtain ⟨a, cap, rfl, c1, c2, hrow⟩ := hv0.form
  obtain ⟨n, hn⟩ : ∃ n, L0.length = n := ⟨_, rfl⟩
  obtain ⟨m, hm⟩ : ∃ m, min n 40 = m := ⟨_, rfl⟩
  have hmn : m ≤ n := by omega
  obtain ⟨L, hL⟩ : ∃ L, L0.take m = L := ⟨_, rfl⟩
  have hlen : L.length = m := by rw [← hL, List.length_take]; omega
  have hf : Fits L := by rw [← hL]; exact hf0.take m
  rw [hn] at hv0 c1 hrow ⊢
  have hs0 := hv0.cut hn m hmn
  rw [hL] at hs0
  have hrowL : 0 < m → ∃ b off : Nat, a = some ⟨b, off, none⟩ ∧ SRow w b off L := fun hp => by
    obtain ⟨b, off, h1, h2⟩ := hrow (by omega)
    exact ⟨b, off, h1, by rw [← hL]; exact h2.take m⟩
  have hmin : min (n : Int) 40 = (m : Int) := by omega
  have HS := Lib.hid hs0
  have HN := Lib.hid hlen
  have HR' := Lib.hid hrowL
  have HM := Lib.hid hmin
  have hm40 : m ≤ 40 := by omega
  have hmc : m ≤ cap := by omega
  clear hv0 hrow hs0 hrowL hL hlen hm hn hf0 hmin c1
  have ra : Row ((w.alloc (.cells (arr 32 (U8 fa)) 24)).alloc (.cells (arr 32 (U8 fb)) 24)) w.heap.size 24 32 (U8 fa) := (Row.newArr _ _ _ _).alloc _
  have rb : Row ((w.alloc (.cells (arr 32 (U8 fa)) 24)).alloc (.cells (arr 32 (U8 fb)) 24)) (w.heap.size + 1) 24 32 (U8 fb) := Row.newAt _ _ _ _ (by simp)
  have hb0 := ((Below.refl w.heap.size w).alloc (Nat.le_refl _) (.cells (arr 32 (U8 fa)) 24)).alloc (by simp) (.cells (arr 32 (U8 fb)) 24)
  go_enter Try.func3, Try.ntmps3
  go_wp2_with fail
  refine sanity_any.mono ?_
  generalize ((w.alloc (.cells (arr 32 (U8 fa)) 24)).alloc (.cells (arr 32 (U8 fb)) 24)) = w0 at *
  rintro e w1 ⟨rfl, hb1⟩
  have hB1 := hb0.trans (hb1.mono hb0.size)
  have ra1 := ra.belowAll hb1
  have rb1 := rb.belowAll hb1
  clear ra rb hb0 hb1
  have hmin := HM.out
  go_wp2_with fail
  clear hmin
  go_loopw [18] (fun i wr => ∃ k : Nat, k ≤ m ∧ i = .int .i64 k ∧ Below w1.heap.size w1 wr) (fun i _ => m - (intOf i).toNat)
  case atStart => exact ⟨0, by omega, rfl, Below.refl _ _⟩
  case round =>
    obtain ⟨k, hk, rfl, hB⟩ := hrel
    have hBw := hB1.trans (hB.mono hB1.size)
    by_cases hlt : k < m
    · obtain ⟨b, off, hae, hrow⟩ := HR'.out (by omega)
      subst hae
      have hcell := (hrow.below hBw) k (by rw [HN.out]; exact hlt)
      have hfit : (L.getD k []).length ≤ 140737488355000 := Nat.le_trans (hf.get k) (by decide)
      obtain ⟨y, hy⟩ : ∃ y, L.getD k [] = y := ⟨_, rfl⟩
      rw [hy] at hcell hfit
      clear hy hrow hBw
      go_wp2_with fail
      refine (leaf_arr (s := y) hfit).mono ?_
      rintro e w3 ⟨rfl, hb3⟩
      go_wp2_with fail
      refine (refleaf_arr (s := y) hfit).mono ?_
      rintro e w4 ⟨rfl, hb4⟩
      have hB4 := (hB.trans (hb3.mono hB.size)).trans (hb4.mono (hB.trans (hb3.mono hB.size)).size)
      go_wp2_with fail
      go_roundw
      case rel => exact ⟨k + 1, hlt, by go_num, hB4⟩
      case measure => simp [intOf]; omega
    · have t1 : decide (k < m) = false := decide_eq_false hlt
      have hsr := HS.out.below hBw
      have hra := ra1.belowAll (hB.mono (Nat.le_refl _))
      have hrb := rb1.belowAll (hB.mono (Nat.le_refl _))
      have ca := row_range hra
      have cb := row_range hrb
      obtain ⟨f, hfe⟩ : ∃ f, rootS L = f := ⟨_, rfl⟩
      have G1 : Hid (∀ e : Ext wr, Calls Try.prog 16 #[.slice a m cap] e.at fun x w' => x = .returned (.agg (arr 32 (U8 f))) ∧ Below e.at.heap.size e.at w') := fun e => by
        have := root_any (hsr.below e.below) hf
        rw [hfe] at this
        exact this
      have G2 : Hid (∀ e : Ext wr, Calls Try.prog 17 #[.slice a m cap] e.at fun x w' => x = .returned (.agg (arr 32 (U8 f))) ∧ Below e.at.heap.size e.at w') := fun e => by
        have := refroot_any (hsr.below e.below) hf
        rw [hfe] at this
        exact this
      obtain ⟨g, hgn⟩ : ∃ g, nodeS fa fb = g := ⟨_, rfl⟩
      have G3 : Hid (∀ e : Ext wr, Calls Try.prog 18 #[.agg (arr 32 (U8 fa)), .agg (arr 32 (U8 fb))] e.at fun x w' => x = .returned (.agg (arr 32 (U8 g))) ∧ Below e.at.heap.size e.at w') := fun e => by
        have := node_arr (f := fa) (g := fb) (w := e.at)
        rw [hgn] at this
        exact this
      have G4 : Hid (∀ e : Ext wr, Calls Try.prog 19 #[.agg (arr 32 (U8 fa)), .agg (arr 32 (U8 fb))] e.at fun x w' => x = .returned (.agg (arr 32 (U8 g))) ∧ Below e.at.heap.size e.at w') := fun e => by
        have := refnode_arr (f := fa) (g := fb) (w := e.at)
        rw [hgn] at this
        exact this
      clear hsr hra hrb hfe hgn
      go_wp2_with fail
      refine wp_region_ext (by kernel_rfl) (by kernel_rfl) ?_
      repeat (first | go_big_quiet_step ((first | (go_at_call 16; with_reducible exact ext_call (G1.out _)) | (go_at_call 17; with_reducible exact ext_call (G2.out _)) | (go_at_call 18; with_reducible exact ext_call (G3.out _)) | (go_at_call 19; with_reducible exact ext_call (G4.out _)))) | (go_big_quiet_want; (first | (refine quiet_load_h (.tmp 4) rfl w.heap.size 0 rfl fa ca ?_) | (refine quiet_load_h (.tmp 5) rfl (w.heap.size + 1) 0 rfl fb cb ?_)); go_simp; go_big_quiet_on))
      refine wpQuiet_nil ?_
      rintro _ ⟨e, rfl⟩
      go_wp2_with fail
      go_ret
      exact ⟨rfl, hBw.trans (e.below.mono hBw.size)⟩
end Go.Proofs.Ytijhdfllffkfjaa
