/- TreeKeeps returns true for all numbers, and its arguments read behind the call as before. No condition. -/
import Derived.Test.YtijhdfllffkfjaaTrZ
namespace Go.Proofs.Ytijhdfllffkfjaa
open Go.ChangeShapes Go.WideShapes Go.ChangeAt Go.RowKit
attribute [local go_sem] bareOp

def ListO (w : World) (H : List HF) (b : Bool) (e : Ending) (w' : World) : Prop := ∃ u, e = .returned (.tuple #[u, .bool b]) ∧ HOwn w' w.heap.size u H ∧ Below w.heap.size w w'
section
variable {L : List (List UInt8)} {v : Value} {n : Int} {w : World}
theorem path_own (hf : Fits L) (hsm : L.length ≤ 1000) (h : SSlice w v L) : Calls Try.prog 28 #[v, .int .i64 n] w (ListO w (pathL L n) (pathO L n)) := by
  unfold pathL pathO
  by_cases hn : 0 ≤ n ∧ n < L.length
  · rw [if_pos hn, decide_eq_true hn]
    obtain ⟨k, rfl⟩ : ∃ k : Nat, n = k := ⟨n.toNat, by omega⟩
    rw [Int.toNat_natCast]
    rcases h with ⟨⟨ea, ecap, rfl, _⟩, rfl⟩ | ⟨b, off, cap, rfl, h1, h2, h3⟩
    · exfalso; simp at hn; omega
    · exact path_loop hf h1 h2 h3 (by omega) hsm
  · rw [if_neg hn, decide_eq_false hn]
    rcases h with ⟨⟨ea, ecap, rfl, _⟩, rfl⟩ | ⟨b, off, cap, rfl, h1, h2, h3⟩
    · exact (path_bad (len := 0) (by simp at hn; simp; omega)).mono fun e w' ⟨e1, e2⟩ => ⟨_, e1, HOwn.nil _ _, by rw [e2]; exact Below.refl _ _⟩
    · exact (path_bad (by omega)).mono fun e w' ⟨e1, e2⟩ => ⟨_, e1, HOwn.nil _ _, by rw [e2]; exact Below.refl _ _⟩
theorem growth_own {k : Nat} (hk : k ≤ L.length) (hf : Fits L) (h : SSlice w v L) : Calls Try.prog 34 #[v, .int .i64 (k : Int)] w (ListO w (growthS L k) true) := by
  refine (growth_any (m := (k : Int)) hf h).mono fun e w' he => ?_
  rw [if_pos (by omega), Int.toNat_natCast] at he
  exact he
end
/-- a slice of n hashes that may be written, in a block from B to gx -/
def Wr (w : World) (B gx : Nat) (v : Value) (n : Nat) : Prop := ∃ (a : Option Addr) (c : Nat), v = .slice a n c ∧ n ≤ c ∧ c ≤ 9223372036854775807 ∧ (0 < n → ∃ g, a = some ⟨g, 0, none⟩ ∧ B ≤ g ∧ g < gx ∧ w.there g 0 (n * 32))
theorem HOwn.wr {w : World} {B : Nat} {v : Value} {H : List HF} (h : HOwn w B v H) : Wr w B w.heap.size v H.length := by
  rcases h.row with ⟨rfl, rfl⟩ | ⟨g, cap, rfl, hr, hB, h3, h4⟩
  · exact ⟨none, 0, rfl, Nat.le_refl _, by omega, fun h => absurd h (by simp)⟩
  · exact ⟨_, cap, rfl, h3, h4, fun hp => ⟨g, rfl, hB, hr.lt hp, h.there⟩⟩
theorem Wr.below {w w' : World} {B gx : Nat} {v : Value} {n : Nat} (h : Wr w B gx v n) (hb : Below w.heap.size w w') (hg : gx ≤ w.heap.size) : Wr w' B gx v n := by
  obtain ⟨a, c, h1, h2, h3, h4⟩ := h
  refine ⟨a, c, h1, h2, h3, fun hp => ?_⟩
  obtain ⟨g, e, hB, hl, ht⟩ := h4 hp
  refine ⟨g, e, hB, hl, fun j hj => ?_⟩
  rw [hb.cell (p := ⟨g, 0 + j, none⟩) (by show g < _; omega), hb.frozen (p := ⟨g, 0 + j, none⟩) (by show g < _; omega)]
  exact ht j hj
theorem Wr.mono {w : World} {B B' gx gx' : Nat} {v : Value} {n : Nat} (h : Wr w B gx v n) (hB : B' ≤ B) (hg : gx ≤ gx') : Wr w B' gx' v n := by
  obtain ⟨a, c, h1, h2, h3, h4⟩ := h
  refine ⟨a, c, h1, h2, h3, fun hp => ?_⟩
  obtain ⟨g, e, hB', hl, ht⟩ := h4 hp
  exact ⟨g, e, by omega, by omega, ht⟩
theorem Wr.set {w : World} {B gx g o : Nat} {vs : List Value} {v : Value} {n : Nat} (h : Wr w B gx v n) : Wr (w.setCells g o vs) B gx v n := by
  obtain ⟨a, c, h1, h2, h3, h4⟩ := h
  refine ⟨a, c, h1, h2, h3, fun hp => ?_⟩
  obtain ⟨g', e, hB, hl, ht⟩ := h4 hp
  exact ⟨g', e, hB, hl, World.there_setCells ht g o vs⟩
/-- while the results are overwritten -/
structure KSt (w3 : World) (gx : Nat) (p q : Value) (np nq : Nat) (w : World) : Prop where
  kept : Below w3.heap.size w3 w
  c0 : w.cell? ⟨gx, 0, none⟩ = some p
  c1 : w.cell? ⟨gx, 1, none⟩ = some q
  wp : Wr w w3.heap.size gx p np
  wq : Wr w w3.heap.size gx q nq
theorem KSt.store {w3 w : World} {gx np nq g o : Nat} {p q : Value} {vs : List Value} (h : KSt w3 gx p q np nq w) (hB : w3.heap.size ≤ g) (hg : g < gx) : KSt w3 gx p q np nq (w.setCells g o vs) :=
  ⟨Below.setCells hB _ _ _ h.kept, by rw [World.cell?_setCells_out _ _ _ _ _ (fun e _ => absurd e (by show gx ≠ g; omega))]; exact h.c0, by rw [World.cell?_setCells_out _ _ _ _ _ (fun e _ => absurd e (by show gx ≠ g; omega))]; exact h.c1, h.wp.set, h.wq.set⟩

theorem KSt.start {w3 w5 w : World} {pa qa : Option Addr} {pc qc B : Nat} {PL GL : List HF} (hP : HOwn w5 w3.heap.size (.slice pa PL.length pc) PL) (hQ : HOwn w5 B (.slice qa GL.length qc) GL) (h4 : w3.heap.size ≤ B) (_h5 : B ≤ w5.heap.size) (hb : Below w5.heap.size w5 w) (hC : Below w3.heap.size w3 w) :
    KSt w3 w.heap.size (.slice pa PL.length pc) (.slice qa GL.length qc) PL.length GL.length (w.alloc (.cells #[.slice pa PL.length pc, .slice qa GL.length qc] 38)) := by
  have hb2 := hb.alloc hb.size (.cells #[.slice pa PL.length pc, .slice qa GL.length qc] 38)
  have hh : (w.alloc (.cells #[.slice pa PL.length pc, .slice qa GL.length qc] 38)).heap[w.heap.size]? = some (.cells #[.slice pa PL.length pc, .slice qa GL.length qc] 38 (0, 0)) := heap_alloc_new _ _
  refine ⟨hC.alloc hC.size _, by rw [cell_of_row _ _ 0 _ _ (0, 0) hh]; rfl, by rw [cell_of_row _ _ 1 _ _ (0, 0) hh]; rfl, ?_, ?_⟩
  · exact (hP.wr.below hb2 (Nat.le_refl _)).mono (Nat.le_refl _) hb.size
  · exact (hQ.wr.below hb2 (Nat.le_refl _)).mono h4 hb.size
theorem app_own {a w w' : World} {B : Nat} {v v' : Value} {H : List HF} (h : HOwn w B v []) (hb : Below B a w) (hB : B ≤ w.heap.size) (hO : HOwn w' B v' ([] ++ H)) (hg : w.grownBy w' v.ownBlock) : HOwn w' B v' H ∧ Below B a w' :=
  ⟨by rwa [List.nil_append] at hO, HOwn.grown_below h hb hB hg⟩
set_option maxHeartbeats 8000000 in
set_option maxRecDepth 100000 in
theorem keeps_walk {v : Value} {l : List UInt8} {w : World} (hv0 : BSlice w v l) (x : UInt8) :
    Calls Try.prog 12 #[v, .int .u8 (ub x)] w (Said true w) := by
  obtain ⟨L, hLe⟩ : ∃ L, strS l = L := ⟨_, rfl⟩
  have hL20 : L.length ≤ 20 := by rw [← hLe, strS_length]; omega
  have hf : Fits L := by rw [← hLe]; exact strS_fits l
  have HV := Lib.hid hv0
  have HLE := Lib.hid hLe
  clear hv0 hLe
  have ux0 := ub_nonneg x
  have ux1 := ub_lt x
  obtain ⟨len, hlen⟩ : ∃ len, L.length = len := ⟨_, rfl⟩
  rw [hlen] at hL20
  obtain ⟨m, hm, hmx, hmt⟩ := ub_mod x (len + 1) (by omega)
  rw [show ((len + 1 : Nat) : Int) = (len : Int) + 1 by omega] at hmx hmt
  obtain ⟨ra, hra⟩ : ∃ ra, rootS L = ra := ⟨_, rfl⟩
  have HN := Lib.hid hlen
  have HRA := Lib.hid hra
  have P1 : Hid (∀ W v, SSlice W v L → Calls Try.prog 28 #[v, .int .i64 (m : Int)] W (ListO W (pathL L m) (pathO L m))) := fun W v hs => path_own hf (by omega) hs
  have P2 : Hid (∀ W v, SSlice W v L → Calls Try.prog 34 #[v, .int .i64 (m : Int)] W (ListO W (growthS L m) true)) := fun W v hs => growth_own (by omega) hf hs
  have B1 : Hid ((pathL L m).length ≤ 1000) := by
    refine Lib.hid ?_
    unfold pathL
    split
    · have := pathS_len _ L (m : Int).toNat (Nat.le_refl _)
      omega
    · exact Nat.zero_le _
  have B2 : Hid ((growthS L m).length ≤ 1000) := by
    refine Lib.hid ?_
    unfold growthS
    split
    · exact Nat.zero_le _
    · rw [growS_len _ L m true (Nat.le_refl _)]
      have := manyS_64 (m := m) (n := L.length) (whole := true) (by omega)
      omega
  generalize pathL L (m : Int) = PL at *
  generalize pathO L (m : Int) = po at *
  generalize growthS L m = GL at *
  clear hlen hra
  go_enter Try.func12, Try.ntmps12
  go_wp2_with fail
  refine sanity_any.mono ?_
  rintro e w1 ⟨rfl, hb1⟩
  have HV1 := Lib.hid (HV.out.below hb1)
  go_wp2_with fail
  refine (strings_any HV1.out).mono ?_
  rintro e w2 ⟨s, rfl, hs, hb2⟩
  rw [HLE.out] at hs
  have hB2 := hb1.trans (hb2.mono hb1.size)
  have HV2 := Lib.hid (HV1.out.below hb2)
  have hs2 := hs.slice
  obtain ⟨a, cap, hse, c1, c2, -⟩ := sslice_form hs2
  rw [HN.out] at hse c1
  rw [hse] at hs2 ⊢
  have HS := Lib.hid hs2
  clear hs hb1 hb2 hse hs2 HV1
  go_wp2_with fail
  refine (strings_any HV2.out).mono ?_
  rintro e w3 ⟨t, rfl, ht, hb3⟩
  rw [HLE.out] at ht
  have hB3 := hB2.trans (hb3.mono hB2.size)
  have ht3 := ht.slice
  obtain ⟨a', cap', hte, d1, d2, -⟩ := sslice_form ht3
  rw [HN.out] at hte d1
  rw [hte] at ht3 ⊢
  have HS3 := Lib.hid (HS.out.below hb3)
  have HT3 := Lib.hid ht3
  clear ht hb3 hte ht3 HV2 HS hB2
  go_wp2_with fail
  refine (P1.out _ _ HS3.out).mono ?_
  rintro e w4 ⟨p, rfl, hp, hb4⟩
  have HP := Lib.hid hp
  have E4 := Lib.hid hb4
  clear hp P1
  go_wp2_with fail
  refine (P2.out _ _ (HS3.out.below hb4)).mono ?_
  rintro e w5 ⟨q, rfl, hq, hb5⟩
  have HP5 := Lib.hid (HP.out.below hb5)
  have HQ := Lib.hid hq
  have hB5 := hb4.trans (hb5.mono hb4.size)
  have z4 := hb4.size
  have z5 := hb5.size
  clear hq P2 E4 HP hb4 hb5
  obtain ⟨pa, pc, hpe, -⟩ := HP5.out.slice.form
  obtain ⟨qa, qc, hqe, -⟩ := HQ.out.slice.form
  rw [hpe] at HP5 ⊢
  rw [hqe] at HQ ⊢
  clear hpe hqe
  have A1 := Lib.hid (HOwn.made w5 (B := w5.heap.size) (Nat.le_refl _))
  have hb6 := (Below.refl w5.heap.size w5).alloc (Nat.le_refl _) (.cells #[] 24)
  have SP6 := Lib.hid (HP5.out.slice.below hb6)
  have SQ6 := Lib.hid (HQ.out.slice.below hb6)
  have hz6 : w5.heap.size ≤ (w5.alloc (.cells #[] 24)).heap.size := hb6.size
  go_upto_region 7 with (first | (at_builtin; refine wpList_append_any_h rfl (.tmp 42) (.tmp 43) rfl rfl w5.heap.size _ _ [] PL rfl A1.out rfl SP6.out (by have := B1.out; show 0 + _ ≤ _; omega) hz6 ?_; rintro o1 w6 hO1 hg1; obtain ⟨hO1, hb7⟩ := app_own A1.out hb6 hz6 hO1 hg1) | (at_builtin; refine wpList_append_any_h rfl (.tmp 44) (.tmp 45) rfl rfl w5.heap.size _ _ PL GL rfl hO1 rfl (HQ.out.slice.below hb7) (by have := B1.out; have := B2.out; omega) hb7.size ?_; rintro o2 w7 hO2 hg2))
  have hb8 := HOwn.grown_below hO1 hb7 hb7.size hg2
  have z7 := hb8.size
  have BF := Lib.hid hO2.slice
  have C7 := hB5.trans (hb8.mono (by omega))
  clear A1 hb6 SP6 SQ6 hz6 hO1 hg1 hb7 hO2 hg2
  have hb8 := Lib.hid hb8
  have C7 := Lib.hid C7
  go_wp2_with fail
  refine (headof_any (HS3.out.below C7.out) hf).mono ?_
  rintro e w8 ⟨rfl, hb9⟩
  rw [HN.out, HRA.out]
  obtain ⟨v8, hv8, K1, hk8, z8⟩ := head_made w8 (len : Int) ra
  have k1 := K1
  have E8 := Lib.hid (hb9.trans (hk8.mono hb9.size))
  have hb8 := Lib.hid (hb8.out.trans (E8.out.mono z7))
  have C8 := Lib.hid (C7.out.trans (E8.out.mono C7.out.size))
  go_upto_region 8 with (first | (refine wpList_alloc_cs rfl 36 rfl _ Try.infoHead ?_) | (refine wpList_store_head rfl (.tmp 14) (.tmp 48) rfl w8.heap.size (len : Int) 0 ra _ 36 rfl rfl (heap_alloc_new w8 _) ?_))
  rw [hv8]
  have BF := Lib.hid (BF.out.below E8.out)
  clear hv8 hb9 hk8 E8 C7 z8
  generalize w8.heap.size = g14 at *
  have SP := HP5.out.slice.below hb8.out
  have SQ := Lib.hid (HQ.out.slice.below hb8.out)
  have F1 := Lib.hid (fits_any (size := (len : Int)) (n := (m : Int)) (root := ra) (leaf := [120]) (by omega) (by show 1 ≤ 140737488351232; omega) SP)
  clear SP
  go_wp2_with ((with_reducible refine wpList_load_head ?_ (.tmp 14) ?_ g14 ?_ (len : Int) ra k1 ?_); rfl; rfl; rfl)
  refine F1.out.mono ?_
  rintro e w9 ⟨rfl, hb10⟩
  have k2 := k1.below hb10
  have hb9 := Lib.hid (hb8.out.trans (hb10.mono hb8.out.size))
  have C9 := Lib.hid (C8.out.trans (hb10.mono C8.out.size))
  have SQ := SQ.out.below hb10
  have BF := Lib.hid (BF.out.below hb10)
  have HS9 := HS3.out.below C9.out
  generalize rfm : rootS (L.take m) = rm
  have G1 : Hid (∀ e : Ext w9, Calls Try.prog 22 #[.slice a m cap] e.at fun x w' => x = .returned (.agg (hd (m : Int) rm)) ∧ Below e.at.heap.size e.at w') := fun e => by
    have := headof_any (sslice_cut (HS9.below e.below) HN.out m (by omega)) (hf.take m)
    rwa [show (L.take m).length = m by rw [List.length_take, HN.out]; omega, rfm] at this
  obtain ⟨bg, G2⟩ : ∃ b : Bool, ∀ e : Ext w9, Calls Try.prog 32 #[.agg (hd (m : Int) rm), .agg (hd (len : Int) ra), .slice qa GL.length qc] e.at fun x w' => x = .returned (.bool b) ∧ Below e.at.heap.size e.at w' :=
    ⟨_, fun e => grows_any (by omega) (SQ.below e.below)⟩
  have G2 := Lib.hid G2
  have hmc : (m : Int) ≤ (cap : Int) := by omega
  have hm0 : (0 : Int) ≤ (m : Int) := by omega
  clear k1 K1 hb8 C8 hb10 F1 HS9 SQ rfm
  go_wp2_with fail
  refine wp_region_ext (by kernel_rfl) (by kernel_rfl) ?_
  repeat (first | go_big_quiet_step ((first | (go_at_call 22; with_reducible exact ext_call (G1.out _)) | (go_at_call 32; with_reducible exact ext_call (G2.out _)))) | (go_big_quiet_want; ((with_reducible refine quiet_load_head (.tmp 14) ?_ g14 ?_ (len : Int) ra k2 ?_); rfl; rfl); go_simp; go_big_quiet_on))
  refine wpQuiet_nil ?_
  rintro _ ⟨e, rfl⟩
  have hb10 := hb9.out.trans (e.below.mono hb9.out.size)
  have C10 := C9.out.trans (e.below.mono C9.out.size)
  have BF := Lib.hid (BF.out.below e.below)
  clear G1 G2 k2 hb9 C9 hmc hm0
  generalize e.at = w10 at *
  have A1 := Lib.hid (HOwn.made w10 (B := w10.heap.size) (Nat.le_refl _))
  have hb6 := (Below.refl w10.heap.size w10).alloc (Nat.le_refl _) (.cells #[] 24)
  have SP6 := Lib.hid ((HP5.out.slice.below hb10).below hb6)
  have SQ10 := Lib.hid (HQ.out.slice.below hb10)
  have hz6 : w10.heap.size ≤ (w10.alloc (.cells #[] 24)).heap.size := hb6.size
  have hb10 := Lib.hid hb10
  have C10 := Lib.hid C10
  go_wp2_with (first | (at_builtin; refine wpList_append_any_h rfl (.tmp 60) (.tmp 61) rfl rfl w10.heap.size _ _ [] PL rfl A1.out rfl SP6.out (by have := B1.out; show 0 + _ ≤ _; omega) hz6 ?_; rintro o3 w11 hO1 hg1; obtain ⟨hO1, hb7⟩ := app_own A1.out hb6 hz6 hO1 hg1) | (at_builtin; refine wpList_append_any_h rfl (.tmp 62) (.tmp 63) rfl rfl w10.heap.size _ _ PL GL rfl hO1 rfl (SQ10.out.below hb7) (by have := B1.out; have := B2.out; omega) hb7.size ?_; rintro o4 w12 hO2 hg2))
  have hb12 := HOwn.grown_below hO1 hb7 hb7.size hg2
  refine (same_self hO2.slice (BF.out.below hb12)).mono ?_
  rintro e w13 ⟨rfl, hb13⟩
  have E13 := hb12.trans (hb13.mono hb12.size)
  have hb14 := hb10.out.trans (E13.mono hb10.out.size)
  have C13 := C10.out.trans (E13.mono C10.out.size)
  clear A1 hb6 SP6 SQ10 hz6 hO1 hg1 hb7 hO2 hg2 hb12 hb13 E13 BF hb10 C10
  have hb14 := Lib.hid hb14
  have C13 := Lib.hid C13
  go_wp2_with fail
  have K0 := KSt.start (w3 := w3) (w5 := w5) (w := w13) HP5.out HQ.out z4 z5 hb14.out C13.out
  have HC13 := Lib.hid (hB3.trans (C13.out.mono hB3.size))
  generalize w13.heap.size = gx at *
  generalize (w13.alloc (.cells #[.slice pa PL.length pc, .slice qa GL.length qc] 38)) = w14 at *
  generalize PL.length = np at *
  generalize GL.length = nq at *
  clear hb14 C13 HP5 HQ hB5 z4 z5 z7 B1 B2
  have K0 := Lib.hid K0
  go_loopw [72] (fun i wr => ∃ k : Nat, k ≤ 2 ∧ i = .int .i64 k ∧ Hid (KSt w3 gx (.slice pa np pc) (.slice qa nq qc) np nq wr)) (fun i _ => 2 - (intOf i).toNat)
  case atStart => exact ⟨0, by omega, rfl, K0⟩
  case round =>
    clear K0
    obtain ⟨k, hk, rfl, hK⟩ := hrel
    by_cases hlt : k < 2
    · obtain ⟨xa, xn, xc, hx, hsel⟩ : ∃ (xa : Option Addr) (xn xc : Nat), wr.cell? ⟨gx, k, none⟩ = some (.slice xa xn xc) ∧ ∀ W, KSt w3 gx (.slice pa np pc) (.slice qa nq qc) np nq W → Wr W w3.heap.size gx (.slice xa xn xc) xn := by
        rcases (by omega : k = 0 ∨ k = 1) with rfl | rfl
        · exact ⟨pa, np, pc, hK.out.c0, fun W h => h.wp⟩
        · exact ⟨qa, nq, qc, hK.out.c1, fun W h => h.wq⟩
      have HX := Lib.hid hsel
      have hxc : xn ≤ 9223372036854775807 := by
        obtain ⟨_, c, e1, e2, e3, -⟩ := hsel _ hK.out
        omega
      have hk2 : (k : Int) < 2 := by omega
      have hk0 : (0 : Int) ≤ (k : Int) := by omega
      clear hsel
      go_wp2_with fail
      clear hx
      go_loopw [78] (fun i wr => ∃ j : Nat, j ≤ xn ∧ i = .int .i64 j ∧ Hid (KSt w3 gx (.slice pa np pc) (.slice qa nq qc) np nq wr)) (fun i _ => xn - (intOf i).toNat)
      case atStart => exact ⟨0, by omega, rfl, hK⟩
      case round =>
        clear hK
        obtain ⟨j, hj, rfl, hK⟩ := hrel
        by_cases hlj : j < xn
        · obtain ⟨_, c, e1, -, -, e4⟩ := HX.out _ hK.out
          injection e1 with e1 _ _
          obtain ⟨g, rfl, hgB, hgx, hth⟩ := e4 (by omega)
          subst e1
          have t3 := World.there.mid hth hlj
          have hK2 := Lib.hid (hK.out.store (g := g) (o := j * 32) (vs := (arr 32 (U8 (oneF 9))).toList) hgB hgx)
          clear e4 hth
          go_wp2_with (first | ((with_reducible refine wpList_build_is ?_ 24 _ ?_ (arr 32 (U8 (oneF 9))) ?_ ?_); rfl; rfl; exact build_one 9) | ((with_reducible refine wpList_store_mid ?_ 24 (.tmp 84) (.tmp 83) ?_ g (j * 32) (arr 32 (U8 (oneF 9))) ?_ ?_ ?_ ?_ ?_ ?_); rfl; rfl; rfl; rfl; (rw [size_arr]; exact t3); kernel_rfl; exact oneCell_arr 32 (U8 (oneF 9)) (fun _ _ => rfl)))
          go_roundw
          case rel => exact ⟨j + 1, by omega, by omega⟩
          case measure => simp [intOf]; omega
        · have t1 : decide (j < xn) = false := decide_eq_false hlj
          have t2 : decide ((j : Int) < (xn : Int)) = false := decide_eq_false (by omega)
          go_wp2_with fail
          go_roundw
          case rel => exact ⟨k + 1, by omega, by go_num, hK⟩
          case measure => simp [intOf]; omega
    · have t1 : decide (k < 2) = false := decide_eq_false hlt
      have t2 : decide ((k : Int) < 2) = false := decide_eq_false (by omega)
      have hC := Lib.hid hK.out.kept
      clear hK hlt
      go_wp2_with fail
      clear t1 t2
      go_loopw [89] (fun i wr => ∃ k : Nat, k ≤ len ∧ i = .int .i64 k ∧ Hid (Below w3.heap.size w3 wr)) (fun i _ => len - (intOf i).toNat)
      case atStart => exact ⟨0, by omega, rfl, hC⟩
      case round =>
        clear hC
        obtain ⟨k, hk, rfl, hC⟩ := hrel
        by_cases hlt : k < len
        · obtain ⟨b, off, ha, hrow⟩ : ∃ b off : Nat, a = some ⟨b, off, none⟩ ∧ SRow wr b off L := by
            obtain ⟨a1, c1, h1, -, -, h4⟩ := sslice_form (HS3.out.below hC.out)
            injection h1 with h1 _ _
            obtain ⟨b, off, h5, h6⟩ := h4 (by rw [HN.out]; omega)
            exact ⟨b, off, h1.trans h5, h6⟩
          obtain ⟨b', off', ha', hrow'⟩ : ∃ b off : Nat, a' = some ⟨b, off, none⟩ ∧ SRow wr b off L := by
            obtain ⟨a1, c1, h1, -, -, h4⟩ := sslice_form (HT3.out.below hC.out)
            injection h1 with h1 _ _
            obtain ⟨b, off, h5, h6⟩ := h4 (by rw [HN.out]; omega)
            exact ⟨b, off, h1.trans h5, h6⟩
          have hx := ext_cell (hrow k (by rw [HN.out]; exact hlt))
          have hy := ext_cell (hrow' k (by rw [HN.out]; exact hlt))
          obtain ⟨y, hyy⟩ : ∃ y, L.getD k [] = y := ⟨_, rfl⟩
          rw [hyy] at hx hy
          subst ha
          subst ha'
          have hkl : (k : Int) < (len : Int) := by omega
          have hk0 : (0 : Int) ≤ (k : Int) := by omega
          clear hrow hrow' hyy
          go_wp2_with fail
          refine wp_region_ext (by kernel_rfl) (by kernel_rfl) ?_
          repeat (first | go_big_quiet_step (fail))
          refine wpQuiet_nil ?_
          rintro _ ⟨e, rfl⟩
          have hC2 := Lib.hid (hC.out.trans (e.below.mono hC.out.size))
          clear hx hy
          go_wp2_with fail
          go_roundw
          case rel => exact ⟨k + 1, by omega, by go_num, hC2⟩
          case measure => simp [intOf]; omega
        · have t1 : decide (k < len) = false := decide_eq_false hlt
          have t2 : decide ((k : Int) < (len : Int)) = false := decide_eq_false (by omega)
          have S1 := Lib.hid (HS3.out.below hC.out)
          have S2 := Lib.hid (HT3.out.below hC.out)
          have hB := hB3.trans (hC.out.mono hB3.size)
          have R1 : Hid (∀ W v, SSlice W v L → Calls Try.prog 16 #[v] W fun e w' => e = .returned (.agg (arr 32 (U8 ra))) ∧ Below W.heap.size W w') := fun W v h => by rw [← HRA.out]; exact root_any h hf
          clear hC
          go_wp2_with fail
          refine (R1.out _ _ S1.out).mono ?_
          rintro e v1 ⟨rfl, hv1⟩
          have S2 := Lib.hid (S2.out.below hv1)
          have hB := hB.trans (hv1.mono hB.size)
          clear S1 hv1
          go_wp2_with fail
          refine (R1.out _ _ S2.out).mono ?_
          rintro e v2 ⟨rfl, hv2⟩
          have hB := hB.trans (hv2.mono hB.size)
          have t3 : decide (hl ra 32 = hl ra 32) = true := decide_eq_true rfl
          go_wp2_with fail
          go_ret
          exact ⟨rfl, hB⟩

set_option maxRecDepth 100000 in
theorem keeps_lifted (os : Os) (started : os.Started) (H : Type) (enc : TypeId × Value → H) :
    ReturnsInHanded {} Try.checked os 12 .any (Rows.treeKeepsSpec.pre6 enc Try.prog Try.f12 Rows.treeKeepsRow.domain false) (Rows.treeKeepsSpec.post enc Try.prog Try.f12 false true false false) := by
  refine returnsInHanded_of_change (C := Try.checked) own started (by kernel_rfl) Try.func12
    (ChangeSpec.witness6 (enc := enc) (C := Try.checked) false ⟨#[], #[.slice none 0 0, .int .u8 0], []⟩ 8 (by kernel_rfl) (by kernel_rfl) (by kernel_rfl) (by kernel_rfl)) ?_
  intro W base args ds gs before hval0 hW hcnd _
  have hval : ∀ (j : Nat) t v, Try.f12.params[j]? = some t → args[j]? = some v → Value.okWide Try.prog W .any base t v := hval0
  obtain ⟨p, q, hA0, hV, -, -, -⟩ := id hW
  have hA : DataW.TrodAll enc Try.prog W 0 (fun _ => true) true Try.f12.params.toList args.toList ds p := hA0
  rw [Try.params12] at hA hval
  obtain ⟨v0, vs0, d0, ds0, p0, q0, hargs, rfl, rfl, h0, r0⟩ := trodAll_cons hA
  obtain ⟨v1, vs1, d1, ds1, p1, q1, rfl, rfl, rfl, h1, r1⟩ := trodAll_cons r0
  obtain ⟨rfl, rfl, rfl⟩ := trodAll_nil r1
  obtain rfl : args = #[v0, v1] := by cases args; simp_all
  obtain ⟨rfl, -⟩ := trodVars_none hV
  obtain ⟨a0, hs0⟩ := open_bslice Try.underlying30 Try.underlying5 (by kernel_rfl) (hval 0 30 v0 rfl rfl) h0
  obtain ⟨a1, rfl⟩ := open_u8 Try.underlying5 (hval 1 5 v1 rfl rfl)
  refine (keeps_walk hs0 _).mono fun e W' ⟨he, hg⟩ => ?_
  subst he
  exact ⟨_, rfl, law_post (tb := 4) laidOut (by decide +kernel) rfl Try.underlying4 rfl hW rfl hg⟩

theorem keeps_proved : Rows.TreeKeepsSaid :=
  OpenClaim.holds_of_wide 12 Try.f12 rfl rfl rfl rfl rfl rfl rfl ⟨rfl, rfl, rfl, rfl, rfl⟩ rfl rfl rfl rfl rfl (by kernel_rfl) Try.func12 (by kernel_rfl)
    (of_decide_eq_true (by kernel_rfl)) (by unfold Func.isWrapper; first | (rw [if_pos (by decide +kernel)]; kernel_rfl) | (rw [if_neg (by decide +kernel)]; exact ⟨rfl, rfl⟩))
    (fun os started H enc _ => keeps_lifted os started H enc)
#print axioms keeps_proved

end Go.Proofs.Ytijhdfllffkfjaa
