/- A slice of hashes that came in; a head told by its cells. No step of the program here. -/
import Derived.Test.YtijhdfllffkfjaaTrZ
import Derived.Deep.Slices
namespace Go.Proofs.Ytijhdfllffkfjaa
open Go.ChangeShapes Go.WideShapes Go.ChangeAt Go.RowKit Go.Deep

theorem open_hslice {H : Type} {enc : TypeId × Value → H} {P : Program} {W : World} {t e u : TypeId} {v : Value} {d : DataW H} {p : List MemPlace} {r : Reach} {b0 : Nat} (ht : P.underlying t = some (.slice e)) (he : P.underlying e = some (.array 32 u)) (hu : P.underlying u = some (.int .u8)) (hce : P.cellsOf e = 32) (hcu : P.cellsOf u = 1)
    (hval : Value.okWide P W r b0 t v) (h : DataW.Trod enc P W 0 (fun _ => true) true t v d p) : ∃ K, HSlice W v K := by
  obtain ⟨a, n, cap, rfl⟩ := okWide_slice ht hval
  obtain ⟨fuel, hf⟩ := h
  rcases open_slice ht hf with ⟨hcs, hx⟩ | ⟨a', len, cap', m, nn, D, Pl, hcs, _, hl, hm, hmm, hx, hel⟩
  · simp [Value.cells] at hcs
    obtain ⟨rfl, rfl, rfl⟩ := hcs
    exact ⟨[], .inl ⟨Empty.nil, rfl⟩⟩
  · simp [Value.cells] at hcs
    obtain ⟨rfl, rfl, rfl⟩ := hcs
    simp only [if_true] at hmm
    have key : ∀ i, i < n → ∃ f : HF, ∀ j, j < 32 → W.cell? ((a'.add (i * 32)).add j) = some (.int .u8 (ub (f j))) := by
      intro i hi
      obtain ⟨cs', h1, h2⟩ := hel i (by omega)
      rw [hce] at h1
      obtain ⟨_, hlen, hcell⟩ := World.cells?_some h1
      obtain ⟨xs, k, _, _, hcl, hxl, hg⟩ := DataW.trod_array he h2
      have hex : ∀ j, j < 32 → ∃ x : UInt8, W.cell? ((a'.add (i * 32)).add j) = some (.int .u8 (ub x)) := by
        intro j hj
        have hgj := hg j hj
        rw [hcu, Nat.mul_one, List.getElem?_eq_getElem (by omega)] at hgj
        obtain ⟨y, hy, -, hw⟩ := DataW.trod_int hu hgj
        obtain ⟨w0, w1⟩ := wf_u8 hw
        have hc := hcell j (by omega)
        have e : cs'[j]? = some (.int .u8 y) := by
          have h3 : (List.take 1 (List.drop j cs'))[0]? = some (.int .u8 y) := by rw [hy]; rfl
          rw [List.getElem?_take_of_lt (by omega), List.getElem?_drop, Nat.add_zero] at h3
          exact h3
        refine ⟨UInt8.ofNat y.toNat, ?_⟩
        rw [hc]
        simp only [e]
        unfold ub
        congr 2
        simp
        omega
      exact ⟨fun j => if h : j < 32 then (hex j h).choose else 0, fun j hj => by
        have := (hex j hj).choose_spec
        simp only [dif_pos hj]
        exact this⟩
    by_cases hp : 0 < n
    · obtain ⟨ab, ao, spot⟩ := a'
      have hspot : spot = none := by
        obtain ⟨f, hf0⟩ := key 0 hp
        have := hf0 0 (by omega)
        simpa [Addr.add] using World.cell?_spot this
      subst hspot
      obtain ⟨F, hF⟩ := choose_lt key
      have hlen : ((List.range n).map F).length = n := by simp
      refine ⟨(List.range n).map F, .inr ⟨ab, ao, cap, by rw [hlen], HR.mk' fun i hi => ?_, by rw [hlen]; exact hl, by unfold maxLen at hm; omega⟩⟩
      rw [hlen] at hi
      have hgi : ((List.range n).map F).getD i (fun _ => 0) = F i := by
        rw [List.getD_eq_getElem?_getD, List.getElem?_map, List.getElem?_range hi]; rfl
      rw [hgi]
      intro j q hq
      have hj : j < 32 := by have := (List.getElem?_eq_some_iff.1 hq).1; rwa [hc_length] at this
      rw [hc_get _ j hj] at hq
      have := hF i hi j hj
      rw [add_add, Addr.add_mid] at this
      rw [← hq, show ao + i * 32 + j = ao + (i * 32 + j) by omega, this]
      rfl
    · obtain rfl : n = 0 := by omega
      exact ⟨[], .inl ⟨⟨_, _, rfl, by unfold maxLen at hm; omega⟩, rfl⟩⟩
theorem open_two64 {P : Program} {w : World} {r : Reach} {b0 : Nat} {t e : TypeId} {v : Value} (ht : P.underlying t = some (.array 2 e)) (he : P.underlying e = some (.int .i64)) (hc : P.cellsOf t = 2) (hk : P.cellTypes P.depth t = some [e, e])
    (hval : Value.okWide P w r b0 t v) : ∃ a b : Int, v = .agg #[.int .i64 a, .int .i64 b] ∧ In64 a ∧ In64 b := by
  obtain ⟨f, rfl, h⟩ := open_nums ht he hc hk hval
  exact ⟨f 0, f 1, rfl, has64 (h 0 (by omega)), has64 (h 1 (by omega))⟩
/-- a head, by its cells -/
structure HdAt (w : World) (g : Nat) (n : Int) (f : HF) : Prop where
  size : w.cell? ⟨g, 0, none⟩ = some (.int .i64 n)
  root : w.rangeAt g 1 (hc f)
  there : w.there g 0 33
section
variable {w w' : World} {g : Nat} {n m : Int} {f f' : HF}
theorem HeadAt.told (h : HeadAt w g n f) : HdAt w g n f := by
  refine ⟨h.size, h.root, fun j hj => ?_⟩
  obtain ⟨t, h⟩ := h
  rw [Nat.zero_add]
  refine ⟨?_, frozen_of_row w g j _ t h⟩
  rw [cell_of_row w g j _ t (0, 0) h]
  have := hd_size n f
  simp [this, hj]
theorem HdAt.lt (h : HdAt w g n f) : g < w.heap.size := range_lt h.root
theorem HdAt.at_ {B : Nat} (h : HdAt w g n f) (hb : Below B w w') (hB : g < B) : HdAt w' g n f :=
  ⟨by rw [hb.cell (p := ⟨g, 0, none⟩) hB]; exact h.size, range_below h.root hb hB, fun j hj => by
    rw [hb.cell (p := ⟨g, 0 + j, none⟩) hB, hb.frozen (p := ⟨g, 0 + j, none⟩) hB]; exact h.there j hj⟩
theorem HdAt.below (h : HdAt w g n f) (hb : Below w.heap.size w w') : HdAt w' g n f := h.at_ hb h.lt
theorem HdAt.set (h : HdAt w g n f) (f' : HF) : HdAt (w.setCells g 1 (hc f')) g n f' := by
  have ht : w.there g 1 32 := fun j hj => by have := h.there (1 + j) (by omega); rwa [Nat.zero_add] at this
  refine ⟨?_, World.rangeAt_setCells_same w g 1 (hc f') (by rw [hc_length]; exact ht), World.there_setCells h.there g 1 _⟩
  rw [World.cell?_setCells_out _ _ _ _ _ (fun _ _ => .inl (by show 0 < 1; omega))]
  exact h.size
theorem HdAt.far {g' o : Nat} {vs : List Value} (h : HdAt w g n f) (hg : g ≠ g') : HdAt (w.setCells g' o vs) g n f :=
  ⟨by rw [World.cell?_setCells_out _ _ _ _ _ (fun e _ => absurd e hg)]; exact h.size, World.rangeAt_setCells_apart h.root g' o vs (.inl hg), World.there_setCells h.there g' o vs⟩
theorem HdAt.range (h : HdAt w g n f) : w.rangeAt g 0 (hd n f).toList := fun j v hv => by
  rw [Nat.zero_add]
  cases j with
  | zero =>
    rw [Array.getElem?_toList, hd_0] at hv
    rw [← hv]; exact h.size
  | succ j =>
    have hj : j < 32 := by
      have := (List.getElem?_eq_some_iff.1 hv).1
      rw [Array.length_toList, hd_size] at this
      omega
    rw [Array.getElem?_toList, show j + 1 = 1 + j by omega, hd_root _ _ _ hj] at hv
    rw [show j + 1 = 1 + j by omega, h.root j _ (hc_get f j hj), hv]
theorem load_hdAt (h : HdAt w g n f) : (Instr.loadAt 36 (.pointer (some ⟨g, 0, none⟩))).run Try.prog w = .ok (.agg (hd n f)) w := by
  have := run_loadAt_mid (P := Try.prog) w g 0 36 (hd n f).toList _ h.range Try.underlying36 rfl (by rw [Array.length_toList, hd_size]; kernel_rfl)
  rw [this]
theorem quiet_load_hdAt {o : Oper} {a : Act} {K : Act → Prop} (x : Operand) (ho : o.op = .load 36 x) (b : Nat) (hx : a.eval x = .pointer (some ⟨b, 0, none⟩)) (n : Int) (f : HF) (hr : HdAt w b n f)
    (h : K (a.put o.dst (.agg (hd n f)))) : o.quiet Try.prog a (fun w' => ∃ e : Ext w, w' = e.at) K := by
  refine ⟨_, ?_, h⟩
  rintro w' ⟨ex, rfl⟩
  unfold Oper.quietAt execOp
  simp only [ho, hx, Sem.run_bind, load_hdAt (hr.below ex.below), Sem.run_pure]
  exact ⟨rfl, rfl⟩
end
theorem hslice_cut {w : World} {a : Option Addr} {n cap : Nat} {K : List HF} (h : HSlice w (.slice a n cap) K) (hn : K.length = n) (k : Nat) (hk : k ≤ n) : HSlice w (.slice a k cap) (K.take k) := by
  have hl : (K.take k).length = k := by rw [List.length_take]; omega
  rcases h with ⟨⟨ea, ecap, he, eh⟩, rfl⟩ | ⟨b, off, c, he, h2, h3, h4⟩
  · injection he with e1 e2 e3
    subst e1 e2 e3
    have : k = 0 := by omega
    subst this
    exact .inl ⟨⟨a, cap, rfl, eh⟩, by simp⟩
  · injection he with e1 e2 e3
    subst e1 e2 e3
    exact .inr ⟨b, off, cap, by rw [hl], h2.take k, by omega, h4⟩
end Go.Proofs.Ytijhdfllffkfjaa
