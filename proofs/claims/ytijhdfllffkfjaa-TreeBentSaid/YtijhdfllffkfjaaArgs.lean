/- Slices that came in. No step of the program here. -/
import Derived.Test.YtijhdfllffkfjaaTrK
import Derived.Test.YtijhdfllffkfjaaOpen
import Derived.ChangeSlices
import Derived.SliceStrings
import Derived.SizedLaws
namespace Go.Proofs.Ytijhdfllffkfjaa
open Go.ChangeShapes Go.WideShapes Go.ChangeAt Go.RowKit

section
variable {H : Type} {enc : TypeId × Value → H} {P : Program} {W : World}
theorem wf_u8 {n : Int} (h : (Lit.int .u8 n).wf = true) : 0 ≤ n ∧ n < 256 := by
  simp [Lit.wf, IntKind.min, IntKind.max, IntKind.signed, IntKind.bits] at h
  omega
theorem open_bslice {t e : TypeId} {v : Value} {d : DataW H} {p : List MemPlace} {r : Reach} {b0 : Nat} (ht : P.underlying t = some (.slice e)) (he : P.underlying e = some (.int .u8)) (hc : P.cellsOf e = 1)
    (hval : Value.okWide P W r b0 t v) (h : DataW.Trod enc P W 0 (fun _ => true) true t v d p) : ∃ l, BSlice W v l := by
  obtain ⟨a, n, cap, rfl⟩ := okWide_slice ht hval
  obtain ⟨fuel, hf⟩ := h
  rcases open_ints ht he hc hf with ⟨hcs, hx⟩ | ⟨a', len, cap', zs, hcs, _, hl, hm, hz, hx, hcell, hwz⟩
  · simp [Value.cells] at hcs
    obtain ⟨rfl, rfl, rfl⟩ := hcs
    exact ⟨[], none, 0, rfl, Nat.le_refl _, by omega, fun h => by simp at h⟩
  · simp [Value.cells] at hcs
    obtain ⟨rfl, rfl, rfl⟩ := hcs
    simp only [if_true] at hz
    have hlen : ((zs.take n).map fun x => UInt8.ofNat x.toNat).length = n := by simp; omega
    refine ⟨(zs.take n).map fun x => UInt8.ofNat x.toNat, some a', cap, by rw [hlen], by rw [hlen]; exact hl, by unfold maxLen at hm; omega, fun hp => ?_⟩
    rw [hlen] at hp
    obtain ⟨ab, ao, spot⟩ := a'
    have hspot : spot = none := by simpa [Addr.add] using World.cell?_spot (hcell 0 (by omega))
    subst hspot
    have h0 := hcell 0 (by omega)
    rw [Addr.add_lit] at h0
    have hlt : ab < W.heap.size := by
      rcases Nat.lt_or_ge ab W.heap.size with h' | h'
      · exact h'
      · simp [World.cell?, Array.getElem?_eq_none h'] at h0
    refine ⟨ab, ao, rfl, hlt, fun j hj => ?_⟩
    rw [hlen] at hj
    have hcj := hcell j (by omega)
    rw [Addr.add_lit] at hcj
    have hg : zs.getD j 0 = zs[j]'(by omega) := by rw [List.getD_eq_getElem?_getD, List.getElem?_eq_getElem (by omega)]; rfl
    obtain ⟨r0, r1⟩ := wf_u8 (hwz (zs[j]'(by omega)) (List.getElem_mem _))
    rw [hcj, hg, List.getD_eq_getElem?_getD, List.getElem?_map, List.getElem?_take_of_lt hj, List.getElem?_eq_getElem (by omega)]
    simp only [Option.map_some, Option.getD_some]
    generalize zs[j]'(by omega) = x at *
    unfold ub
    congr 2
    simp
    omega
theorem weightsAll_mem {P : Program} {e : TypeId} : ∀ {l : List (DataW H)} {d : DataW H} {n : Nat}, d ∈ l → n ∈ d.weights P e → n ∈ DataW.weightsAll P e l
  | [], _, _, h, _ => by cases h
  | x :: l, d, n, h, hn => by
    simp only [DataW.weightsAll, List.mem_append]
    rcases List.mem_cons.1 h with rfl | h
    · exact .inl hn
    · exact .inr (weightsAll_mem h hn)
theorem open_sslice {ts : List TypeId} {ds : List (DataW H)} {j : Nat} {t e : TypeId} {v : Value} {d : DataW H} {p : List MemPlace} {r : Reach} {b0 : Nat} (hsz : (DataW.weightsEach P ts ds).all (· ≤ reachBytes) = true) (htj : ts[j]? = some t) (hdj : ds[j]? = some d)
    (ht : P.underlying t = some (.slice e)) (he : P.underlying e = some .string) (hc : P.cellsOf e = 1) (hval : Value.okWide P W r b0 t v) (h : DataW.Trod enc P W 0 (fun _ => true) true t v d p) : ∃ L, SSlice W v L ∧ Fits L := by
  obtain ⟨a, n, cap, rfl⟩ := okWide_slice ht hval
  obtain ⟨fuel, hf⟩ := h
  rcases open_strings ht he hc hf with ⟨hcs, hx⟩ | ⟨a', len, cap', ss, hcs, _, hl, hm, hz, hx, hcell, hws⟩
  · simp [Value.cells] at hcs
    obtain ⟨rfl, rfl, rfl⟩ := hcs
    exact ⟨[], .inl ⟨Empty.nil, rfl⟩, fun s hs => by cases hs⟩
  · simp [Value.cells] at hcs
    obtain ⟨rfl, rfl, rfl⟩ := hcs
    simp only [if_true] at hz
    simp only [Prod.mk.injEq] at hx
    obtain ⟨rfl, rfl⟩ := hx
    have hlen : ((ss.take n).map fun s => s.data.toList).length = n := by simp; omega
    refine ⟨(ss.take n).map fun s => s.data.toList, ?_, fun x hx => ?_⟩
    · by_cases hp : 0 < ss.length
      · obtain ⟨ab, ao, spot⟩ := a'
        have hspot : spot = none := by simpa [Addr.add] using World.cell?_spot (hcell 0 hp)
        subst hspot
        refine .inr ⟨ab, ao, cap, by rw [hlen], fun i hi => ?_, by rw [hlen]; exact hl, by unfold maxLen at hm; omega⟩
        rw [hlen] at hi
        have hci := hcell i (by omega)
        rw [Addr.add_lit] at hci
        rw [hci, List.getD_eq_getElem?_getD, List.getD_eq_getElem?_getD, List.getElem?_map, List.getElem?_take_of_lt hi, List.getElem?_eq_getElem (by omega)]
        simp only [Option.map_some, Option.getD_some]
        rw [← bs_of (ss[i]'(by omega))]
      · obtain rfl : n = 0 := by omega
        exact .inl ⟨⟨_, _, rfl, by unfold maxLen at hm; omega⟩, by simp⟩
    · obtain ⟨s, hs, rfl⟩ := List.mem_map.1 hx
      have hmem : DataW.lit (Lit.string s.data.toList) ∈ strs (H := H) (ss.take n) := by
        unfold strs
        exact List.mem_map.2 ⟨s, hs, rfl⟩
      have := List.all_eq_true.1 hsz _ (DataW.weights_mem_each htj hdj s.data.toList.length (by
        simp only [DataW.weights, ht]
        exact List.mem_cons_of_mem _ (List.mem_append_left _ (weightsAll_mem hmem (by simp [DataW.weights])))))
      have := of_decide_eq_true this
      simpa [reachBytes] using this
end
end Go.Proofs.Ytijhdfllffkfjaa
