/- append, of any source, onto a row of the call's own (elements of one cell); a conversion's row is such a row too. -/
import Derived.Test.YtijhdfllffkfjaaMem2
import Derived.Lib.AppendZeros
import Derived.Lib.ConvBytes
namespace Go.Proofs.Ytijhdfllffkfjaa
open Go.RowKit

/-- the slice value v owns the cells xs, in a block from base on -/
def Own (w : World) (base : Nat) (e : TypeId) (v : Value) (xs : List Value) : Prop :=
  (v = .slice none 0 0 ∧ xs = []) ∨ ∃ g cap cur fr, v = .slice (some ⟨g, 0, none⟩) xs.length cap ∧ base ≤ g ∧ w.heap[g]? = some (.cells cur e fr) ∧ xs.length ≤ cap ∧ cap ≤ maxLen ∧ cur.size = cap ∧
    cur.toList.take xs.length = xs ∧ ∀ j, j < cap → ¬ (fr.1 ≤ j ∧ j < fr.2)
section
variable {w w' : World} {base : Nat} {e : TypeId} {v : Value} {xs : List Value}
theorem Own.none_ : Own w base e (.slice none 0 0) [] := .inl ⟨rfl, rfl⟩
theorem Own.of_block (h : Own w base e v xs) (hb : ∀ g, v.ownBlock = some g → w'.heap[g]? = w.heap[g]?) : Own w' base e v xs := by
  rcases h with h | ⟨g, cap, cur, fr, rfl, h1, h2, h3⟩
  · exact .inl h
  · exact .inr ⟨g, cap, cur, fr, rfl, h1, (hb g rfl).trans h2, h3⟩
theorem Own.mono {base' : Nat} (h : Own w base e v xs) (hb : base' ≤ base) : Own w base' e v xs := by
  rcases h with h | ⟨g, cap, cur, fr, rfl, h1, h2⟩
  · exact .inl h
  · exact .inr ⟨g, cap, cur, fr, rfl, Nat.le_trans hb h1, h2⟩
theorem Own.lt (h : Own w base e v xs) : ∀ g, v.ownBlock = some g → base ≤ g ∧ g < w.heap.size := by
  intro g hg
  rcases h with ⟨rfl, _⟩ | ⟨g', cap, cur, fr, rfl, h1, h2, _⟩
  · simp [Value.ownBlock] at hg
  · simp [Value.ownBlock] at hg
    subst hg
    exact ⟨h1, (Array.getElem?_eq_some_iff.1 h2).1⟩
theorem Own.below (h : Own w base e v xs) (hb : Below w.heap.size w w') : Own w' base e v xs := h.of_block fun g hg => hb.block g (h.lt g hg).2
theorem Own.alloc (h : Own w base e v xs) (o : Obj) : Own (w.alloc o) base e v xs := h.of_block fun g hg => Below.heap_alloc w o g (h.lt g hg).2
theorem Own.drew (h : Own w base e v xs) : Own w.drew base e v xs := h
theorem Own.drewN (h : Own w base e v xs) (n : Nat) : Own (w.drewN n) base e v xs := h
theorem Own.grown {r : Option Nat} (h : Own w base e v xs) (hg : w.grownBy w' r) (hne : v.ownBlock = none ∨ v.ownBlock ≠ r) : Own w' base e v xs := h.of_block fun g hb => hg.block g (h.lt g hb).2 (by
  rcases hne with hn | hn
  · rw [hn] at hb; cases hb
  · rw [← hb]; exact hn)
theorem Own.len (h : Own w base e v xs) : ∃ a c, v = .slice a xs.length c ∧ c ≤ maxLen := by
  rcases h with ⟨rfl, rfl⟩ | ⟨g, cap, cur, fr, rfl, _, _, _, hc, _⟩
  · exact ⟨none, 0, rfl, by simp [maxLen]⟩
  · exact ⟨_, _, rfl, hc⟩
/-- where there is an element: the block, and its cells -/
theorem Own.form (h : Own w base e v xs) (hx : 0 < xs.length) : ∃ g cap, v = .slice (some ⟨g, 0, none⟩) xs.length cap ∧ base ≤ g ∧ g < w.heap.size ∧ xs.length ≤ cap ∧ cap ≤ maxLen ∧ (∀ j u, xs[j]? = some u → w.cell? ⟨g, j, none⟩ = some u) ∧ (∀ j, j < cap → w.frozen? ⟨g, j, none⟩ = false) := by
  rcases h with ⟨rfl, rfl⟩ | ⟨g, cap, cur, fr, rfl, h1, h2, h3, h4, h5, h6, h7⟩
  · simp at hx
  · refine ⟨g, cap, rfl, h1, (Array.getElem?_eq_some_iff.1 h2).1, h3, h4, fun j u hu => ?_, fun j hj => ?_⟩
    · rw [cell_of_row w g j cur e fr h2]
      rw [← h6, List.getElem?_take] at hu
      split at hu
      · simpa using hu
      · cases hu
    · have := h7 j hj
      obtain ⟨lo, hi⟩ := fr
      simp only [World.frozen?, h2]
      by_cases a : lo ≤ j <;> by_cases b : j < hi <;> simp_all
end
theorem run_storeCells_fr (P : Program) (g o : Nat) (t : TypeId) (fr : Nat × Nat) : ∀ (vs : List Value) (i : Nat) (cur : Array Value) (w : World), w.heap[g]? = some (.cells cur t fr) → (∀ j, j < cur.size → ¬ (fr.1 ≤ j ∧ j < fr.2)) → o + i + vs.length ≤ cur.size → (∀ v ∈ vs, v.oneCell' = true) →
    (storeCells ⟨g, o, none⟩ vs i).run P w = .ok () (w.setRow g (cur.toList.take (o + i) ++ vs ++ cur.toList.drop (o + i + vs.length)).toArray)
  | [], i, cur, w, hg, _, _, _ => by
    simp only [storeCells, List.append_nil, List.length_nil, Nat.add_zero, List.take_append_drop, Array.toArray_toList]
    rw [setRow_self w g cur t fr hg]
    rfl
  | v :: rest, i, cur, w, hg, hfr, hl, h1 => by
    have hi : o + i < cur.size := by simp at hl; omega
    have hadd : (⟨g, o, none⟩ : Addr).add i = ⟨g, o + i, none⟩ := by unfold Addr.add; split <;> simp_all
    have hcell : w.cell? ⟨g, o + i, none⟩ = some cur[o + i] := by simp [World.cell?, hg, hi]
    have hfro : w.frozen? ⟨g, o + i, none⟩ = false := by
      have := hfr (o + i) hi
      obtain ⟨lo, h⟩ := fr
      simp only [World.frozen?, hg]
      by_cases a : lo ≤ o + i <;> by_cases b : o + i < h <;> simp_all
    have hst : (store ((⟨g, o, none⟩ : Addr).add i) v).run P w = .ok () (w.setRow g (cur.setIfInBounds (o + i) v)) := by
      rw [hadd, run_store P w _ v _ (h1 v (by simp)), hcell]
      simp [hfro, setCell_eq_setRow w g (o + i) cur t fr v hg]
    have ih := run_storeCells_fr P g o t fr rest (i + 1) (cur.setIfInBounds (o + i) v) (w.setRow g (cur.setIfInBounds (o + i) v)) (setRow_heap w g cur _ t _ hg) (by simpa using hfr) (by simp at hl ⊢; omega) (fun x hx => h1 x (by simp [hx]))
    simp only [storeCells, Sem.run_bind, hst, Result.andThen_ok, ih, setRow_setRow]
    congr 3
    have e := list_seg_step cur.toList (o + i) v rest (by simp at hl ⊢; omega)
    simpa [Array.toList_setIfInBounds, Nat.add_assoc] using e

/-- the row behind an append in room -/
theorem own_room {w : World} {base : Nat} {e : TypeId} {g cap : Nat} {cur : Array Value} {fr : Nat × Nat} {xs news : List Value} (hb : base ≤ g) (hg : w.heap[g]? = some (.cells cur e fr)) (hcs : cur.size = cap) (hcm : cap ≤ maxLen)
    (hroom : xs.length + news.length ≤ cap) (htake : cur.toList.take xs.length = xs) (hfr : ∀ j, j < cap → ¬ (fr.1 ≤ j ∧ j < fr.2)) :
    Own (w.setRow g (cur.toList.take xs.length ++ news ++ cur.toList.drop (xs.length + news.length)).toArray) base e (.slice (some ⟨g, 0, none⟩) (xs.length + news.length) cap) (xs ++ news) := by
  refine .inr ⟨g, cap, _, fr, by simp, hb, setRow_heap w g cur _ e fr hg, by simpa using hroom, hcm, ?_, ?_, hfr⟩
  · simp only [List.size_toArray, List.length_append, List.length_take, List.length_drop, Array.length_toList]
    omega
  · rw [htake]
    exact List.take_left
/-- the row behind an append that grows -/
theorem own_grow {w : World} {base : Nat} {e : TypeId} {z : Value} {xs news : List Value} (c : Nat) (hb : base ≤ w.heap.size) (hz : z.cells.size = 1) (hc : xs.length + news.length ≤ c) (hcm : c ≤ maxLen) :
    Own (w.drew.alloc (.cells (xs.toArray ++ news.toArray ++ Builtin.zeroCells z.cells (c - (xs.length + news.length))) e)) base e (.slice (some ⟨w.heap.size, 0, none⟩) (xs.length + news.length) c) (xs ++ news) := by
  refine .inr ⟨w.heap.size, c, _, (0, 0), by simp, hb, heap_alloc_new w.drew _, by simpa using hc, hcm, ?_, ?_, fun j _ h => by simp at h⟩
  · simp only [Array.size_append, List.size_toArray, size_zeroCells, hz]; omega
  · simp only [Array.toList_append, List.append_assoc]
    rw [← List.append_assoc]
    exact List.take_left
section
variable {P : Program} (w : World)
theorem run_append_src (base : Nat) (t tx ty e : TypeId) (i : TypeInfo) (z : Value) (bytes : Nat) (ex : TypeId) (ht : P.underlying t = some (.slice e)) (hx : P.underlying tx = some (.slice ex) ∨ P.underlying tx = some .string)
    (hi : P.info? e = some i) (hz : i.zero = some z) (hsize : i.size = 1) (hby : i.bytes = bytes) (hzs : z.cells.size = 1)
    (v : Value) (xs : List Value) (hown : Own w base e v xs) (x : Value) (news : List Value)
    (hlen : ∀ W, (Builtin.lenOf x).run P W = .ok news.length W) (hsrc : ∀ W : World, W.heap = w.heap → (Builtin.firstCells 1 news.length x).run P W = .ok news.toArray W) (h1 : ∀ u ∈ news, u.oneCell' = true)
    (h63 : xs.length + news.length ≤ maxLen) (hbytes : (xs.length + news.length) * bytes ≤ 140737488355328) (hbase : base ≤ w.heap.size) :
    ∃ v' w', (Builtin.append_ #[t, tx] ty #[v, x]).run P w = .ok v' w' ∧ Own w' base e v' (xs ++ news) ∧ w.grownBy w' v.ownBlock ∧ (v'.ownBlock = v.ownBlock ∨ v'.ownBlock = some w.heap.size) := by
  subst hby
  have hsmall : xs.length + news.length ≤ 9223372036854775807 := by simp only [maxLen] at h63; omega
  have hs0 := hsrc w rfl
  have hs1 := hsrc w.drew rfl
  have hcm := grownCap_le_maxLen w (xs.length + news.length)
  have hgrow : ∀ (old : Nat) (row : Option Nat), w.grownBy (w.drew.alloc (.cells (xs.toArray ++ news.toArray ++ Builtin.zeroCells z.cells (grownCap w (xs.length + news.length) old e - (xs.length + news.length))) e)) row :=
    fun old row => ⟨rfl, rfl, rfl, by simp, fun k hk _ => Below.heap_alloc w.drew _ k hk⟩
  rcases hown with ⟨rfl, rfl⟩ | ⟨g, cap, cur, fr, rfl, hbg, hg, hnc, hcap, hcs, htake, hfr⟩
  · by_cases hm : news.length = 0
    · have hn : news = [] := List.eq_nil_of_length_eq_zero hm
      subst hn
      refine ⟨.slice none 0 0, w, ?_, Own.none_, grown_refl _ _, .inl rfl⟩
      simp only [List.length_nil] at hlen hs0
      rcases hx with hx | hx <;> simp [Builtin.append_, run_underlying ht, run_underlying hx, sizeOf, typeInfo, hi, hsize, hlen, hs0]
    · refine ⟨.slice (some ⟨w.heap.size, 0, none⟩) (([] : List Value).length + news.length) (grownCap w (([] : List Value).length + news.length) 0 e), _, ?_, own_grow _ hbase hzs (grownCap_ge w _ _ e) (hcm 0 e h63), hgrow 0 _, .inr rfl⟩
      have h63' : ¬ (9223372036854775807 < (news.length : Int)) := by simp at hsmall; omega
      have h48' : ¬ (281474976710656 < Builtin.nextslicecap news.length 0 * i.bytes) := by rw [nextslicecap_zero (by omega)]; simp at hbytes; omega
      have hpos : ¬ (news.length ≤ 0) := by omega
      have hne : news ≠ [] := fun e => hm (by rw [e]; rfl)
      rcases hx with hx | hx <;> simp [Builtin.append_, run_underlying ht, run_underlying hx, sizeOf, typeInfo, zeroValue, hi, hz, hsize, hlen, hne, h63', h48', Question.forced, run_firstCells_none, hs1, newRow, grownCap]
  · by_cases hroom : xs.length + news.length ≤ cap
    · refine ⟨_, _, ?_, own_room hbg hg hcs hcap hroom htake hfr, ⟨rfl, rfl, rfl, by simp, fun k _ hk => setRow_other w g k _ (fun e => hk (by simp [Value.ownBlock, e]))⟩, .inl rfl⟩
      have hst := run_storeCells_fr P g xs.length e fr news 0 cur w hg (by rw [hcs]; exact hfr) (by rw [hcs]; simpa using hroom) h1
      simp only [Nat.add_zero] at hst
      rcases hx with hx | hx <;> simp [Builtin.append_, run_underlying ht, run_underlying hx, sizeOf, typeInfo, hi, hsize, hlen, hroom, hs0, Addr.add_lit, hst]
    · have hold : (Builtin.firstCells 1 xs.length (.slice (some ⟨g, 0, none⟩) xs.length cap)).run P w.drew = .ok xs.toArray w.drew := by
        refine run_firstCells_some w.drew 1 xs.length ⟨g, 0, none⟩ _ _ xs (by simp) (fun j u hu => ?_)
        have hadd : (⟨g, 0, none⟩ : Addr).add j = ⟨g, j, none⟩ := by unfold Addr.add; split <;> simp_all
        rw [hadd, World.cell?_drew, cell_of_row w g j cur e fr hg]
        rw [← htake, List.getElem?_take] at hu
        split at hu
        · simpa using hu
        · cases hu
      refine ⟨.slice (some ⟨w.heap.size, 0, none⟩) (xs.length + news.length) (grownCap w (xs.length + news.length) cap e), _, ?_, own_grow _ hbase hzs (grownCap_ge w _ _ e) (hcm cap e h63), hgrow cap _, .inr rfl⟩
      have h63' : ¬ (9223372036854775807 < ((xs.length : Int) + (news.length : Int))) := by omega
      have h48' : ¬ (281474976710656 < Builtin.nextslicecap (xs.length + news.length) cap * i.bytes) := by
        have := growslice_fits (bytes := i.bytes) (show cap < xs.length + news.length by omega) hbytes; omega
      rcases hx with hx | hx <;> simp [Builtin.append_, run_underlying ht, run_underlying hx, sizeOf, typeInfo, zeroValue, hi, hz, hsize, hlen, hroom, h63', h48', Question.forced, hold, hs1, newRow, grownCap] <;> (congr 2; apply Array.ext'; simp [List.append_assoc])
theorem cells_one {z : Value} (hz : z.cells.size = 1) (hzz : z.oneCell' = true) : z.cells = #[z] := by
  cases z <;> first | rfl | simp [Value.oneCell'] at hzz
theorem zeroCells_one {z : Value} (hz : z.cells = #[z]) (n : Nat) : Builtin.zeroCells z.cells n = (List.replicate n z).toArray := by
  rw [hz]
  apply Array.ext'
  simp [Builtin.zeroCells, Nat.mod_one]
  apply List.ext_getElem
  · simp
  · intro i h1 h2; simp
theorem run_append_zeros (base : Nat) (t tn ty e : TypeId) (i : TypeInfo) (z : Value) (bytes : Nat) (kn : IntKind) (ht : P.underlying t = some (.slice e)) (hx : P.underlying tn = some (.int kn))
    (hi : P.info? e = some i) (hz : i.zero = some z) (hsize : i.size = 1) (hby : i.bytes = bytes) (hz1 : z.oneCell' = true) (hzs : z.cells = #[z])
    (v : Value) (xs : List Value) (hown : Own w base e v xs) (kq : IntKind) (n : Nat) (h48 : n * bytes ≤ 281474976710656) (hn63 : n ≤ 9223372036854775807)
    (h63 : xs.length + n ≤ maxLen) (hbytes : (xs.length + n) * bytes ≤ 140737488355328) (hbase : base ≤ w.heap.size) :
    ∃ v' w', (Builtin.append_ #[t, tn] ty #[v, .int kq (n : Int)]).run P w = .ok v' w' ∧ Own w' base e v' (xs ++ List.replicate n z) ∧ w.grownBy w' v.ownBlock ∧ (v'.ownBlock = v.ownBlock ∨ v'.ownBlock = some w.heap.size) := by
  subst hby
  have hzc : z.cells.size = 1 := by rw [hzs]; rfl
  have hsmall : xs.length + n ≤ 9223372036854775807 := by simp only [maxLen] at h63; omega
  have hw : IntKind.i64.wrap (n : Int) = n := by rw [IntKind.wrap_i64]; omega
  have hneg : ¬ ((n : Int) < 0) := by omega
  have h48i : ¬ (281474976710656 < (n : Int) * (i.bytes : Int)) := by
    rw [← Int.natCast_mul]; omega
  have hgrow : ∀ (c : Nat) (row : Option Nat), w.grownBy (w.drew.alloc (.cells (xs.toArray ++ (List.replicate n z).toArray ++ Builtin.zeroCells z.cells (c - (xs.length + (List.replicate n z).length))) e)) row :=
    fun c row => ⟨rfl, rfl, rfl, by simp, fun k hk _ => Below.heap_alloc w.drew _ k hk⟩
  have hzn := zeroCells_one hzs n
  have hlen : (List.replicate n z).length = n := by simp
  have hcm := grownCap_le_maxLen w (xs.length + (List.replicate n z).length)
  rw [hlen] at hcm
  rcases hown with ⟨rfl, rfl⟩ | ⟨g, cap, cur, fr, rfl, hbg, hg, hnc, hcap, hcs, htake, hfr⟩
  · by_cases hm : n = 0
    · subst hm
      refine ⟨.slice none 0 0, w, ?_, Own.none_, grown_refl _ _, .inl rfl⟩
      have hw0 : IntKind.i64.wrap 0 = 0 := by decide
      simp [Builtin.append_, run_underlying ht, run_underlying hx, sizeOf, typeInfo, hi, asInt, asIntOf, hw0]
    · have ho := own_grow (w := w) (e := e) (z := z) (xs := []) (news := List.replicate n z) (grownCap w (([] : List Value).length + n) 0 e) hbase hzc (by rw [hlen]; exact grownCap_ge w _ _ e) (hcm 0 e h63)
      refine ⟨.slice (some ⟨w.heap.size, 0, none⟩) (([] : List Value).length + n) (grownCap w (([] : List Value).length + n) 0 e), _, ?_, by rw [hlen] at ho; exact ho, by have hh := hgrow (grownCap w (([] : List Value).length + n) 0 e) (Value.ownBlock (.slice none 0 0)); rw [hlen] at hh; exact hh, .inr rfl⟩
      have h63' : ¬ (9223372036854775807 < (n : Int)) := by omega
      have h48' : ¬ (281474976710656 < Builtin.nextslicecap n 0 * i.bytes) := by rw [nextslicecap_zero (by omega)]; omega
      simp [Builtin.append_, run_underlying ht, run_underlying hx, sizeOf, typeInfo, zeroValue, hi, hz, hsize, asInt, asIntOf, hw, hm, hneg, h63', h48', h48i, Question.forced, run_firstCells_none, hzn, newRow, grownCap]
  · by_cases hroom : xs.length + n ≤ cap
    · have ho := own_room (news := List.replicate n z) hbg hg hcs hcap (by rw [hlen]; exact hroom) htake hfr
      rw [hlen] at ho
      refine ⟨_, _, ?_, ho, ⟨rfl, rfl, rfl, by simp, fun k _ hk => setRow_other w g k _ (fun e => hk (by simp [Value.ownBlock, e]))⟩, .inl rfl⟩
      have hst := run_storeCells_fr P g xs.length e fr (List.replicate n z) 0 cur w hg (by rw [hcs]; exact hfr) (by rw [hcs]; simpa using hroom) (fun u hu => by rw [List.eq_of_mem_replicate hu]; exact hz1)
      simp only [Nat.add_zero, hlen] at hst
      by_cases hm : n = 0
      · subst hm
        have hw0 : IntKind.i64.wrap 0 = 0 := by decide
        simp at hst
        simp [Builtin.append_, run_underlying ht, run_underlying hx, sizeOf, typeInfo, hi, hsize, asInt, asIntOf, hw0, hnc, Addr.add_lit, hst]
      · simp [Builtin.append_, run_underlying ht, run_underlying hx, sizeOf, typeInfo, zeroValue, hi, hz, hsize, asInt, asIntOf, hw, hm, hneg, h48i, hroom, hzn, Addr.add_lit, hst]
    · have hold : (Builtin.firstCells 1 xs.length (.slice (some ⟨g, 0, none⟩) xs.length cap)).run P w.drew = .ok xs.toArray w.drew := by
        refine run_firstCells_some w.drew 1 xs.length ⟨g, 0, none⟩ _ _ xs (by simp) (fun j u hu => ?_)
        have hadd : (⟨g, 0, none⟩ : Addr).add j = ⟨g, j, none⟩ := by unfold Addr.add; split <;> simp_all
        rw [hadd, World.cell?_drew, cell_of_row w g j cur e fr hg]
        rw [← htake, List.getElem?_take] at hu
        split at hu
        · simpa using hu
        · cases hu
      have hm : n ≠ 0 := by omega
      have ho := own_grow (w := w) (e := e) (z := z) (xs := xs) (news := List.replicate n z) (grownCap w (xs.length + n) cap e) hbase hzc (by rw [hlen]; exact grownCap_ge w _ _ e) (hcm cap e h63)
      refine ⟨.slice (some ⟨w.heap.size, 0, none⟩) (xs.length + n) (grownCap w (xs.length + n) cap e), _, ?_, by rw [hlen] at ho; exact ho, by have hh := hgrow (grownCap w (xs.length + n) cap e) (Value.ownBlock (.slice (some ⟨g, 0, none⟩) xs.length cap)); rw [hlen] at hh; exact hh, .inr rfl⟩
      have h63' : ¬ (9223372036854775807 < ((xs.length : Int) + (n : Int))) := by omega
      have h48' : ¬ (281474976710656 < Builtin.nextslicecap (xs.length + n) cap * i.bytes) := by
        have := growslice_fits (bytes := i.bytes) (show cap < xs.length + n by omega) hbytes; omega
      simp [Builtin.append_, run_underlying ht, run_underlying hx, sizeOf, typeInfo, zeroValue, hi, hz, hsize, asInt, asIntOf, hw, hm, hneg, hroom, h63', h48', h48i, Question.forced, hold, hzn, newRow, grownCap]
end
/-- the bytes of a list, as values -/
def BV (l : List UInt8) : List Value := l.map fun b => .int .u8 (ub b)
theorem BV_append (a b : List UInt8) : BV (a ++ b) = BV a ++ BV b := by simp [BV]
theorem BV_length (a : List UInt8) : (BV a).length = a.length := by simp [BV]
theorem BV_get (l : List UInt8) (j : Nat) (h : j < l.length) : (BV l)[j]? = some (.int .u8 (ub (l.getD j 0))) := by simp [BV, h]
theorem BV_replicate (n : Nat) (b : UInt8) : BV (List.replicate n b) = List.replicate n (.int .u8 (ub b)) := by simp [BV]
theorem BV_one (l : List UInt8) : ∀ u ∈ BV l, u.oneCell' = true := by
  intro u hu
  simp [BV] at hu
  obtain ⟨b, _, rfl⟩ := hu
  rfl
theorem own_conv (w : World) (e : TypeId) (s : ByteArray) (hs : s.size ≤ maxLen) :
    Own (Lib.bytesWorld w e s) w.heap.size e (.slice (some ⟨w.heap.size, 0, none⟩) s.size (grownCap w s.size 0 e)) (BV s.data.toList) := by
  have hl : (BV s.data.toList).length = s.size := by rw [BV_length]; simp
  have hge := grownCap_ge w s.size 0 e
  have hsz : (Lib.bytesCells w e s).size = grownCap w s.size 0 e := by
    have : s.data.size = s.size := rfl
    simp [Lib.bytesCells]; omega
  refine .inr ⟨w.heap.size, grownCap w s.size 0 e, _, _, by rw [hl], Nat.le_refl _, Lib.bytesWorld_at_new w e s, by rw [hl]; exact hge, grownCap_le_maxLen w s.size 0 e hs, hsz, ?_, ?_⟩
  · rw [hl]
    have h2 : (Lib.bytesCells w e s).toList = BV s.data.toList ++ List.replicate (grownCap w s.size 0 e - s.size) (.int .u8 0) := by
      simp [Lib.bytesCells, BV, ub]
    rw [h2, ← hl]
    exact List.take_left
  · intro j hj
    rw [hsz]
    simp; omega
theorem below_conv (w : World) (e : TypeId) (s : ByteArray) : Below w.heap.size w (Lib.bytesWorld w e s) :=
  ⟨rfl, rfl, rfl, by rw [Lib.bytesWorld_size]; omega, fun k hk => Lib.bytesWorld_at_old w e s k hk⟩
section
variable {P : Program} {w : World} {ops : Array Oper} {rest : List Oper} {o : Oper} {a : Act} {Q : Exit → Act → World → Prop}
theorem wpList_conv_bytes (hgd : o.guard = none) (x : Operand) (src dst e : TypeId) (ho : o.op = .convert src dst x) (s : ByteArray) (hx : a.eval x = .string s) {u : TypeDesc}
    (hs : P.underlying src = some u) (hd : P.underlying dst = some (.slice e)) (he : P.underlying e = some (.int .u8)) (hm : s.size ≤ maxLen)
    (h : ∀ v w', (∃ c, v = .slice (some ⟨w.heap.size, 0, none⟩) s.size c) → Own w' w.heap.size e v (BV s.data.toList) → Below w.heap.size w w' → w'.heap.size = w.heap.size + 1 → wpList P ops Q rest (a.put o.dst v) w') : wpList P ops Q (o :: rest) a w := by
  refine wpList_plain hgd fun K hK => ?_
  have hr := Lib.run_convert_string_bytes (P := P) w src dst e s hs hd he
  unfold Oper.wp execOp
  simp only [ho, hx, Sem.run_bind, Sem.run_pure, Result.andThen_ok, hr]
  exact hK _ _ (h _ _ ⟨_, rfl⟩ (own_conv w e s hm) (below_conv w e s) (Lib.bytesWorld_size w e s))
theorem wpList_append_src (hgd : o.guard = none) (s x : Operand) (t tx : TypeId) (ho : o.op = .call { callee := .builtin .append, args := #[s, x], argTypes := #[t, tx] })
    (base : Nat) (e : TypeId) (i : TypeInfo) (z : Value) (bytes : Nat) (ex : TypeId) (ht : P.underlying t = some (.slice e)) (htx : P.underlying tx = some (.slice ex) ∨ P.underlying tx = some .string)
    (hi : P.info? e = some i) (hz : i.zero = some z) (hsize : i.size = 1) (hby : i.bytes = bytes) (hzs : z.cells.size = 1)
    (v : Value) (hs : a.eval s = v) (xs : List Value) (hown : Own w base e v xs) (vx : Value) (hx : a.eval x = vx) (news : List Value)
    (hlen : ∀ W, (Builtin.lenOf vx).run P W = .ok news.length W) (hsrc : ∀ W : World, W.heap = w.heap → (Builtin.firstCells 1 news.length vx).run P W = .ok news.toArray W) (h1 : ∀ u ∈ news, u.oneCell' = true)
    (h63 : xs.length + news.length ≤ maxLen) (hbytes : (xs.length + news.length) * bytes ≤ 140737488355328) (hbase : base ≤ w.heap.size)
    (h : ∀ v' w', Own w' base e v' (xs ++ news) → w.grownBy w' v.ownBlock → (v'.ownBlock = v.ownBlock ∨ v'.ownBlock = some w.heap.size) → wpList P ops Q rest (a.put o.dst v') w') : wpList P ops Q (o :: rest) a w := by
  obtain ⟨v', w', hr, h2, h3, h4⟩ := run_append_src (P := P) w base t tx o.type e i z bytes ex ht htx hi hz hsize hby hzs v xs hown vx news hlen hsrc h1 h63 hbytes hbase
  exact Lib.wpList_append_run w hgd s x t tx ho v vx hs hx v' w' hr (h v' w' h2 h3 h4)
theorem wpList_append_zeros (hgd : o.guard = none) (s x : Operand) (t tn : TypeId) (ho : o.op = .call { callee := .builtin .append, args := #[s, x], argTypes := #[t, tn] })
    (base : Nat) (e : TypeId) (i : TypeInfo) (z : Value) (bytes : Nat) (kn : IntKind) (ht : P.underlying t = some (.slice e)) (htx : P.underlying tn = some (.int kn))
    (hi : P.info? e = some i) (hz : i.zero = some z) (hsize : i.size = 1) (hby : i.bytes = bytes) (hz1 : z.oneCell' = true) (hzs : z.cells = #[z])
    (v : Value) (hs : a.eval s = v) (xs : List Value) (hown : Own w base e v xs) (kq : IntKind) (n : Nat) (hx : a.eval x = .int kq (n : Int)) (h48 : n * bytes ≤ 281474976710656) (hn63 : n ≤ 9223372036854775807)
    (h63 : xs.length + n ≤ maxLen) (hbytes : (xs.length + n) * bytes ≤ 140737488355328) (hbase : base ≤ w.heap.size)
    (h : ∀ v' w', Own w' base e v' (xs ++ List.replicate n z) → w.grownBy w' v.ownBlock → (v'.ownBlock = v.ownBlock ∨ v'.ownBlock = some w.heap.size) → wpList P ops Q rest (a.put o.dst v') w') : wpList P ops Q (o :: rest) a w := by
  obtain ⟨v', w', hr, h2, h3, h4⟩ := run_append_zeros (P := P) w base t tn o.type e i z bytes kn ht htx hi hz hsize hby hz1 hzs v xs hown kq n h48 hn63 h63 hbytes hbase
  exact Lib.wpList_append_run w hgd s x t tn ho v _ hs hx v' w' hr (h v' w' h2 h3 h4)
end
/-- sources -/
theorem len_slice (P : Program) (A : Option Addr) (n c : Nat) (W : World) : (Builtin.lenOf (.slice A n c)).run P W = .ok n W := by simp [Builtin.lenOf]
theorem src_cells (P : Program) {w : World} (b off c : Nat) (news : List Value) (h : ∀ j u, news[j]? = some u → w.cell? ⟨b, off + j, none⟩ = some u) (W : World) (hW : W.heap = w.heap) :
    (Builtin.firstCells 1 news.length (.slice (some ⟨b, off, none⟩) news.length c)).run P W = .ok news.toArray W := by
  refine run_firstCells_some W 1 news.length ⟨b, off, none⟩ _ _ news (by simp) (fun j u hu => ?_)
  have hadd : (⟨b, off, none⟩ : Addr).add j = ⟨b, off + j, none⟩ := by unfold Addr.add; split <;> simp_all
  rw [hadd]
  have := h j u hu
  simpa [World.cell?, hW] using this
theorem src_own (P : Program) {w : World} {base : Nat} {e : TypeId} {v : Value} {news : List Value} (h : Own w base e v news) : (∀ W, (Builtin.lenOf v).run P W = .ok news.length W) ∧
    ∀ W : World, W.heap = w.heap → (Builtin.firstCells 1 news.length v).run P W = .ok news.toArray W := by
  rcases Nat.eq_zero_or_pos news.length with h0 | hp
  · have hn : news = [] := List.eq_nil_of_length_eq_zero h0
    subst hn
    obtain ⟨a, c, rfl, _⟩ := h.len
    refine ⟨fun W => len_slice P _ _ _ W, fun W _ => ?_⟩
    cases a
    · simp [Builtin.firstCells]
    · simp [Builtin.firstCells, loadCells, loadCellsFrom]
  · obtain ⟨g, cap, rfl, _, _, _, _, hc, _⟩ := h.form hp
    exact ⟨fun W => len_slice P _ _ _ W, fun W hW => src_cells P g 0 cap news (fun j u hu => by rw [Nat.zero_add]; exact hc j u hu) W hW⟩
theorem Own.len8 {w : World} {base : Nat} {e : TypeId} {v : Value} {l : List UInt8} (h : Own w base e v (BV l)) (n : Nat) (hn : l.length = n) : ∃ a c, v = .slice a n c ∧ c ≤ maxLen := by
  have := h.len
  rw [BV_length, hn] at this
  exact this
/-- what can be appended: n values, read wherever the heap is as it is -/
def Src (P : Program) (w : World) (x : Value) (news : List Value) : Prop :=
  (∀ W, (Builtin.lenOf x).run P W = .ok news.length W) ∧ ∀ W : World, W.heap = w.heap → (Builtin.firstCells 1 news.length x).run P W = .ok news.toArray W
theorem Src.cells (P : Program) {w : World} (b off c : Nat) (news : List Value) (h : ∀ j u, news[j]? = some u → w.cell? ⟨b, off + j, none⟩ = some u) (n : Nat) (hn : n = news.length) : Src P w (.slice (some ⟨b, off, none⟩) n c) news := by
  subst hn
  exact ⟨fun W => len_slice P _ _ _ W, fun W hW => src_cells P b off c news h W hW⟩
theorem Src.own (P : Program) {w : World} {base : Nat} {e : TypeId} {v : Value} {news : List Value} (h : Own w base e v news) : Src P w v news := src_own P h
theorem Src.str (P : Program) (w : World) (s : ByteArray) : Src P w (.string s) (BV s.data.toList) := by
  have hl : (BV s.data.toList).length = s.size := by rw [BV_length]; simp
  refine ⟨fun W => by rw [hl]; simp [Builtin.lenOf], fun W _ => ?_⟩
  rw [hl]
  simp only [Builtin.firstCells, Sem.run_pure]
  congr 1
  apply Array.ext'
  simp [BV, ub]
/-- the bytes of an array literal in a new block -/
theorem Src.lit (P : Program) (w : World) (t : TypeId) (b : Nat) (cs : Array Value) (hb : w.heap[b]? = some (.cells cs t (0, 0))) (n c : Nat) (hn : n = cs.size) : Src P w (.slice (some ⟨b, 0, none⟩) n c) cs.toList :=
  Src.cells P b 0 c cs.toList (fun j u hu => by rw [Nat.zero_add, cell_of_row w b j cs t (0, 0) hb]; simpa using hu) n (by simpa using hn)
/-- what is known of a type of bytes -/
def IsU8 (P : Program) (t e : TypeId) : Prop := P.underlying t = some (.slice e) ∧ (P.info? e).map (fun i => (i.zero, i.size, i.bytes)) = some (some (.int .u8 0), 1, 1)
section
variable {P : Program} {w : World} {ops : Array Oper} {rest : List Oper} {o : Oper} {a : Act} {Q : Exit → Act → World → Prop}
theorem wpList_append_u8 (hgd : o.guard = none) (s x : Operand) (t tx : TypeId) (ho : o.op = .call { callee := .builtin .append, args := #[s, x], argTypes := #[t, tx] }) (e : TypeId) (hu : IsU8 P t e)
    (htx : (∃ ex, P.underlying tx = some (.slice ex)) ∨ P.underlying tx = some .string)
    (base : Nat) (v : Value) (hs : a.eval s = v) (l : List UInt8) (hown : Own w base e v (BV l)) (vx : Value) (hx : a.eval x = vx) (m : List UInt8) (hsrc : Src P w vx (BV m))
    (hb : l.length + m.length ≤ 140737488355328) (hbase : base ≤ w.heap.size)
    (h : ∀ v' w', Own w' base e v' (BV (l ++ m)) → w.grownBy w' v.ownBlock → (v'.ownBlock = v.ownBlock ∨ v'.ownBlock = some w.heap.size) → wpList P ops Q rest (a.put o.dst v') w') : wpList P ops Q (o :: rest) a w := by
  obtain ⟨i0, hi, hz0, hz1, hz2⟩ := info_parts hu.2
  obtain ⟨ex, htx⟩ : ∃ ex, P.underlying tx = some (.slice ex) ∨ P.underlying tx = some .string := by
    rcases htx with ⟨ex, h⟩ | h
    · exact ⟨ex, .inl h⟩
    · exact ⟨0, .inr h⟩
  refine wpList_append_src hgd s x t tx ho base e i0 (.int .u8 0) 1 ex hu.1 htx hi hz0 hz1 hz2 rfl v hs (BV l) hown vx hx (BV m) hsrc.1 hsrc.2 (BV_one _) (by rw [BV_length, BV_length]; simp only [maxLen]; omega) (by rw [BV_length, BV_length]; omega) hbase ?_
  intro v' w' h2
  rw [← BV_append] at h2
  exact h v' w' h2
theorem wpList_append_z8 (hgd : o.guard = none) (s x : Operand) (t tn : TypeId) (ho : o.op = .call { callee := .builtin .append, args := #[s, x], argTypes := #[t, tn] }) (e : TypeId) (hu : IsU8 P t e)
    (kn : IntKind) (htx : P.underlying tn = some (.int kn))
    (base : Nat) (v : Value) (hs : a.eval s = v) (l : List UInt8) (hown : Own w base e v (BV l)) (kq : IntKind) (n : Nat) (hx : a.eval x = .int kq (n : Int))
    (hb : l.length + n ≤ 140737488355328) (hbase : base ≤ w.heap.size)
    (h : ∀ v' w', Own w' base e v' (BV (l ++ List.replicate n 0)) → w.grownBy w' v.ownBlock → (v'.ownBlock = v.ownBlock ∨ v'.ownBlock = some w.heap.size) → wpList P ops Q rest (a.put o.dst v') w') : wpList P ops Q (o :: rest) a w := by
  obtain ⟨i0, hi, hz0, hz1, hz2⟩ := info_parts hu.2
  refine wpList_append_zeros hgd s x t tn ho base e i0 (.int .u8 0) 1 kn hu.1 htx hi hz0 hz1 hz2 rfl rfl v hs (BV l) hown kq n hx (by omega) (by omega) (by rw [BV_length]; simp only [maxLen]; omega) (by rw [BV_length]; omega) hbase ?_
  intro v' w' h2
  have e0 : List.replicate n (Value.int .u8 0) = BV (List.replicate n 0) := by rw [BV_replicate]; rfl
  rw [e0, ← BV_append] at h2
  exact h v' w' h2
end
/-- the block of an own row is new to w -/
theorem below_app {B : Nat} {a w w' : World} {v : Value} {base : Nat} {e : TypeId} {xs : List Value} (h : Below B a w) (hg : w.grownBy w' v.ownBlock) (ho : Own w base e v xs) (hB : B ≤ base) (hw : B ≤ w.heap.size) : Below B a w' :=
  h.grown hg hw (fun k hk => Nat.le_trans hB (ho.lt k hk).1)
end Go.Proofs.Ytijhdfllffkfjaa
