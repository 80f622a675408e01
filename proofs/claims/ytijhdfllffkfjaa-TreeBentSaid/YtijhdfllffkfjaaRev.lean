/- slices.Reverse at rows of the call's own, elements of k cells: the library's contract, laid at this program. No walk here. -/
import Derived.Shelf.SlicesQ.Reverse
import Derived.Laws.AppendOwn
import Derived.OwnWalk
import Derived.Test.YtijhdfllffkfjaaRowG
namespace Go.Proofs.Ytijhdfllffkfjaa
open Go.RowKit Go.Sort Go.Shelf

def layRevH_ren : Go.Shelf.Ren := ⟨fun | 35 => 43 | n => n, fun | 22 => 38 | 23 => 24 | 3 => 3 | 4 => 4 | 0 => 0 | n => n, fun | n => n⟩
theorem layRevH : Go.Proofs.SlLaysE0.n35 Try.prog layRevH_ren := {
  mixed := by kernel_rfl
  f35 := ⟨Try.f43.name, by decide, Try.func43.trans (congrArg some (by kernel_rfl))⟩
  t0 := Try.underlying0
  a0 := Try.isAgg0
  z0 := Try.sizeOf0
  v0 := Try.zeroValue0
  t3 := Try.underlying3
  a3 := Try.isAgg3
  z3 := Try.sizeOf3
  v3 := Try.zeroValue3
  t4 := Try.underlying4
  a4 := Try.isAgg4
  z4 := Try.sizeOf4
  v4 := Try.zeroValue4
  t22 := Try.underlying38
  a22 := Try.isAgg38
  z22 := Try.sizeOf38
  v22 := Try.zeroValue38 }
def layRevS_ren : Go.Shelf.Ren := ⟨fun | 35 => 66 | n => n, fun | 22 => 90 | 23 => 93 | 3 => 3 | 4 => 4 | 0 => 0 | n => n, fun | n => n⟩
theorem layRevS : Go.Proofs.SlLaysE0.n35 Try.prog layRevS_ren := {
  mixed := by kernel_rfl
  f35 := ⟨Try.f66.name, by decide, Try.func66.trans (congrArg some (by kernel_rfl))⟩
  t0 := Try.underlying0
  a0 := Try.isAgg0
  z0 := Try.sizeOf0
  v0 := Try.zeroValue0
  t3 := Try.underlying3
  a3 := Try.isAgg3
  z3 := Try.sizeOf3
  v3 := Try.zeroValue3
  t4 := Try.underlying4
  a4 := Try.isAgg4
  z4 := Try.sizeOf4
  v4 := Try.zeroValue4
  t22 := Try.underlying90
  a22 := Try.isAgg90
  z22 := Try.sizeOf90
  v22 := Try.zeroValue90 }

theorem flat_length {α : Type} {enc : α → List Value} {k : Nat} (hk : ∀ x, (enc x).length = k) (H : List α) : (H.flatMap enc).length = H.length * k := by
  induction H with
  | nil => simp
  | cons x H ih => rw [List.flatMap_cons, List.length_append, hk, ih, List.length_cons, Nat.add_mul, Nat.one_mul, Nat.add_comm]
section
variable {α : Type} [Inhabited α] {enc : α → List Value} {k : Nat}
theorem flat_get (hk : ∀ x, (enc x).length = k) (H : List α) (i j : Nat) (hi : i < H.length) (hj : j < k) : (H.flatMap enc)[i * k + j]? = (enc (H.toArray[i]!))[j]? := by
  induction H generalizing i with
  | nil => simp at hi
  | cons x H ih =>
    rw [List.flatMap_cons]
    cases i with
    | zero =>
      rw [Nat.zero_mul, Nat.zero_add, List.getElem?_append_left (by rw [hk]; exact hj)]
      simp
    | succ i =>
      have hi' : i < H.length := by simpa using hi
      rw [List.getElem?_append_right (by rw [hk, Nat.add_mul, Nat.one_mul]; omega), hk, show (i + 1) * k + j - k = i * k + j by rw [Nat.add_mul, Nat.one_mul]; omega, ih i hi']
      congr 2
      rw [getElem!_pos _ i (by simpa using hi'), getElem!_pos _ (i + 1) (by simpa using hi)]
      simp
theorem flatK_eq (hk : ∀ x, (enc x).length = k) (H : List α) : flatK enc k H.toArray = (H.flatMap enc).toArray := by
  apply Array.ext_getElem?
  intro t
  by_cases ht : t < H.length * k
  · have k0 : 0 < k := by
      rcases Nat.eq_zero_or_pos k with h | h
      · subst h; omega
      · exact h
    have hm : t % k < k := Nat.mod_lt _ k0
    have hd : t / k < H.length := Nat.div_lt_of_lt_mul (by rw [Nat.mul_comm]; exact ht)
    have e : t / k * k + t % k = t := Nat.div_add_mod' t k
    have h1 := flat_get hk H (t / k) (t % k) hd hm
    rw [e] at h1
    have h2 := get_flatK enc k H.toArray t (by simpa using ht)
    rw [getElem!_pos _ t (by rw [size_flatK]; simpa using ht)] at h2
    rw [Array.getElem?_eq_getElem (by rw [size_flatK]; simpa using ht), h2, List.getElem?_toArray, h1, getElem!_pos _ (t % k) (by rw [hk]; exact hm), List.getElem?_eq_getElem (by rw [hk]; exact hm)]
  · rw [Array.getElem?_eq_none (by rw [size_flatK]; simp; omega), List.getElem?_toArray, List.getElem?_eq_none (by rw [flat_length hk]; omega)]
theorem take_put (cur : Array Value) (F : List Value) (h : F.length ≤ cur.size) : (putCells id 0 F.toArray cur).toList.take F.length = F := by
  apply List.ext_getElem?
  intro j
  by_cases hj : j < F.length
  · rw [List.getElem?_take_of_lt hj, Array.getElem?_toList]
    simp [putCells, hj, show j < cur.size by omega]
  · rw [List.getElem?_take_eq_none (by omega), List.getElem?_eq_none (by omega)]
/-- a row of the call's own, turned round -/
theorem own_turned (hk : ∀ x, (enc x).length = k) {w : World} {B : Nat} {e : TypeId} {v : Value} {H : List α} (h : w.ownsRow B e k v H.length (H.flatMap enc)) :
    (v = .slice none 0 0 ∧ H = []) ∨ ∃ g cap : Nat, v = .slice (some ⟨g, 0, none⟩) H.toArray.size cap ∧ HoldsK enc k w g 0 H.toArray ∧ H.toArray.size ≤ 9223372036854775807 ∧
      ∀ n, (putRowK enc k (Sort.ahead w n) g 0 H.toArray.reverse).ownsRow B e k v H.reverse.length (H.reverse.flatMap enc) ∧ w.grownBy (putRowK enc k (Sort.ahead w n) g 0 H.toArray.reverse) v.ownBlock := by
  obtain ⟨hl, h⟩ := h
  rcases h with ⟨rfl, h0⟩ | ⟨g, cap, cur, rfl, hb, hg, h1, h2, h3, h4⟩
  · exact .inl ⟨rfl, List.eq_nil_of_length_eq_zero h0⟩
  · have hlt : g < w.heap.size := (Array.getElem?_eq_some_iff.1 hg).1
    have hcap : H.length * k ≤ cur.size := by rw [h3]; exact Nat.mul_le_mul_right k h1
    refine .inr ⟨g, cap, by simp, fun j hj => ?_, by simp; unfold maxLen at h2; omega, fun n => ⟨⟨by rw [flat_length hk], .inr ⟨g, cap, putCells id 0 (H.reverse.flatMap enc).toArray cur, by simp, hb, ?_, by simpa using h1, h2, by simp [putCells, h3], ?_⟩⟩, ⟨rfl, rfl, rfl, by simp [putRowK, putRow, mapBlock, Sort.ahead], fun b hb' hne => ?_⟩⟩⟩
    · rw [size_flatK] at hj
      have hj' : j < H.length * k := by simpa using hj
      rw [flatK_eq hk]
      refine ⟨?_, by simp [World.frozen?, hg]⟩
      have hc : (cur.toList.take (H.length * k))[j]? = (H.flatMap enc)[j]? := by rw [h4]
      rw [List.getElem?_take_of_lt hj', Array.getElem?_toList] at hc
      simp only [World.cell?, hg, Nat.zero_add]
      rw [if_neg (by simp), hc, getElem!_pos _ j (by simpa [flat_length hk] using hj'), List.getElem?_eq_getElem (by rw [flat_length hk]; exact hj')]
      simp
    · rw [putRowK, List.reverse_toArray, flatK_eq hk]
      simp [putRow, mapBlock, Sort.ahead, Array.getElem?_modify, hg, onCells]
    · have hf : H.reverse.length * k = (H.reverse.flatMap enc).length := (flat_length hk _).symm
      rw [hf]
      exact take_put cur _ (by rw [flat_length hk]; simpa using hcap)
    · have hne' : g ≠ b := fun e1 => hne (by rw [← e1]; rfl)
      simp [putRowK, putRow, mapBlock, Sort.ahead, Array.getElem?_modify, hne']
theorem reverse_ownH (hk : ∀ x, (enc x).length = 32) (h1 : ∀ x, ∀ v ∈ enc x, v.oneCell' = true) {w : World} {B : Nat} {e : TypeId} {v : Value} {H : List α} (h : w.ownsRow B e 32 v H.length (H.flatMap enc)) :
    Calls Try.prog 43 #[v] w fun x w' => x = .returned (.tuple #[]) ∧ w'.ownsRow B e 32 v H.reverse.length (H.reverse.flatMap enc) ∧ w.grownBy w' v.ownBlock := by
  rcases own_turned hk h with ⟨rfl, rfl⟩ | ⟨g, cap, rfl, hH, hsz, hT⟩
  · refine (AnyQ.slices_Reverse_empty layRevH none 0 w).mono ?_
    rintro x w' ⟨rfl, rfl⟩
    exact ⟨rfl, h, ⟨rfl, rfl, rfl, Nat.le_refl _, fun _ _ _ => rfl⟩⟩
  · refine (AnyQ.slices_Reverse layRevH 32 Try.isAgg24 Try.sizeOf24 enc hk h1 g 0 cap H.toArray w hH hsz).mono ?_
    rintro x w' ⟨rfl, n, rfl⟩
    exact ⟨rfl, (hT n).1, (hT n).2⟩
theorem reverse_ownS (hk : ∀ x, (enc x).length = 1) (h1 : ∀ x, ∀ v ∈ enc x, v.oneCell' = true) {w : World} {B : Nat} {e : TypeId} {v : Value} {H : List α} (h : w.ownsRow B e 1 v H.length (H.flatMap enc)) :
    Calls Try.prog 66 #[v] w fun x w' => x = .returned (.tuple #[]) ∧ w'.ownsRow B e 1 v H.reverse.length (H.reverse.flatMap enc) ∧ w.grownBy w' v.ownBlock := by
  rcases own_turned hk h with ⟨rfl, rfl⟩ | ⟨g, cap, rfl, hH, hsz, hT⟩
  · refine (AnyQ.slices_Reverse_empty layRevS none 0 w).mono ?_
    rintro x w' ⟨rfl, rfl⟩
    exact ⟨rfl, h, ⟨rfl, rfl, rfl, Nat.le_refl _, fun _ _ _ => rfl⟩⟩
  · refine (AnyQ.slices_Reverse layRevS 1 Try.isAgg93 Try.sizeOf93 enc hk h1 g 0 cap H.toArray w hH hsz).mono ?_
    rintro x w' ⟨rfl, n, rfl⟩
    exact ⟨rfl, (hT n).1, (hT n).2⟩
end
end Go.Proofs.Ytijhdfllffkfjaa
