/- Trees: what the functions compute, on lists. No step of the program here. -/
import Derived.Test.YtijhdfllffkfjaaTrC
namespace Go.Proofs.Ytijhdfllffkfjaa
open Go.RowKit

theorem getD_last {α : Type} (l : List α) (x d : α) : (l ++ [x]).getD l.length d = x := by simp [List.getD_eq_getElem?_getD]
theorem getD_front {α : Type} (l m : List α) (d : α) (j : Nat) (h : j < l.length) : (l ++ m).getD j d = l.getD j d := by simp [List.getD_eq_getElem?_getD, List.getElem?_append_left h]
def z0 : HF := fun _ => 0
/-- hash j of a list -/
def hg (H : List HF) (j : Nat) : HF := H.getD j (fun _ => 0)
theorem hg_take (H : List HF) (k j : Nat) (h : j < k) : hg (H.take k) j = hg H j := by
  unfold hg; simp [List.getD_eq_getElem?_getD, h]
theorem halfN_pow {n j : Nat} (h2 : 2 ≤ n) (h : n ≤ 2 ^ (j + 1)) : halfN n ≤ 2 ^ j := by
  unfold halfN
  apply Nat.pow_le_pow_right (by omega)
  have := (Nat.log2_lt (n := n - 1) (k := j + 1) (by omega)).2 (by have := Nat.two_pow_pos (j + 1); omega)
  omega
/-- the steps to string i of n, the one at the string first -/
def wayS (i n : Nat) : List Bool :=
  if _h : n ≤ 1 then [] else if i < halfN n then wayS i (halfN n) ++ [false] else wayS (i - halfN n) (n - halfN n) ++ [true]
termination_by n
decreasing_by
  · have := halfN_lt (n := n) (by omega); omega
  · have := halfN_lt (n := n) (by omega); omega
theorem wayS_1 {i n : Nat} (h : n ≤ 1) : wayS i n = [] := by rw [wayS, dif_pos h]
theorem wayS_lo {i n : Nat} (h : 2 ≤ n) (hi : i < halfN n) : wayS i n = wayS i (halfN n) ++ [false] := by rw [wayS, dif_neg (by omega), if_pos hi]
theorem wayS_hi {i n : Nat} (h : 2 ≤ n) (hi : ¬ i < halfN n) : wayS i n = wayS (i - halfN n) (n - halfN n) ++ [true] := by rw [wayS, dif_neg (by omega), if_neg hi]
theorem wayS_len : ∀ (j i n : Nat), n ≤ 2 ^ j → (wayS i n).length ≤ j
  | j, i, n, h => by
    by_cases h1 : n ≤ 1
    · rw [wayS_1 h1]; simp
    · obtain ⟨k1, k2, k3⟩ := halfN_lt (n := n) (by omega)
      cases j with
      | zero => omega
      | succ j =>
        have hp := halfN_pow (by omega) h
        by_cases hi : i < halfN n
        · rw [wayS_lo (by omega) hi, List.length_append]
          have := wayS_len j i (halfN n) hp
          simpa using this
        · rw [wayS_hi (by omega) hi, List.length_append]
          have := wayS_len j (i - halfN n) (n - halfN n) (by omega)
          simpa using this
theorem wayS_63 {i n : Nat} (h : n ≤ 9223372036854775807) : (wayS i n).length ≤ 63 := wayS_len 63 i n (by omega)
/-- a path applied to a hash, step by step -/
def stepF (f : HF) (ss : List Bool) (H : List HF) : Nat → HF
  | 0 => f
  | j + 1 => if ss.getD j false then nodeS (hg H j) (stepF f ss H j) else nodeS (stepF f ss H j) (hg H j)
theorem stepF_congr {f : HF} {ss tt : List Bool} {H K : List HF} : ∀ (j : Nat), (∀ i, i < j → ss.getD i false = tt.getD i false ∧ hg H i = hg K i) → stepF f ss H j = stepF f tt K j
  | 0, _ => rfl
  | j + 1, h => by
    have ih := stepF_congr (f := f) j (fun i hi => h i (by omega))
    obtain ⟨h1, h2⟩ := h j (by omega)
    simp only [stepF, ih, h1, h2]
/-- a path applied to a hash -/
def upS (f : HF) (i n : Nat) (H : List HF) : HF :=
  if _h : n ≤ 1 then f else if i < halfN n then nodeS (upS f i (halfN n) (H.take (H.length - 1))) (hg H (H.length - 1)) else nodeS (hg H (H.length - 1)) (upS f (i - halfN n) (n - halfN n) (H.take (H.length - 1)))
termination_by n
decreasing_by
  · have := halfN_lt (n := n) (by omega); omega
  · have := halfN_lt (n := n) (by omega); omega
theorem upS_1 {f : HF} {i n : Nat} {H : List HF} (h : n ≤ 1) : upS f i n H = f := by rw [upS, dif_pos h]
theorem upS_lo {f : HF} {i n : Nat} {H : List HF} (h : 2 ≤ n) (hi : i < halfN n) : upS f i n H = nodeS (upS f i (halfN n) (H.take (H.length - 1))) (hg H (H.length - 1)) := by rw [upS, dif_neg (by omega), if_pos hi]
theorem upS_hi {f : HF} {i n : Nat} {H : List HF} (h : 2 ≤ n) (hi : ¬ i < halfN n) : upS f i n H = nodeS (hg H (H.length - 1)) (upS f (i - halfN n) (n - halfN n) (H.take (H.length - 1))) := by rw [upS, dif_neg (by omega), if_neg hi]
theorem upS_step : ∀ (m : Nat) (f : HF) (i n : Nat) (H : List HF), n ≤ m → H.length = (wayS i n).length → upS f i n H = stepF f (wayS i n) H (wayS i n).length
  | m, f, i, n, H, hm, hl => by
    by_cases h1 : n ≤ 1
    · rw [upS_1 h1, wayS_1 h1]; rfl
    · obtain ⟨k1, k2, k3⟩ := halfN_lt (n := n) (by omega)
      obtain ⟨m', rfl⟩ : ∃ m', m = m' + 1 := ⟨m - 1, by omega⟩
      by_cases hi : i < halfN n
      · rw [wayS_lo (by omega) hi] at hl ⊢
        have hl' : H.length - 1 = (wayS i (halfN n)).length := by simp at hl; omega
        have ih := upS_step m' f i (halfN n) (H.take (H.length - 1)) (by omega) (by rw [List.length_take]; omega)
        rw [upS_lo (by omega) hi, ih, hl', List.length_append, List.length_singleton, stepF, getD_last]
        simp only [Bool.false_eq_true, if_false]
        congr 1
        exact stepF_congr _ fun j hj => ⟨by rw [getD_front _ _ _ _ hj], hg_take H _ j hj⟩
      · rw [wayS_hi (by omega) hi] at hl ⊢
        have hl' : H.length - 1 = (wayS (i - halfN n) (n - halfN n)).length := by simp at hl; omega
        have ih := upS_step m' f (i - halfN n) (n - halfN n) (H.take (H.length - 1)) (by omega) (by rw [List.length_take]; omega)
        rw [upS_hi (by omega) hi, ih, hl', List.length_append, List.length_singleton, stepF, getD_last]
        simp only [if_true]
        congr 1
        exact stepF_congr _ fun j hj => ⟨by rw [getD_front _ _ _ _ hj], hg_take H _ j hj⟩
/-- whether a path proves that a string is in a list -/
def fitB (size : Int) (root : HF) (n : Int) (leaf : List UInt8) (H : List HF) : Bool :=
  decide (0 ≤ n ∧ n < size ∧ H.length = (wayS n.toNat size.toNat).length ∧ hl (stepF (leafS leaf) (wayS n.toNat size.toNat) H H.length) 32 = hl root 32)
theorem pathS_way : ∀ (m : Nat) (L : List (List UInt8)) (n : Nat), L.length ≤ m → n < L.length → (pathS L n).length = (wayS n L.length).length
  | m, L, n, hm, hn => by
    by_cases h1 : L.length ≤ 1
    · rw [pathS_1 h1, wayS_1 h1]; rfl
    · obtain ⟨k1, k2, k3⟩ := halfN_lt (n := L.length) (by omega)
      obtain ⟨m', rfl⟩ : ∃ m', m = m' + 1 := ⟨m - 1, by omega⟩
      have hlt : (L.take (halfN L.length)).length = halfN L.length := by rw [List.length_take]; omega
      have hld : (L.drop (halfN L.length)).length = L.length - halfN L.length := List.length_drop
      by_cases hi : n < halfN L.length
      · have ih := pathS_way m' (L.take (halfN L.length)) n (by omega) (by omega)
        rw [hlt] at ih
        rw [pathS_lo (by omega) hi, wayS_lo (by omega) hi, List.length_append, List.length_append, ih]; rfl
      · have ih := pathS_way m' (L.drop (halfN L.length)) (n - halfN L.length) (by omega) (by omega)
        rw [hld] at ih
        rw [pathS_hi (by omega) hi, wayS_hi (by omega) hi, List.length_append, List.length_append, ih]; rfl
/-- the path of a list leads to its root -/
theorem upS_path : ∀ (m : Nat) (L : List (List UInt8)) (n : Nat), L.length ≤ m → n < L.length → upS (leafS (L.getD n [])) n L.length (pathS L n) = rootS L
  | m, L, n, hm, hn => by
    by_cases h1 : L.length ≤ 1
    · obtain rfl : n = 0 := by omega
      rw [upS_1 h1, rootS_1 (by omega)]
    · obtain ⟨k1, k2, k3⟩ := halfN_lt (n := L.length) (by omega)
      obtain ⟨m', rfl⟩ : ∃ m', m = m' + 1 := ⟨m - 1, by omega⟩
      have hlt : (L.take (halfN L.length)).length = halfN L.length := by rw [List.length_take]; omega
      have hld : (L.drop (halfN L.length)).length = L.length - halfN L.length := List.length_drop
      by_cases hi : n < halfN L.length
      · have ih := upS_path m' (L.take (halfN L.length)) n (by omega) (by omega)
        have hg1 : (L.take (halfN L.length)).getD n [] = L.getD n [] := by simp [List.getD_eq_getElem?_getD, hi]
        rw [hlt, hg1] at ih
        rw [upS_lo (by omega) hi, pathS_lo (by omega) hi, rootS_2 (L := L) (by omega)]
        simp only [List.length_append, List.length_singleton, Nat.add_sub_cancel, List.take_left', hg, getD_last]
        rw [ih]
      · have ih := upS_path m' (L.drop (halfN L.length)) (n - halfN L.length) (by omega) (by omega)
        have hg1 : (L.drop (halfN L.length)).getD (n - halfN L.length) [] = L.getD n [] := by
          simp only [List.getD_eq_getElem?_getD, List.getElem?_drop]
          rw [show halfN L.length + (n - halfN L.length) = n by omega]
        rw [hld, hg1] at ih
        rw [upS_hi (by omega) hi, pathS_hi (by omega) hi, rootS_2 (L := L) (by omega)]
        simp only [List.length_append, List.length_singleton, Nat.add_sub_cancel, List.take_left', hg, getD_last]
        rw [ih]
theorem fit_path {L : List (List UInt8)} {n : Nat} (hn : n < L.length) : fitB L.length (rootS L) n (L.getD n []) (pathS L n) = true := by
  unfold fitB
  have h1 := pathS_way _ L n (Nat.le_refl _) hn
  have h2 := upS_path _ L n (Nat.le_refl _) hn
  rw [upS_step L.length _ _ _ _ (Nat.le_refl _) h1] at h2
  rw [decide_eq_true_iff]
  refine ⟨by omega, by omega, by simpa using h1, ?_⟩
  simp only [Int.toNat_natCast, h1, h2]
end Go.Proofs.Ytijhdfllffkfjaa
