/- Growth of trees: what the functions compute, on lists. No step of the program here. -/
import Derived.Test.YtijhdfllffkfjaaTrF
namespace Go.Proofs.Ytijhdfllffkfjaa
open Go.RowKit

theorem halfN_same {n m : Nat} (h2 : 2 ≤ n) (h1 : halfN n < m) (hm : m ≤ n) : halfN m = halfN n := by
  obtain ⟨k1, k2, k3⟩ := halfN_lt h2
  unfold halfN at *
  refine halfN_is h1 ?_
  rw [Nat.pow_succ]; omega
def growS (L : List (List UInt8)) (m : Nat) (whole : Bool) : List HF :=
  if m = L.length then (if whole then [] else [rootS L]) else if _h : L.length ≤ 1 then [] else
    if m ≤ halfN L.length then growS (L.take (halfN L.length)) m whole ++ [rootS (L.drop (halfN L.length))] else growS (L.drop (halfN L.length)) (m - halfN L.length) false ++ [rootS (L.take (halfN L.length))]
termination_by L.length
decreasing_by
  · have := halfN_lt (n := L.length) (by omega); rw [List.length_take]; omega
  · have := halfN_lt (n := L.length) (by omega); rw [List.length_drop]; omega
theorem growS_eq {L : List (List UInt8)} {m : Nat} {whole : Bool} (h : m = L.length) : growS L m whole = if whole then [] else [rootS L] := by rw [growS, if_pos h]
theorem growS_lo {L : List (List UInt8)} {m : Nat} {whole : Bool} (h : m ≠ L.length) (h2 : 2 ≤ L.length) (hk : m ≤ halfN L.length) : growS L m whole = growS (L.take (halfN L.length)) m whole ++ [rootS (L.drop (halfN L.length))] := by
  rw [growS, if_neg h, dif_neg (by omega), if_pos hk]
theorem growS_hi {L : List (List UInt8)} {m : Nat} {whole : Bool} (h : m ≠ L.length) (h2 : 2 ≤ L.length) (hk : ¬ m ≤ halfN L.length) : growS L m whole = growS (L.drop (halfN L.length)) (m - halfN L.length) false ++ [rootS (L.take (halfN L.length))] := by
  rw [growS, if_neg h, dif_neg (by omega), if_neg hk]
def manyS (m n : Nat) (whole : Bool) : Nat :=
  if m = n then (if whole then 0 else 1) else if _h : n ≤ 1 then 0 else if m ≤ halfN n then manyS m (halfN n) whole + 1 else manyS (m - halfN n) (n - halfN n) false + 1
termination_by n
decreasing_by
  · have := halfN_lt (n := n) (by omega); omega
  · have := halfN_lt (n := n) (by omega); omega
theorem manyS_eq {m n : Nat} {whole : Bool} (h : m = n) : manyS m n whole = if whole then 0 else 1 := by rw [manyS, if_pos h]
theorem manyS_lo {m n : Nat} {whole : Bool} (h : m ≠ n) (h2 : 2 ≤ n) (hk : m ≤ halfN n) : manyS m n whole = manyS m (halfN n) whole + 1 := by rw [manyS, if_neg h, dif_neg (by omega), if_pos hk]
theorem manyS_hi {m n : Nat} {whole : Bool} (h : m ≠ n) (h2 : 2 ≤ n) (hk : ¬ m ≤ halfN n) : manyS m n whole = manyS (m - halfN n) (n - halfN n) false + 1 := by rw [manyS, if_neg h, dif_neg (by omega), if_neg hk]
theorem manyS_len : ∀ (j m n : Nat) (whole : Bool), n ≤ 2 ^ j → manyS m n whole ≤ j + 1
  | j, m, n, whole, h => by
    by_cases he : m = n
    · rw [manyS_eq he]; split <;> omega
    · by_cases h1 : n ≤ 1
      · rw [manyS, if_neg he, dif_pos h1]; omega
      · obtain ⟨k1, k2, k3⟩ := halfN_lt (n := n) (by omega)
        cases j with
        | zero => omega
        | succ j =>
          have hp := halfN_pow (by omega) h
          by_cases hk : m ≤ halfN n
          · rw [manyS_lo he (by omega) hk]
            have := manyS_len j m (halfN n) whole hp
            omega
          · rw [manyS_hi he (by omega) hk]
            have := manyS_len j (m - halfN n) (n - halfN n) false (by omega)
            omega
theorem manyS_64 {m n : Nat} {whole : Bool} (h : n ≤ 9223372036854775807) : manyS m n whole ≤ 64 := manyS_len 63 m n whole (by omega)
theorem growS_len : ∀ (k : Nat) (L : List (List UInt8)) (m : Nat) (whole : Bool), L.length ≤ k → (growS L m whole).length = manyS m L.length whole
  | k, L, m, whole, hk => by
    by_cases he : m = L.length
    · rw [growS_eq he, manyS_eq he]; cases whole <;> rfl
    · by_cases h1 : L.length ≤ 1
      · rw [growS, if_neg he, dif_pos h1, manyS, if_neg he, dif_pos h1]; rfl
      · obtain ⟨k1, k2, k3⟩ := halfN_lt (n := L.length) (by omega)
        obtain ⟨k', rfl⟩ : ∃ k', k = k' + 1 := ⟨k - 1, by omega⟩
        have hlt : (L.take (halfN L.length)).length = halfN L.length := by rw [List.length_take]; omega
        have hld : (L.drop (halfN L.length)).length = L.length - halfN L.length := List.length_drop
        by_cases hm : m ≤ halfN L.length
        · have ih := growS_len k' (L.take (halfN L.length)) m whole (by omega)
          rw [hlt] at ih
          rw [growS_lo he (by omega) hm, manyS_lo he (by omega) hm, List.length_append, ih]; rfl
        · have ih := growS_len k' (L.drop (halfN L.length)) (m - halfN L.length) false (by omega)
          rw [hld] at ih
          rw [growS_hi he (by omega) hm, manyS_hi he (by omega) hm, List.length_append, ih]; rfl
/-- the roots that a proof leads to; the proof's hashes by their number, from t on -/
def bothG (old : HF) (g : Nat → HF) (t m n : Nat) (whole : Bool) : HF × HF :=
  if m = n then (if whole then (old, old) else (g t, g t)) else if _h : n ≤ 1 then (old, old) else
    if m ≤ halfN n then
      ((bothG old g t m (halfN n) whole).1, nodeS (bothG old g t m (halfN n) whole).2 (g (t + manyS m (halfN n) whole)))
    else
      (nodeS (g (t + manyS (m - halfN n) (n - halfN n) false)) (bothG old g t (m - halfN n) (n - halfN n) false).1, nodeS (g (t + manyS (m - halfN n) (n - halfN n) false)) (bothG old g t (m - halfN n) (n - halfN n) false).2)
termination_by n
decreasing_by
  all_goals (have := halfN_lt (n := n) (by omega); omega)
theorem bothG_eq {old : HF} {g : Nat → HF} {t m n : Nat} {whole : Bool} (h : m = n) : bothG old g t m n whole = if whole then (old, old) else (g t, g t) := by rw [bothG, if_pos h]
theorem bothG_lo {old : HF} {g : Nat → HF} {t m n : Nat} {whole : Bool} (h : m ≠ n) (h2 : 2 ≤ n) (hk : m ≤ halfN n) :
    bothG old g t m n whole = ((bothG old g t m (halfN n) whole).1, nodeS (bothG old g t m (halfN n) whole).2 (g (t + manyS m (halfN n) whole))) := by rw [bothG, if_neg h, dif_neg (by omega), if_pos hk]
theorem bothG_hi {old : HF} {g : Nat → HF} {t m n : Nat} {whole : Bool} (h : m ≠ n) (h2 : 2 ≤ n) (hk : ¬ m ≤ halfN n) :
    bothG old g t m n whole = (nodeS (g (t + manyS (m - halfN n) (n - halfN n) false)) (bothG old g t (m - halfN n) (n - halfN n) false).1, nodeS (g (t + manyS (m - halfN n) (n - halfN n) false)) (bothG old g t (m - halfN n) (n - halfN n) false).2) := by
  rw [bothG, if_neg h, dif_neg (by omega), if_neg hk]
theorem bothG_congr {old : HF} : ∀ (b : Nat) (g g' : Nat → HF) (t t' m n : Nat) (whole : Bool), n ≤ b → (∀ j, j < manyS m n whole → g (t + j) = g' (t' + j)) → bothG old g t m n whole = bothG old g' t' m n whole
  | b, g, g', t, t', m, n, whole, hb, h => by
    by_cases he : m = n
    · rw [bothG_eq he, bothG_eq he]
      cases whole with
      | true => rfl
      | false =>
        have := h 0 (by rw [manyS_eq he]; decide)
        simp only [Nat.add_zero] at this
        rw [this]
    · by_cases h1 : n ≤ 1
      · rw [bothG, if_neg he, dif_pos h1, bothG, if_neg he, dif_pos h1]
      · obtain ⟨k1, k2, k3⟩ := halfN_lt (n := n) (by omega)
        obtain ⟨b', rfl⟩ : ∃ b', b = b' + 1 := ⟨b - 1, by omega⟩
        by_cases hk : m ≤ halfN n
        · rw [manyS_lo he (by omega) hk] at h
          rw [bothG_lo he (by omega) hk, bothG_lo he (by omega) hk, bothG_congr b' g g' t t' m (halfN n) whole (by omega) (fun j hj => h j (by omega)), h _ (Nat.lt_succ_self _)]
        · rw [manyS_hi he (by omega) hk] at h
          rw [bothG_hi he (by omega) hk, bothG_hi he (by omega) hk, bothG_congr b' g g' t t' (m - halfN n) (n - halfN n) false (by omega) (fun j hj => h j (by omega)), h _ (Nat.lt_succ_self _)]
theorem both_old : ∀ (b : Nat) (old old' : HF) (g : Nat → HF) (t m n : Nat), n ≤ b → 0 < m → m ≤ n → bothG old g t m n false = bothG old' g t m n false
  | b, old, old', g, t, m, n, hb, hm0, hmn => by
    by_cases he : m = n
    · rw [bothG_eq he, bothG_eq he]; rfl
    · obtain ⟨k1, k2, k3⟩ := halfN_lt (n := n) (by omega)
      obtain ⟨b', rfl⟩ : ∃ b', b = b' + 1 := ⟨b - 1, by omega⟩
      by_cases hk : m ≤ halfN n
      · rw [bothG_lo he (by omega) hk, bothG_lo he (by omega) hk, both_old b' old old' g t m (halfN n) (by omega) hm0 hk]
      · rw [bothG_hi he (by omega) hk, bothG_hi he (by omega) hk, both_old b' old old' g t (m - halfN n) (n - halfN n) (by omega) (by omega) (by omega)]
/-- the growth of a list leads from the root of its beginning to its root -/
theorem both_grow : ∀ (k : Nat) (L : List (List UInt8)) (m : Nat) (whole : Bool), L.length ≤ k → 0 < m → m ≤ L.length → bothG (rootS (L.take m)) (hg (growS L m whole)) 0 m L.length whole = (rootS (L.take m), rootS L)
  | k, L, m, whole, hk, hm0, hm => by
    by_cases he : m = L.length
    · have e : L.take m = L := List.take_of_length_le (by omega)
      rw [bothG_eq he, e, growS_eq he]
      cases whole <;> rfl
    · obtain ⟨k1, k2, k3⟩ := halfN_lt (n := L.length) (by omega)
      obtain ⟨k', rfl⟩ : ∃ k', k = k' + 1 := ⟨k - 1, by omega⟩
      have hlt : (L.take (halfN L.length)).length = halfN L.length := by rw [List.length_take]; omega
      have hld : (L.drop (halfN L.length)).length = L.length - halfN L.length := List.length_drop
      by_cases hk2 : m ≤ halfN L.length
      · have ih := both_grow k' (L.take (halfN L.length)) m whole (by omega) hm0 (by omega)
        have hl := growS_len _ (L.take (halfN L.length)) m whole (Nat.le_refl _)
        rw [hlt] at ih hl
        rw [List.take_take, show min m (halfN L.length) = m by omega] at ih
        have hc : bothG (rootS (L.take m)) (hg (growS L m whole)) 0 m (halfN L.length) whole = bothG (rootS (L.take m)) (hg (growS (L.take (halfN L.length)) m whole)) 0 m (halfN L.length) whole :=
          bothG_congr _ _ _ _ _ _ _ _ (Nat.le_refl _) (fun j hj => by
            rw [growS_lo he (by omega) hk2]
            unfold hg
            exact getD_front _ _ _ _ (by rw [hl]; omega))
        rw [bothG_lo he (by omega) hk2, hc, ih]
        refine Prod.ext rfl ?_
        show nodeS _ _ = _
        rw [rootS_2 (L := L) (by omega)]
        congr 1
        rw [Nat.zero_add, growS_lo he (by omega) hk2, ← hl]
        unfold hg
        exact getD_last _ _ _
      · have ih := both_grow k' (L.drop (halfN L.length)) (m - halfN L.length) false (by omega) (by omega) (by omega)
        have hl := growS_len _ (L.drop (halfN L.length)) (m - halfN L.length) false (Nat.le_refl _)
        rw [hld] at ih hl
        have hhm := halfN_same (n := L.length) (m := m) (by omega) (by omega) hm
        have hlm : (L.take m).length = m := by rw [List.length_take]; omega
        have hroot : rootS (L.take m) = nodeS (rootS (L.take (halfN L.length))) (rootS ((L.drop (halfN L.length)).take (m - halfN L.length))) := by
          rw [rootS_2 (L := L.take m) (by omega), hlm, hhm, List.take_take, show min (halfN L.length) m = halfN L.length by omega, List.drop_take]
        have hc : bothG (rootS (L.take m)) (hg (growS L m whole)) 0 (m - halfN L.length) (L.length - halfN L.length) false = bothG (rootS ((L.drop (halfN L.length)).take (m - halfN L.length))) (hg (growS (L.drop (halfN L.length)) (m - halfN L.length) false)) 0 (m - halfN L.length) (L.length - halfN L.length) false := by
          have h1 := bothG_congr (old := rootS (L.take m)) _ (hg (growS L m whole)) (hg (growS (L.drop (halfN L.length)) (m - halfN L.length) false)) 0 0 (m - halfN L.length) (L.length - halfN L.length) false (Nat.le_refl _) (fun j hj => by
            rw [growS_hi he (by omega) hk2]
            unfold hg
            exact getD_front _ _ _ _ (by rw [hl]; omega))
          rw [h1]
          exact both_old _ _ _ _ _ _ _ (Nat.le_refl _) (by omega) (by omega)
        rw [bothG_hi he (by omega) hk2, hc, ih]
        have hlast : hg (growS L m whole) (0 + manyS (m - halfN L.length) (L.length - halfN L.length) false) = rootS (L.take (halfN L.length)) := by
          rw [Nat.zero_add, growS_hi he (by omega) hk2, ← hl]
          unfold hg
          exact getD_last _ _ _
        rw [hlast, hroot, rootS_2 (L := L) (by omega)]
/-- whether a proof proves growth -/
def growB (size : Int) (root : HF) (next : Int) (top : HF) (H : List HF) : Bool :=
  if size < 0 ∨ next < size then false else if size = next then decide (H.length = 0 ∧ hl root 32 = hl top 32) else if size = 0 then decide (H.length = 0 ∧ hl root 32 = hl (sb []) 32) else
    decide (H.length = manyS size.toNat next.toNat true ∧ hl (bothG root (hg H) 0 size.toNat next.toNat true).1 32 = hl root 32 ∧ hl (bothG root (hg H) 0 size.toNat next.toNat true).2 32 = hl top 32)
/-- the growth of a list, from its first m strings on -/
def growthS (L : List (List UInt8)) (m : Nat) : List HF := if m = 0 then [] else growS L m true
theorem grow_good {L : List (List UInt8)} {m : Nat} (hm : m ≤ L.length) : growB m (rootS (L.take m)) L.length (rootS L) (growthS L m) = true := by
  unfold growB growthS
  rw [if_neg (by omega)]
  by_cases he : m = L.length
  · have e : L.take m = L := List.take_of_length_le (by omega)
    rw [if_pos (by omega), e, growS_eq he]
    simp
  · rw [if_neg (by omega)]
    by_cases h0 : m = 0
    · subst h0
      rw [if_pos rfl]
      simp [rootS_0]
    · rw [if_neg (by omega), if_neg h0]
      have h1 := growS_len _ L m true (Nat.le_refl _)
      have h2 := both_grow _ L m true (Nat.le_refl _) (by omega) hm
      simp [h1, h2]
end Go.Proofs.Ytijhdfllffkfjaa
