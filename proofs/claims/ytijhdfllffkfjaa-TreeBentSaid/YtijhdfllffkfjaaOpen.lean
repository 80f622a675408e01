/- Small arrays and ints that came in. No step of the program here. -/
import Derived.Test.YtijhdfllffkfjaaRowG
namespace Go.Proofs.Ytijhdfllffkfjaa
open Go.ChangeShapes Go.WideShapes Go.ChangeAt Go.RowKit

theorem open_i32 {P : Program} {w : World} {r : Reach} {b0 : Nat} {t : TypeId} {v : Value} (ht : P.underlying t = some (.int .i32)) (hval : Value.okWide P w r b0 t v) : ∃ n : Int, v = .int .i32 n ∧ -2147483648 ≤ n ∧ n ≤ 2147483647 := by
  obtain ⟨n, rfl⟩ := okWide_int ht hval
  refine ⟨n, rfl, ?_⟩
  unfold Value.okWide at hval
  rw [ht] at hval
  unfold Cell.okWide Cell.ok at hval
  rw [ht] at hval
  simp [IntKind.has, IntKind.min, IntKind.max, IntKind.signed, IntKind.bits] at hval
  omega
theorem open_nums {P : Program} {w : World} {r : Reach} {b0 : Nat} {t e : TypeId} {k : IntKind} {n : Nat} {v : Value} (ht : P.underlying t = some (.array n e)) (he : P.underlying e = some (.int k)) (hc : P.cellsOf t = n) (hk : P.cellTypes P.depth t = some (List.replicate n e))
    (hval : Value.okWide P w r b0 t v) : ∃ f : Nat → Int, v = .agg (arr n fun i => .int k (f i)) ∧ ∀ i, i < n → k.has (f i) := by
  unfold Value.okWide at hval
  rw [ht] at hval
  obtain ⟨cs, rfl, hsz, ts, hts, -, hcell⟩ := hval
  rw [hk] at hts
  cases hts
  rw [hc] at hsz
  have hex : ∀ i, i < n → ∃ x : Int, cs[i]? = some (.int k x) ∧ k.has x := by
    intro i hi
    obtain ⟨u, hu, hok⟩ := hcell i cs[i] (by simp)
    rw [List.length_replicate, Nat.mod_eq_of_lt hi] at hu
    have hu' : u = e := by
      rw [List.getElem?_replicate, if_pos hi] at hu
      exact (Option.some.inj hu).symm
    subst hu'
    rw [Array.getElem?_eq_getElem (by omega)]
    generalize cs[i] = c at hok
    unfold Cell.okWide Cell.ok at hok
    rw [he] at hok
    cases c <;> simp at hok
    rename_i k' m
    obtain ⟨rfl, hh⟩ := hok
    exact ⟨m, rfl, hh⟩
  refine ⟨fun i => if h : i < n then (hex i h).choose else 0, ?_, ?_⟩
  · congr 1
    apply arr_of hsz
    intro i hi
    have := (hex i hi).choose_spec
    rw [this.1]
    simp only [dif_pos hi]
  · intro i hi
    have := (hex i hi).choose_spec
    simp only [dif_pos hi]
    exact this.2
def In64 (a : Int) : Prop := -9223372036854775808 ≤ a ∧ a ≤ 9223372036854775807
def In32 (a : Int) : Prop := -2147483648 ≤ a ∧ a ≤ 2147483647
theorem has64 {a : Int} (h : IntKind.i64.has a) : In64 a := by
  simp [IntKind.has, IntKind.min, IntKind.max, IntKind.signed, IntKind.bits] at h
  unfold In64; omega
theorem has32 {a : Int} (h : IntKind.i32.has a) : In32 a := by
  simp [IntKind.has, IntKind.min, IntKind.max, IntKind.signed, IntKind.bits] at h
  unfold In32; omega
theorem open_three {P : Program} {w : World} {r : Reach} {b0 : Nat} {t e : TypeId} {v : Value} (ht : P.underlying t = some (.array 3 e)) (he : P.underlying e = some (.int .i64)) (hc : P.cellsOf t = 3) (hk : P.cellTypes P.depth t = some [e, e, e])
    (hval : Value.okWide P w r b0 t v) : ∃ a b c : Int, v = .agg #[.int .i64 a, .int .i64 b, .int .i64 c] ∧ In64 a ∧ In64 b ∧ In64 c := by
  obtain ⟨f, rfl, h⟩ := open_nums ht he hc hk hval
  exact ⟨f 0, f 1, f 2, rfl, has64 (h 0 (by omega)), has64 (h 1 (by omega)), has64 (h 2 (by omega))⟩
theorem open_two32 {P : Program} {w : World} {r : Reach} {b0 : Nat} {t e : TypeId} {v : Value} (ht : P.underlying t = some (.array 2 e)) (he : P.underlying e = some (.int .i32)) (hc : P.cellsOf t = 2) (hk : P.cellTypes P.depth t = some [e, e])
    (hval : Value.okWide P w r b0 t v) : ∃ a b : Int, v = .agg #[.int .i32 a, .int .i32 b] ∧ In32 a ∧ In32 b := by
  obtain ⟨f, rfl, h⟩ := open_nums ht he hc hk hval
  exact ⟨f 0, f 1, rfl, has32 (h 0 (by omega)), has32 (h 1 (by omega))⟩
end Go.Proofs.Ytijhdfllffkfjaa
