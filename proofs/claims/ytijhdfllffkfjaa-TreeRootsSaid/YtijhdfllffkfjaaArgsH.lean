/- Hashes that came in. No step of the program here. -/
import Derived.Test.YtijhdfllffkfjaaArgs
namespace Go.Proofs.Ytijhdfllffkfjaa
open Go.ChangeShapes Go.WideShapes Go.ChangeAt Go.RowKit

theorem open_bytes {P : Program} {w : World} {r : Reach} {b0 : Nat} {t e : TypeId} {n : Nat} {v : Value} (ht : P.underlying t = some (.array n e)) (he : P.underlying e = some (.int .u8)) (hc : P.cellsOf t = n) (hk : P.cellTypes P.depth t = some (List.replicate n e))
    (hval : Value.okWide P w r b0 t v) : ∃ f : Nat → UInt8, v = .agg (arr n (U8 f)) := by
  unfold Value.okWide at hval
  rw [ht] at hval
  obtain ⟨cs, rfl, hsz, ts, hts, -, hcell⟩ := hval
  rw [hk] at hts
  cases hts
  rw [hc] at hsz
  have hex : ∀ i, i < n → ∃ x : UInt8, cs[i]? = some (.int .u8 (ub x)) := by
    intro i hi
    obtain ⟨u, hu, hok⟩ := hcell i cs[i] (by simp)
    rw [List.length_replicate, Nat.mod_eq_of_lt hi] at hu
    have hu' : u = e := by
      rw [List.getElem?_replicate, if_pos hi] at hu
      exact (Option.some.inj hu).symm
    subst hu'
    obtain ⟨k, hk, hlo, hhi⟩ : ∃ k : Int, cs[i] = .int .u8 k ∧ 0 ≤ k ∧ k < 256 := by
      generalize cs[i] = c at hok
      unfold Cell.okWide Cell.ok at hok
      rw [he] at hok
      cases c <;> simp at hok
      rename_i k' m
      obtain ⟨rfl, hh⟩ := hok
      refine ⟨m, rfl, ?_⟩
      simp [IntKind.has, IntKind.min, IntKind.max, IntKind.signed, IntKind.bits] at hh
      omega
    refine ⟨UInt8.ofNat k.toNat, ?_⟩
    rw [Array.getElem?_eq_getElem (by omega), hk]
    unfold ub
    congr 2
    simp
    omega
  refine ⟨fun i => if h : i < n then (hex i h).choose else 0, ?_⟩
  congr 1
  apply arr_of hsz
  intro i hi
  have := (hex i hi).choose_spec
  rw [this]
  unfold U8
  simp only [hi, dif_pos]
end Go.Proofs.Ytijhdfllffkfjaa
