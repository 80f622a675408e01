/- What the laws of trees share: paths and growths as lists, slices of strings cut. No step of the program here but by contracts. -/
import Derived.Test.YtijhdfllffkfjaaTrW
import Derived.Test.YtijhdfllffkfjaaArgs
namespace Go.Proofs.Ytijhdfllffkfjaa
open Go.RowKit

def ListB (w : World) (H : List HF) (b : Bool) (e : Ending) (w' : World) : Prop := ∃ u, e = .returned (.tuple #[u, .bool b]) ∧ HSlice w' u H ∧ Below w.heap.size w w'
theorem sslice_form {w : World} {v : Value} {L : List (List UInt8)} (h : SSlice w v L) : ∃ (a : Option Addr) (cap : Nat), v = .slice a (L.length : Nat) cap ∧ L.length ≤ cap ∧ cap ≤ 9223372036854775807 ∧ (0 < L.length → ∃ b off : Nat, a = some ⟨b, off, none⟩ ∧ SRow w b off L) := by
  rcases h with ⟨⟨ea, ecap, rfl, eh⟩, rfl⟩ | ⟨b, off, cap, rfl, h2, h3, h4⟩
  · exact ⟨ea, ecap, rfl, Nat.zero_le _, eh, fun h => by simp at h⟩
  · exact ⟨_, cap, rfl, h3, h4, fun _ => ⟨b, off, rfl, h2⟩⟩
theorem sslice_cut {w : World} {a : Option Addr} {n cap : Nat} {L : List (List UInt8)} (h : SSlice w (.slice a n cap) L) (hn : L.length = n) (k : Nat) (hk : k ≤ n) : SSlice w (.slice a k cap) (L.take k) := by
  have hl : (L.take k).length = k := by rw [List.length_take]; omega
  rcases h with ⟨⟨ea, ecap, he, eh⟩, rfl⟩ | ⟨b, off, c, he, h2, h3, h4⟩
  · injection he with e1 e2 e3
    subst e1 e2 e3
    have : k = 0 := by omega
    subst this
    exact .inl ⟨⟨a, cap, rfl, eh⟩, by simp⟩
  · injection he with e1 e2 e3
    subst e1 e2 e3
    exact .inr ⟨b, off, cap, by rw [hl], h2.take k, by omega, h4⟩
def pathL (L : List (List UInt8)) (n : Int) : List HF := if 0 ≤ n ∧ n < L.length then pathS L n.toNat else []
def pathO (L : List (List UInt8)) (n : Int) : Bool := decide (0 ≤ n ∧ n < L.length)
def growL (L : List (List UInt8)) (n : Int) : List HF := if 0 ≤ n ∧ n ≤ L.length then growthS L n.toNat else []
def growO (L : List (List UInt8)) (n : Int) : Bool := decide (0 ≤ n ∧ n ≤ L.length)
theorem pathL_nat {L : List (List UInt8)} {k : Nat} (h : k < L.length) : pathL L k = pathS L k := by unfold pathL; rw [if_pos (by omega), Int.toNat_natCast]
theorem pathO_nat {L : List (List UInt8)} {k : Nat} (h : k < L.length) : pathO L k = true := decide_eq_true (by omega)
theorem growL_nat {L : List (List UInt8)} {k : Nat} (h : k ≤ L.length) : growL L k = growthS L k := by unfold growL; rw [if_pos (by omega), Int.toNat_natCast]
theorem growO_nat {L : List (List UInt8)} {k : Nat} (h : k ≤ L.length) : growO L k = true := decide_eq_true (by omega)
section
variable {L : List (List UInt8)} {v : Value} {n : Int} {w : World}
theorem path_list (hf : Fits L) (hsm : L.length ≤ 1000) (h : SSlice w v L) : Calls Try.prog 28 #[v, .int .i64 n] w (ListB w (pathL L n) (pathO L n)) := by
  unfold pathL pathO
  by_cases hn : 0 ≤ n ∧ n < L.length
  · rw [if_pos hn, decide_eq_true hn]
    obtain ⟨k, rfl⟩ : ∃ k : Nat, n = k := ⟨n.toNat, by omega⟩
    rw [Int.toNat_natCast]
    rcases h with ⟨⟨ea, ecap, rfl, _⟩, rfl⟩ | ⟨b, off, cap, rfl, h1, h2, h3⟩
    · exfalso; simp at hn; omega
    · exact (path_loop hf h1 h2 h3 (by omega) hsm).mono fun e w' ⟨u, e1, e2, e3⟩ => ⟨u, e1, e2.slice, e3⟩
  · rw [if_neg hn, decide_eq_false hn]
    rcases h with ⟨⟨ea, ecap, rfl, _⟩, rfl⟩ | ⟨b, off, cap, rfl, h1, h2, h3⟩
    · exact (path_bad (len := 0) (by simp at hn; simp; omega)).mono fun e w' ⟨e1, e2⟩ => ⟨_, e1, .inl ⟨Empty.nil, rfl⟩, by rw [e2]; exact Below.refl _ _⟩
    · exact (path_bad (by omega)).mono fun e w' ⟨e1, e2⟩ => ⟨_, e1, .inl ⟨Empty.nil, rfl⟩, by rw [e2]; exact Below.refl _ _⟩
theorem refpath_list (hf : Fits L) (hsm : L.length ≤ 1000) (h : SSlice w v L) : Calls Try.prog 23 #[v, .int .i64 n] w (ListB w (pathL L n) (pathO L n)) := by
  unfold pathL pathO
  by_cases hn : 0 ≤ n ∧ n < L.length
  · rw [if_pos hn, decide_eq_true hn]
    obtain ⟨k, rfl⟩ : ∃ k : Nat, n = k := ⟨n.toNat, by omega⟩
    rw [Int.toNat_natCast]
    rcases h with ⟨⟨ea, ecap, rfl, _⟩, rfl⟩ | ⟨b, off, cap, rfl, h1, h2, h3⟩
    · exfalso; simp at hn; omega
    · exact (refpath_row _ L (Nat.le_refl _) hf hsm w b off cap k h1 h2 h3 (by omega)).mono fun e w' ⟨u, e1, e2, e3⟩ => ⟨u, e1, e2.slice, e3⟩
  · rw [if_neg hn, decide_eq_false hn]
    rcases h with ⟨⟨ea, ecap, rfl, _⟩, rfl⟩ | ⟨b, off, cap, rfl, h1, h2, h3⟩
    · exact (refpath_bad (len := 0) (by simp at hn; simp; omega)).mono fun e w' ⟨e1, e2⟩ => ⟨_, e1, .inl ⟨Empty.nil, rfl⟩, by rw [e2]; exact Below.refl _ _⟩
    · exact (refpath_bad (by omega)).mono fun e w' ⟨e1, e2⟩ => ⟨_, e1, .inl ⟨Empty.nil, rfl⟩, by rw [e2]; exact Below.refl _ _⟩
theorem growth_list (hf : Fits L) (h : SSlice w v L) : Calls Try.prog 34 #[v, .int .i64 n] w (ListB w (growL L n) (growO L n)) := by
  refine (growth_any (m := n) hf h).mono fun e w' he => ?_
  unfold growL growO
  by_cases hn : 0 ≤ n ∧ n ≤ L.length
  · rw [if_pos hn] at he ⊢
    rw [decide_eq_true hn]
    obtain ⟨u, e1, e2, e3⟩ := he
    exact ⟨u, e1, e2.slice, e3⟩
  · rw [if_neg hn] at he ⊢
    rw [decide_eq_false hn]
    obtain ⟨e1, rfl⟩ := he
    exact ⟨_, e1, .inl ⟨Empty.nil, rfl⟩, Below.refl _ _⟩
theorem refgrowth_list (hf : Fits L) (hsm : L.length ≤ 1000) (h : SSlice w v L) : Calls Try.prog 31 #[v, .int .i64 n] w (ListB w (growL L n) (growO L n)) := by
  refine (refgrowth_any (m := n) hf hsm h).mono fun e w' he => ?_
  unfold growL growO
  by_cases hn : 0 ≤ n ∧ n ≤ L.length
  · rw [if_pos hn] at he ⊢
    rw [decide_eq_true hn]
    obtain ⟨u, e1, e2, e3⟩ := he
    exact ⟨u, e1, e2.slice, e3⟩
  · rw [if_neg hn] at he ⊢
    rw [decide_eq_false hn]
    obtain ⟨e1, rfl⟩ := he
    exact ⟨_, e1, .inl ⟨Empty.nil, rfl⟩, Below.refl _ _⟩
/-- the growth of a list is accepted between the heads of its beginning and of the list -/
theorem grows_true {k : Nat} (hk : k ≤ L.length) (hL : L.length ≤ 1000) (hv : HSlice w v (growthS L k)) :
    Calls Try.prog 32 #[.agg (hd (k : Nat) (rootS (L.take k))), .agg (hd (L.length : Nat) (rootS L)), v] w (Said true w) := by
  have := grows_any (size := (k : Int)) (next := (L.length : Int)) (root := rootS (L.take k)) (top := rootS L) (by omega) hv
  rw [grow_good hk] at this
  exact this
/-- a path of a list is accepted for its string and number -/
theorem fits_true {k : Nat} (hk : k < L.length) (hL : L.length ≤ 1000) (hf : Fits L) (hv : HSlice w v (pathS L k)) :
    Calls Try.prog 21 #[.agg (hd (L.length : Nat) (rootS L)), .int .i64 (k : Int), .string (bs (L.getD k [])), v] w (Said true w) := by
  have := fits_any (size := (L.length : Int)) (n := (k : Int)) (root := rootS L) (leaf := L.getD k []) (by omega) (hf.get k) hv
  rw [fit_path hk] at this
  exact this
end
end Go.Proofs.Ytijhdfllffkfjaa
