/- Strings as lists of bytes, in the walk's spelling. -/
import Derived.Test.YtijhdfllffkfjaaApp
namespace Go.Proofs.Ytijhdfllffkfjaa
open Go.RowKit

/-- a string of a list of bytes -/
def bs (l : List UInt8) : ByteArray := ⟨l.toArray⟩
@[go_sem] theorem bs_size (l : List UInt8) : (bs l).size = l.length := by simp [bs, ByteArray.size]
@[go_sem] theorem bs_append (l m : List UInt8) : bs l ++ bs m = bs (l ++ m) := by
  apply ByteArray.ext
  simp [bs]
@[go_sem] theorem bs_append_lit (l m : List UInt8) : bs l ++ ⟨m.toArray⟩ = bs (l ++ m) := bs_append l m
@[go_sem] theorem lit_append_bs (l m : List UInt8) : (⟨l.toArray⟩ : ByteArray) ++ bs m = bs (l ++ m) := bs_append l m
theorem bs_of (s : ByteArray) : s = bs s.data.toList := by
  apply ByteArray.ext
  simp [bs]
theorem bs_data (l : List UInt8) : (bs l).data.toList = l := by simp [bs]
@[go_sem] theorem bs_toList (l : List UInt8) : (bs l).toList = l := by
  rw [ByteArray.toList_eq]; simp [bs]
theorem bs_inj {l m : List UInt8} (h : bs l = bs m) : l = m := by
  have := congrArg (fun x => x.data.toList) h
  simpa [bs] using this
/-- the byte at an index, 0 beyond the end -/
def bg (l : List UInt8) (i : Nat) : UInt8 := l.getD i 0
@[go_sem] theorem bs_get (l : List UInt8) (i : Nat) (h : i < (bs l).size) : ((((bs l)[i]'h).toNat : Nat) : Int) = ub (bg l i) := by
  have h' : i < l.length := by rw [bs_size] at h; exact h
  have : (bs l)[i]'h = l[i] := by
    show (bs l).data[i] = _
    simp [bs]
  rw [this]
  simp [ub, bg, h']
@[go_sem] theorem bs_extract (l : List UInt8) (a b : Nat) : (bs l).extract a b = bs ((l.take b).drop a) := by
  apply ByteArray.ext
  simp only [bs, ByteArray.data_extract, List.extract_toArray]
  congr 1
  rw [List.extract_eq_take_drop, List.drop_take]
theorem bs_lit (l : List UInt8) : (⟨l.toArray⟩ : ByteArray) = bs l := rfl
/-- the string of a slice of bytes: of known cells; of a row of the call's own -/
theorem run_conv_cells {P : Program} (src dst e : TypeId) (hs : P.underlying src = some (.slice e)) (he : P.underlying e = some (.int .u8)) (hd : P.underlying dst = some .string)
    (w : World) (b off n c : Nat) (l : List UInt8) (hn : n = l.length) (h : ∀ j, j < l.length → w.cell? ⟨b, off + j, none⟩ = some (.int .u8 (ub (l.getD j 0)))) :
    (convert src dst (.slice (some ⟨b, off, none⟩) n c)).run P w = .ok (.string (bs l)) w := by
  subst hn
  refine run_convert_bytes_back w src dst e ⟨b, off, none⟩ c l hs he hd (fun j hj => ?_)
  have hadd : (⟨b, off, none⟩ : Addr).add j = ⟨b, off + j, none⟩ := by unfold Addr.add; split <;> simp_all
  rw [hadd, h j hj]
  simp [ub, hj]
theorem run_conv_own {P : Program} (src dst e : TypeId) (hs : P.underlying src = some (.slice e)) (he : P.underlying e = some (.int .u8)) (hd : P.underlying dst = some .string)
    {w : World} {base : Nat} {t : TypeId} {v : Value} {l : List UInt8} (h : Own w base t v (BV l)) : (convert src dst v).run P w = .ok (.string (bs l)) w := by
  rcases Nat.eq_zero_or_pos l.length with h0 | hp
  · have hn : l = [] := List.eq_nil_of_length_eq_zero h0
    subst hn
    obtain ⟨a, c, rfl, _⟩ := h.len
    rcases a with _ | ⟨b, off, sp⟩
    · rw [run_convert_bytes_nil w src e hs he _ _ dst hd]; rfl
    · exact run_convert_bytes_back w src dst e ⟨b, off, sp⟩ c [] hs he hd (fun j hj => by simp at hj)
  · obtain ⟨g, cap, rfl, _, _, _, _, hc, _⟩ := h.form (by rw [BV_length]; exact hp)
    rw [BV_length]
    exact run_conv_cells src dst e hs he hd w g 0 l.length cap l rfl (fun j hj => by rw [Nat.zero_add]; exact hc j _ (BV_get l j hj))
end Go.Proofs.Ytijhdfllffkfjaa
