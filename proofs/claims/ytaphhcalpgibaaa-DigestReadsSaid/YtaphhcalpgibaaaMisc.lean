/- More on bytes: any number wrapped to a byte; rows of bytes, one of them set; the string of a row; repeated. -/
import Derived.Test.YtaphhcalpgibaaaExt
import Derived.StillTailTactics
namespace Go.Proofs.Ytaphhcalpgibaaa
open Go.RowKit

def toU8 (n : Int) : UInt8 := UInt8.ofNat (n % 256).toNat
theorem wrap_toU8 (n : Int) : IntKind.u8.wrap n = ub (toU8 n) := by
  simp [IntKind.wrap, IntKind.bits, IntKind.signed, ub, toU8]
  omega
theorem emod_toU8 (n : Int) : n % 256 = ub (toU8 n) := by
  simp [ub, toU8]
  omega
def setF (f : Nat → UInt8) (i : Nat) (x : UInt8) : Nat → UInt8 := fun j => if j = i then x else f j
theorem upd_U8 (f : Nat → UInt8) (i : Nat) (x : UInt8) : upd (U8 f) i (.int .u8 (ub x)) = U8 (setF f i x) := by
  funext j
  unfold upd U8 setF
  by_cases h : j = i
  · rw [if_pos h, if_pos h]
  · rw [if_neg h, if_neg h]
theorem Row.setU8 {w : World} {b : Nat} {t : TypeId} {n : Nat} {f : Nat → UInt8} (h : Row w b t n (U8 f)) (i : Nat) (x : UInt8) : Row (w.setCell ⟨b, i, none⟩ (.int .u8 (ub x))) b t n (U8 (setF f i x)) := by
  rw [← upd_U8]
  exact h.set_ i _
theorem hl_getD (f : Nat → UInt8) (n j : Nat) (h : j < n) : (hl f n).getD j 0 = f j := by simp [hl, h]
theorem made_arr (z : Value) (n : Nat) : madeCells #[z] n = arr n (fun _ => z) := by
  apply arr_of
  · simp [madeCells]
  · intro i hi
    have h1 : i % 1 = 0 := Nat.mod_one i
    simp [madeCells, hi, h1]
theorem run_conv_row {P : Program} (src dst e : TypeId) (hs : P.underlying src = some (.slice e)) (he : P.underlying e = some (.int .u8)) (hd : P.underlying dst = some .string)
    {w : World} {b n c : Nat} {t : TypeId} {f : Nat → UInt8} (h : Row w b t n (U8 f)) : (convert src dst (.slice (some ⟨b, 0, none⟩) n c)).run P w = .ok (.string (bs (hl f n))) w :=
  run_conv_cells src dst e hs he hd w b 0 n c (hl f n) (hl_length f n).symm (fun j hj => by
    rw [hl_length] at hj
    rw [Nat.zero_add, h.cell hj, hl_getD f n j hj]; rfl)

set_option maxHeartbeats 1000000 in
theorem repeated_any {c : UInt8} {n : Int} {w : World} (h0 : 0 ≤ n) (hn : n ≤ 400) :
    Calls Try.prog 14 #[.int .u8 (ub c), .int .i64 n] w fun e w' => ∃ z : List UInt8, z.length ≤ 400 ∧ e = .returned (.string (bs z)) ∧ Below w.heap.size w w' := by
  obtain ⟨n, rfl⟩ := Int.eq_ofNat_of_zero_le h0
  have hmk : ∀ W : World, (Instr.makeSlice 33 (.int .i64 (n : Int)) (.int .i64 (n : Int))).run Try.prog W = .ok (.slice (some ⟨W.heap.size, 0, none⟩) n n) (W.alloc (.cells (madeCells #[.int .u8 0] n) 5)) := fun W =>
    run_make_row' _ _ (.int .u8 0) 1 Try.underlying33 (by kernel_rfl) rfl .i64 .i64 n (by omega) (by omega) W
  have HMK := Lib.hid hmk
  go_enter Try.func14, Try.ntmps14
  go_wp2_with fail
  rw [made_arr]
  have hr0 : Row (w.alloc (.cells (arr n fun _ => .int .u8 0) 5)) w.heap.size 5 n (U8 fun _ => 0) := Row.newArr w _ n _
  have hb0 : Below w.heap.size w (w.alloc (.cells (arr n fun _ => .int .u8 0) 5)) := (Below.refl _ _).alloc (Nat.le_refl _) _
  clear hmk HMK
  generalize w.alloc (.cells (arr n fun _ => .int .u8 0) 5) = w0 at *
  go_loopw [6] (fun u wr => ∃ (k : Nat) (f : Nat → UInt8), k ≤ n ∧ u = .int .i64 k ∧ Row wr w.heap.size 5 n (U8 f) ∧ Below w.heap.size w wr) (fun u _ => n - (intOf u).toNat)
  case atStart => exact ⟨0, _, by omega, rfl, hr0, hb0⟩
  case round =>
    clear hr0 hb0
    obtain ⟨k, f, hk, rfl, hr, hb⟩ := hrel
    by_cases hlt : k < n
    · have hlt' : (k : Int) < (n : Int) := by omega
      have c0 : wr.cell? ⟨w.heap.size, k, none⟩ = some (.int .u8 (ub (f k))) := hr.cell (i := k) hlt
      have f0 := hr.frozen k
      go_wp2_with fail
      rw [emod_toU8]
      go_roundw
      case rel => exact ⟨k + 1, _, by omega, by go_num, hr.setU8 k _, hb.setCell (by simp) _⟩
      case measure => simp [intOf]; omega
    · have hge : (n : Int) ≤ k := by omega
      have hv := run_conv_row (P := Try.prog) 33 9 5 Try.underlying33 Try.underlying5 Try.underlying9 (c := n) hr
      go_wp2
      go_ret
      exact ⟨hl f n, by rw [hl_length]; omega, rfl, hb⟩
end Go.Proofs.Ytaphhcalpgibaaa
