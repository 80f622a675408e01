/- digest.Text, sortesref03.Text. -/
import Derived.Test.YtaphhcalpgibaaaLib
namespace Go.Proofs.Ytaphhcalpgibaaa
open Go.RowKit

def U8 (f : Nat → UInt8) : Nat → Value := fun i => .int .u8 (ub (f i))
/-- the first n bytes of a function -/
def hl (f : Nat → UInt8) (n : Nat) : List UInt8 := (List.range n).map f
theorem hl_succ (f : Nat → UInt8) (n : Nat) : hl f (n + 1) = hl f n ++ [f n] := by simp [hl, List.range_succ]
theorem hl_length (f : Nat → UInt8) (n : Nat) : (hl f n).length = n := by simp [hl]
theorem hexText_snoc (l : List UInt8) (x : UInt8) : hexText (l ++ [x]) = hexText l ++ [hexDigit (x.toNat / 16), hexDigit (x.toNat % 16)] := by simp [hexText]
theorem hexText_length (l : List UInt8) : (hexText l).length = 2 * l.length := by
  induction l with
  | nil => rfl
  | cons x l ih =>
    have : hexText (x :: l) = [hexDigit (x.toNat / 16), hexDigit (x.toNat % 16)] ++ hexText l := rfl
    rw [this, List.length_append, ih]
    simp; omega
theorem sha_hl (m : List UInt8) : sha m = hl (outByte (shaSt m)) 32 := rfl

/-- the sixteen digits, as the code has them -/
abbrev digs : ByteArray := ⟨#[48, 49, 50, 51, 52, 53, 54, 55, 56, 57, 97, 98, 99, 100, 101, 102]⟩
theorem digs_get' : ∀ n : Fin 16, (((digs[n.val]'n.isLt).toNat : Nat) : Int) = ub (hexDigit n.val) := by decide
@[local go_sem] theorem digs_get (n : Nat) (h : n < digs.size) : (((digs[n]'h).toNat : Nat) : Int) = ub (hexDigit n) := digs_get' ⟨n, h⟩
@[local go_sem high] theorem ub_quo16 (x : UInt8) : IntKind.u8.wrap ((ub x).tdiv 16) = ub x / 16 := by
  have h : ∀ n : Fin 256, IntKind.u8.wrap (((n.val : Nat) : Int).tdiv 16) = ((n.val : Nat) : Int) / 16 := by decide +kernel
  exact h ⟨x.toNat, x.toNat_lt⟩
@[local go_sem high] theorem ub_rem16 (x : UInt8) : IntKind.u8.wrap ((ub x).tmod 16) = ub x % 16 := by
  have h : ∀ n : Fin 256, IntKind.u8.wrap (((n.val : Nat) : Int).tmod 16) = ((n.val : Nat) : Int) % 16 := by decide +kernel
  exact h ⟨x.toNat, x.toNat_lt⟩
@[local go_sem high] theorem ub_rem16' (x : UInt8) : (ub x).tmod 16 = ub x % 16 := by
  have h : ∀ n : Fin 256, (((n.val : Nat) : Int).tmod 16) = ((n.val : Nat) : Int) % 16 := by decide +kernel
  exact h ⟨x.toNat, x.toNat_lt⟩
theorem digs_cut (n : Nat) (h : n < 16) : digs.extract n (n + 1) = bs [hexDigit n] := by
  have h' : ∀ n : Fin 16, digs.extract n.val (n.val + 1) = bs [hexDigit n.val] := by decide
  exact h' ⟨n, h⟩
theorem ub_and15 (x : UInt8) : bits .and .u8 (ub x) 15 = ub x % 16 := by
  have h : ∀ n : Fin 256, bits .and .u8 ((n.val : Nat) : Int) 15 = ((n.val : Nat) : Int) % 16 := by decide +kernel
  exact h ⟨x.toNat, x.toNat_lt⟩

set_option maxHeartbeats 2000000 in
set_option maxRecDepth 100000 in
theorem text_any (h : Nat → UInt8) (w : World) :
    Calls Try.prog 16 #[.agg (arr 32 (U8 h))] w fun e w' => e = .returned (.string (bs (hexText (hl h 32)))) ∧ Below w.heap.size w w' := by
  go_enter Try.func16, Try.ntmps16
  go_wp2_with (refine wpList_load_is rfl 24 (.tmp 1) rfl w.heap.size rfl 24 32 _ ((Row.newArr w 24 32 (U8 h)).alloc _) Try.underlying24 (by kernel_rfl) ?_)
  have hI0 := Lib.IsBuilderF.of (Lib.fresh_isBuilder 56 5 (w.alloc (.cells (arr 32 (U8 h)) 24)))
  have hb0 : Below w.heap.size w ((w.alloc (.cells (arr 32 (U8 h)) 24)).alloc (.cells #[.pointer none, .slice none 0 0] 56)) := ((Below.refl _ w).alloc (Nat.le_refl _) _).alloc (by simp) _
  simp only [World.size_alloc] at hI0
  generalize (w.alloc (.cells (arr 32 (U8 h)) 24)).alloc (.cells #[.pointer none, .slice none 0 0] 56) = w0 at *
  go_loopw [7] (fun u wr => ∃ k : Nat, k ≤ 32 ∧ u = .int .i64 k ∧ Lib.IsBuilderF 56 5 (w.heap.size + 1) (w.heap.size + 1) (Lib.byteCells (hexText (hl h k))) wr ∧ Below w.heap.size w wr) (fun u _ => 32 - (intOf u).toNat)
  case atStart => exact ⟨0, by omega, rfl, hI0, hb0⟩
  case round =>
    clear hI0 hb0
    obtain ⟨k, hk, rfl, hI, hb⟩ := hrel
    have hlt : w.heap.size + 1 < wr.heap.size := hI.elim (fun x => x.lt) (fun x => x.lt)
    by_cases h32 : k < 32
    · have h32' : (k : Int) < 32 := by omega
      have hx : ∀ W : World, (Instr.index 24 (.agg (arr 32 (U8 h))) (.int .i64 (k : Int))).run Try.prog W = .ok (.int .u8 (ub (h k))) W :=
        fun W => run_index_arr _ _ 32 (U8 h) _ Try.underlying24 (by kernel_rfl) Try.underlying5 rfl _ k h32 W
      have HX := Lib.hid hx
      have b0 := ub_nonneg (h k)
      have b1 := ub_lt (h k)
      have p0 : 0 ≤ ub (h k) / 16 ∧ ub (h k) / 16 < 16 := by omega
      have p1 : 0 ≤ ub (h k) % 16 ∧ ub (h k) % 16 < 16 := by omega
      have t0 : (ub (h k) / 16).toNat = (h k).toNat / 16 := by unfold ub; omega
      have t1 : (ub (h k) % 16).toNat = (h k).toNat % 16 := by unfold ub; omega
      have a1 := ub_and15 (h k)
      have hln : (Lib.byteCells (hexText (hl h k))).length = 2 * k := by rw [Lib.byteCells_length, hexText_length, hl_length]
      go_wp2_with ((go_at_call 28; refine (writeByte_any hI (by omega) (by omega)).mono ?_))
      rintro e w1 ⟨rfl, hI1, hb1, -⟩
      have hz1 := hb1.size
      go_wp2_with ((go_at_call 28; refine (writeByte_any hI1 (by rw [List.length_append]; simp only [List.length_cons, List.length_nil]; omega) (by omega)).mono ?_))
      rintro e w2 ⟨rfl, hI2, hb2, -⟩
      go_wp2
      go_roundw
      case rel =>
        refine ⟨k + 1, by omega, by go_num, ?_, (hb.trans (hb1.mono (by omega))).trans (hb2.mono (by omega))⟩
        have e : Lib.byteCells (hexText (hl h (k + 1))) = Lib.byteCells (hexText (hl h k)) ++ [.int .u8 (ub (hexDigit ((h k).toNat / 16)))] ++ [.int .u8 (ub (hexDigit ((h k).toNat % 16)))] := by
          rw [hl_succ, hexText_snoc, Lib.byteCells_append, List.append_assoc]
          rfl
        rw [e]
        exact hI2
      case measure => simp [intOf]; omega
    · have hge : (32 : Int) ≤ k := by omega
      obtain rfl : k = 32 := by omega
      go_wp2_with ((go_at_call 29; refine (string_any hI (by omega)).mono ?_))
      rintro e w1 ⟨rfl, -, hb1, -⟩
      go_wp2
      go_ret
      exact ⟨rfl, hb.trans (hb1.mono (by omega))⟩

set_option maxHeartbeats 2000000 in
set_option maxRecDepth 100000 in
theorem reftext_any (h : Nat → UInt8) (w : World) :
    Calls Try.prog 17 #[.agg (arr 32 (U8 h))] w fun e w' => e = .returned (.string (bs (hexText (hl h 32)))) ∧ Below w.heap.size w w' := by
  go_enter Try.func17, Try.ntmps17
  go_wp2_with fail
  have hr0 := Row.newArr w 24 32 (U8 h)
  have hb0 : Below w.heap.size w (w.alloc (.cells (arr 32 (U8 h)) 24)) := (Below.refl _ w).alloc (Nat.le_refl _) _
  generalize w.alloc (.cells (arr 32 (U8 h)) 24) = w0 at *
  go_loopw [3, 4] (fun v u wr => ∃ k : Nat, k ≤ 32 ∧ u = .int .i64 k ∧ v = .string (bs (hexText (hl h k))) ∧ Row wr w.heap.size 24 32 (U8 h) ∧ Below w.heap.size w wr) (fun v u _ => 32 - (intOf u).toNat)
  case atStart => exact ⟨0, by omega, rfl, rfl, hr0, hb0⟩
  case round =>
    clear hr0 hb0
    obtain ⟨k, hk, rfl, rfl, hr, hb⟩ := hrel
    by_cases h32 : k < 32
    · have h32' : (k : Int) < 32 := by omega
      have c0 : wr.cell? ⟨w.heap.size, k, none⟩ = some (.int .u8 (ub (h k))) := hr.cell (i := k) h32
      have b0 := ub_nonneg (h k)
      have b1 := ub_lt (h k)
      have p0 : 0 ≤ ub (h k) / 16 ∧ ub (h k) / 16 < 16 := by omega
      have p1 : 0 ≤ ub (h k) % 16 ∧ ub (h k) % 16 < 16 := by omega
      have t0 : (ub (h k) / 16).toNat = (h k).toNat / 16 := by unfold ub; omega
      have t1 : (ub (h k) % 16).toNat = (h k).toNat % 16 := by unfold ub; omega
      have q0 : digs.extract ((h k).toNat / 16) ((h k).toNat / 16 + 1) = bs [hexDigit ((h k).toNat / 16)] := digs_cut _ (by have := (h k).toNat_lt; omega)
      have q1 : digs.extract ((h k).toNat % 16) ((h k).toNat % 16 + 1) = bs [hexDigit ((h k).toNat % 16)] := digs_cut _ (by omega)
      have e0 : IntKind.u8.wrap (ub (h k) / 16 + 1) = ub (h k) / 16 + 1 := by simp [IntKind.wrap, IntKind.bits, IntKind.signed]; omega
      have e1 : IntKind.u8.wrap (ub (h k) % 16 + 1) = ub (h k) % 16 + 1 := by simp [IntKind.wrap, IntKind.bits, IntKind.signed]; omega
      have hlb : (hexText (hl h k)).length ≤ 62 := by rw [hexText_length, hl_length]; omega
      have r0 : 0 ≤ ub (h k) / 16 + 1 := by omega
      have r1 : 0 ≤ ub (h k) % 16 + 1 := by omega
      have s0 : ub (h k) / 16 ≤ ub (h k) / 16 + 1 ∧ ub (h k) / 16 + 1 ≤ 16 := by omega
      have s1 : ub (h k) % 16 ≤ ub (h k) % 16 + 1 ∧ ub (h k) % 16 + 1 ≤ 16 := by omega
      have u0 : (ub (h k) / 16 + 1).toNat = (h k).toNat / 16 + 1 := by unfold ub; omega
      have u1 : (ub (h k) % 16 + 1).toNat = (h k).toNat % 16 + 1 := by unfold ub; omega
      go_wp2_with fail
      go_quiet (fail)
      rw [← hexText_snoc, ← hl_succ]
      go_wp2
      go_roundw
      case rel => exact ⟨k + 1, by omega, by go_num, rfl, hr.drewN _, Below.drewN hb _⟩
      case measure => simp [intOf]; omega
    · have hge : (32 : Int) ≤ k := by omega
      obtain rfl : k = 32 := by omega
      go_wp2
      go_ret
      exact ⟨rfl, hb⟩
end Go.Proofs.Ytaphhcalpgibaaa
