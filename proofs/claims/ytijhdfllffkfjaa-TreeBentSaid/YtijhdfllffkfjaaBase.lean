/- Words of 32 bits and bytes as the walk's numbers: each operation of Go on them is the operation on BitVec 32 or UInt8. No condition. -/
import Derived.WalkKit
import Derived.WalkSpells
import Derived.WalkLawsBesides
import Derived.Deep.QuietTactic
import Derived.BigQuiet
import Derived.Lib.Hide
import Derived.Deep.OwnRows
import Derived.Deep.Draws
namespace Go.Proofs.Ytijhdfllffkfjaa
open Go.RowKit

/-- a word as a number -/
def un (x : BitVec 32) : Int := (x.toNat : Int)
/-- a byte as a number -/
def ub (x : UInt8) : Int := (x.toNat : Int)

theorem un_nonneg (x : BitVec 32) : 0 ≤ un x := by unfold un; omega
theorem un_lt (x : BitVec 32) : un x < 4294967296 := by unfold un; have := x.isLt; omega
theorem ub_nonneg (x : UInt8) : 0 ≤ ub x := by unfold ub; omega
theorem ub_lt (x : UInt8) : ub x < 256 := by unfold ub; have := x.toNat_lt; omega
theorem un_inj {x y : BitVec 32} (h : un x = un y) : x = y := BitVec.eq_of_toNat_eq (by unfold un at h; omega)
theorem ub_inj {x y : UInt8} (h : ub x = ub y) : x = y := UInt8.toNat.inj (by unfold ub at h; omega)

theorem ofInt_un (x : BitVec 32) : BitVec.ofInt 32 (un x) = x := by
  unfold un
  rw [BitVec.ofInt_natCast]
  simp
theorem wrap_u32_toNat (x : BitVec 32) : IntKind.u32.wrap (x.toNat : Int) = un x := by
  have := x.isLt
  simp [IntKind.wrap, IntKind.bits, IntKind.signed, un]
  omega
theorem wrap_u32_any (n : Int) : IntKind.u32.wrap n = un (BitVec.ofInt 32 n) := by
  simp [IntKind.wrap, IntKind.bits, IntKind.signed, un, BitVec.toNat_ofInt]
  omega
theorem bits_un_and (x y : BitVec 32) : bits .and .u32 (un x) (un y) = un (x &&& y) := by
  have : bits .and .u32 (un x) (un y) = IntKind.u32.wrap ((BitVec.ofInt 32 (un x) &&& BitVec.ofInt 32 (un y)).toNat : Int) := rfl
  rw [this, ofInt_un, ofInt_un, wrap_u32_toNat]
theorem bits_un_or (x y : BitVec 32) : bits .or .u32 (un x) (un y) = un (x ||| y) := by
  have : bits .or .u32 (un x) (un y) = IntKind.u32.wrap ((BitVec.ofInt 32 (un x) ||| BitVec.ofInt 32 (un y)).toNat : Int) := rfl
  rw [this, ofInt_un, ofInt_un, wrap_u32_toNat]
theorem bits_un_xor (x y : BitVec 32) : bits .xor .u32 (un x) (un y) = un (x ^^^ y) := by
  have : bits .xor .u32 (un x) (un y) = IntKind.u32.wrap ((BitVec.ofInt 32 (un x) ^^^ BitVec.ofInt 32 (un y)).toNat : Int) := rfl
  rw [this, ofInt_un, ofInt_un, wrap_u32_toNat]
section
variable (t : TypeId) (x y : BitVec 32)
@[go_sem high] theorem binOp_un_and : binOp .and t (.int .u32 (un x)) (.int .u32 (un y)) = pure (.int .u32 (un (x &&& y))) := by
  rw [binOp_and, intBits_and, bits_un_and]
@[go_sem high] theorem binOp_un_or : binOp .or t (.int .u32 (un x)) (.int .u32 (un y)) = pure (.int .u32 (un (x ||| y))) := by
  rw [binOp_or, intBits_or, bits_un_or]
@[go_sem high] theorem binOp_un_xor : binOp .xor t (.int .u32 (un x)) (.int .u32 (un y)) = pure (.int .u32 (un (x ^^^ y))) := by
  rw [binOp_xor, intBits_xor, bits_un_xor]
@[go_sem high] theorem binOp_un_add : binOp .add t (.int .u32 (un x)) (.int .u32 (un y)) = pure (.int .u32 (un (x + y))) := by
  rw [binOp_add]
  have : IntKind.u32.wrap (un x + un y) = un (x + y) := by
    rw [wrap_u32_any]
    exact congrArg un (BitVec.eq_of_toNat_eq (by simp [un, BitVec.toNat_ofInt]; omega))
  simp [Op.intArith, this]
@[go_sem high] theorem unary_un_xor : Op.unary .xor (.int .u32 (un x)) = pure (.int .u32 (un (~~~x))) := by
  rw [unary_xor]
  have e : (if IntKind.u32.signed = true then (-1 : Int) else IntKind.u32.max) = un (BitVec.allOnes 32) := by decide
  rw [e, intBits_xor, bits_un_xor, BitVec.allOnes_xor]
theorem binOp_un_shl (yk : IntKind) (n : Int) (h0 : 0 ≤ n) : binOp .shl t (.int .u32 (un x)) (.int yk n) = pure (.int .u32 (un (x <<< n.toNat))) := by
  rw [binOp_shl, shift_shl_any _ yk _ _ h0]
  have : IntKind.u32.wrap (un x * 2 ^ min n.toNat IntKind.u32.bits) = un (x <<< n.toNat) := by
    rw [wrap_u32_any]
    congr 1
    apply BitVec.eq_of_toNat_eq
    rw [BitVec.toNat_ofInt, BitVec.toNat_shiftLeft, Nat.shiftLeft_eq]
    unfold un
    rw [show ((x.toNat : Int) * 2 ^ min n.toNat IntKind.u32.bits) = ((x.toNat * 2 ^ min n.toNat IntKind.u32.bits : Nat) : Int) by push_cast; rfl]
    by_cases hn : n.toNat ≤ 32
    · rw [show min n.toNat IntKind.u32.bits = n.toNat from Nat.min_eq_left hn]; omega
    · rw [show min n.toNat IntKind.u32.bits = 32 from Nat.min_eq_right (by simp [IntKind.bits]; omega)]
      obtain ⟨m, hm⟩ : ∃ m, n.toNat = 32 + m := ⟨n.toNat - 32, by omega⟩
      rw [hm, Nat.pow_add, ← Nat.mul_assoc, Nat.mul_right_comm, Nat.mul_mod_left]
      omega
  rw [this]
theorem binOp_un_shr (yk : IntKind) (n : Int) (h0 : 0 ≤ n) : binOp .shr t (.int .u32 (un x)) (.int yk n) = pure (.int .u32 (un (x >>> n.toNat))) := by
  rw [binOp_shr, shift_shr_any _ yk _ _ h0]
  have : un x / 2 ^ min n.toNat IntKind.u32.bits = un (x >>> n.toNat) := by
    unfold un
    rw [BitVec.toNat_ushiftRight, Nat.shiftRight_eq_div_pow]
    by_cases hn : n.toNat ≤ 32
    · rw [show min n.toNat IntKind.u32.bits = n.toNat from Nat.min_eq_left hn]; push_cast; rfl
    · rw [show min n.toNat IntKind.u32.bits = 32 from Nat.min_eq_right (by simp [IntKind.bits]; omega)]
      have h1 := x.isLt
      have h2 : 2 ^ 32 ≤ 2 ^ n.toNat := Nat.pow_le_pow_right (by omega) (by omega)
      rw [Nat.div_eq_of_lt (by omega)]
      omega
  rw [this]
end
theorem un_div_pow (x : BitVec 32) (n : Nat) : un x / 2 ^ n = un (x >>> n) := by
  unfold un
  rw [BitVec.toNat_ushiftRight, Nat.shiftRight_eq_div_pow]
  push_cast
  rfl
theorem un_mul_pow (x : BitVec 32) (n : Nat) : IntKind.u32.wrap (un x * 2 ^ n) = un (x <<< n) := by
  rw [wrap_u32_any]
  congr 1
  apply BitVec.eq_of_toNat_eq
  rw [BitVec.toNat_ofInt, BitVec.toNat_shiftLeft, Nat.shiftLeft_eq]
  unfold un
  rw [show ((x.toNat : Int) * 2 ^ n) = ((x.toNat * 2 ^ n : Nat) : Int) by push_cast; rfl]
  omega
attribute [go_sem high] un_div_pow un_mul_pow bits_un_and bits_un_or bits_un_xor
attribute [go_sem high] binOp_un_shl binOp_un_shr

/-- a byte widened; a word's last byte -/
def zx (b : UInt8) : BitVec 32 := BitVec.ofNat 32 b.toNat
def lo8 (x : BitVec 32) : UInt8 := UInt8.ofNat x.toNat
theorem wrap_u32_ub (b : UInt8) : IntKind.u32.wrap (ub b) = un (zx b) := by
  have := b.toNat_lt
  simp [IntKind.wrap, IntKind.bits, IntKind.signed, un, ub, zx]
  omega
theorem wrap_u8_un (x : BitVec 32) : IntKind.u8.wrap (un x) = ub (lo8 x) := by
  simp [IntKind.wrap, IntKind.bits, IntKind.signed, un, ub, lo8]
theorem wrap_u8_ub (x : UInt8) : IntKind.u8.wrap (ub x) = ub x := by
  have := x.toNat_lt
  simp [IntKind.wrap, IntKind.bits, IntKind.signed, ub]
  omega
attribute [go_sem high] wrap_u32_ub wrap_u8_un wrap_u8_ub
end Go.Proofs.Ytijhdfllffkfjaa
