/- The hash as a plain function on lists of bytes: no program here. -/
import Derived.Test.YtijhdfllffkfjaaBase
namespace Go.Proofs.Ytijhdfllffkfjaa

def ror (x : BitVec 32) (k : Nat) : BitVec 32 := x >>> k ||| x <<< (32 - k)
def mix3 (x : BitVec 32) (a b c : Nat) : BitVec 32 := ror x a ^^^ ror x b ^^^ ror x c
def wd (b0 b1 b2 b3 : UInt8) : BitVec 32 := zx b0 <<< 24 ||| zx b1 <<< 16 ||| zx b2 <<< 8 ||| zx b3
def KL : List (BitVec 32) := [
    0x428a2f98, 0x71374491, 0xb5c0fbcf, 0xe9b5dba5, 0x3956c25b, 0x59f111f1, 0x923f82a4, 0xab1c5ed5,
    0xd807aa98, 0x12835b01, 0x243185be, 0x550c7dc3, 0x72be5d74, 0x80deb1fe, 0x9bdc06a7, 0xc19bf174,
    0xe49b69c1, 0xefbe4786, 0x0fc19dc6, 0x240ca1cc, 0x2de92c6f, 0x4a7484aa, 0x5cb0a9dc, 0x76f988da,
    0x983e5152, 0xa831c66d, 0xb00327c8, 0xbf597fc7, 0xc6e00bf3, 0xd5a79147, 0x06ca6351, 0x14292967,
    0x27b70a85, 0x2e1b2138, 0x4d2c6dfc, 0x53380d13, 0x650a7354, 0x766a0abb, 0x81c2c92e, 0x92722c85,
    0xa2bfe8a1, 0xa81a664b, 0xc24b8b70, 0xc76c51a3, 0xd192e819, 0xd6990624, 0xf40e3585, 0x106aa070,
    0x19a4c116, 0x1e376c08, 0x2748774c, 0x34b0bcb5, 0x391c0cb3, 0x4ed8aa4a, 0x5b9cca4f, 0x682e6ff3,
    0x748f82ee, 0x78a5636f, 0x84c87814, 0x8cc70208, 0x90befffa, 0xa4506ceb, 0xbef9a3f7, 0xc67178f2]
def K0 (i : Nat) : BitVec 32 := KL.getD i 0

/-- the eight words of a state -/
structure St where
  a : BitVec 32
  b : BitVec 32
  c : BitVec 32
  d : BitVec 32
  e : BitVec 32
  f : BitVec 32
  g : BitVec 32
  h : BitVec 32
def St.get (s : St) (i : Nat) : BitVec 32 := [s.a, s.b, s.c, s.d, s.e, s.f, s.g, s.h].getD i 0
def H0 : St := ⟨0x6a09e667, 0xbb67ae85, 0x3c6ef372, 0xa54ff53a, 0x510e527f, 0x9b05688c, 0x1f83d9ab, 0x5be0cd19⟩
def T1 (s : St) (k w : BitVec 32) : BitVec 32 := s.h + mix3 s.e 6 11 25 + (s.e &&& s.f ^^^ ~~~s.e &&& s.g) + k + w
def T2 (s : St) : BitVec 32 := mix3 s.a 2 13 22 + (s.a &&& s.b ^^^ s.a &&& s.c ^^^ s.b &&& s.c)
def rnd (s : St) (k w : BitVec 32) : St := ⟨T1 s k w + T2 s, s.a, s.b, s.c, s.d + T1 s k w, s.e, s.f, s.g⟩
def rnds (s : St) (K W : Nat → BitVec 32) : Nat → St
  | 0 => s
  | n + 1 => rnd (rnds s K W n) (K n) (W n)
/-- the words of a block: the list of the first n -/
def sg0 (x : BitVec 32) : BitVec 32 := ror x 7 ^^^ ror x 18 ^^^ x >>> 3
def sg1 (x : BitVec 32) : BitVec 32 := ror x 17 ^^^ ror x 19 ^^^ x >>> 10
def blkWord (b : Nat → UInt8) (i : Nat) : BitVec 32 := wd (b (4 * i)) (b (4 * i + 1)) (b (4 * i + 2)) (b (4 * i + 3))
def wNext (b : Nat → UInt8) (l : List (BitVec 32)) (i : Nat) : BitVec 32 :=
  if i < 16 then blkWord b i else l.getD (i - 16) 0 + sg0 (l.getD (i - 15) 0) + l.getD (i - 7) 0 + sg1 (l.getD (i - 2) 0)
def wL (b : Nat → UInt8) : Nat → List (BitVec 32)
  | 0 => []
  | k + 1 => wL b k ++ [wNext b (wL b k) k]
def wG (b : Nat → UInt8) (k j : Nat) : BitVec 32 := (wL b k).getD j 0
def W0 (b : Nat → UInt8) (i : Nat) : BitVec 32 := wG b 64 i
def St.plus (s t : St) : St := ⟨s.a + t.a, s.b + t.b, s.c + t.c, s.d + t.d, s.e + t.e, s.f + t.f, s.g + t.g, s.h + t.h⟩
def blk (s : St) (b : Nat → UInt8) : St := s.plus (rnds s K0 (W0 b) 64)
def lenByte (n i : Nat) : UInt8 := UInt8.ofNat (8 * n / 2 ^ (8 * i))
def padN (n : Nat) : Nat := (120 - (n + 1) % 64) % 64
def pad (m : List UInt8) : List UInt8 :=
  m ++ [0x80] ++ List.replicate (padN m.length) 0 ++ [lenByte m.length 7, lenByte m.length 6, lenByte m.length 5, lenByte m.length 4, lenByte m.length 3, lenByte m.length 2, lenByte m.length 1, lenByte m.length 0]
def shaGo (p : List UInt8) : Nat → St
  | 0 => H0
  | n + 1 => blk (shaGo p n) (fun j => p.getD (64 * n + j) 0)
def shaSt (m : List UInt8) : St := shaGo (pad m) ((pad m).length / 64)
def outByte (s : St) (i : Nat) : UInt8 := lo8 (s.get (i / 4) >>> (8 * (3 - i % 4)))
def sha (m : List UInt8) : List UInt8 := (List.range 32).map (outByte (shaSt m))

theorem sha_length (m : List UInt8) : (sha m).length = 32 := by simp [sha]
theorem pad_length (m : List UInt8) : (pad m).length = m.length + 9 + padN m.length := by simp [pad]; omega
theorem pad_mod (m : List UInt8) : (pad m).length % 64 = 0 := by rw [pad_length]; unfold padN; omega
theorem wL_length (b : Nat → UInt8) (k : Nat) : (wL b k).length = k := by
  induction k with
  | zero => rfl
  | succ k ih => simp [wL, ih]
theorem wL_get (b : Nat → UInt8) (k j : Nat) : (wL b (k + 1)).getD j 0 = if j = k then wNext b (wL b k) k else (wL b k).getD j 0 := by
  have hl := wL_length b k
  simp only [wL, List.getD_eq_getElem?_getD, List.getElem?_append, hl]
  by_cases h : j < k
  · rw [if_pos h, if_neg (by omega)]
  · rw [if_neg h]
    by_cases h2 : j = k
    · subst h2; simp
    · rw [if_neg h2, List.getElem?_eq_none (by simp; omega), List.getElem?_eq_none (by omega)]
theorem wG_next (b : Nat → UInt8) (k j : Nat) : wG b (k + 1) j = if j = k then wNext b (wL b k) k else wG b k j := wL_get b k j
theorem wNext_low (b : Nat → UInt8) (k : Nat) (h : k < 16) : wd (b (4 * k)) (b (4 * k + 1)) (b (4 * k + 2)) (b (4 * k + 3)) = wNext b (wL b k) k := by
  unfold wNext; rw [if_pos h]; rfl
theorem wNext_high (b : Nat → UInt8) (k : Nat) (h : ¬ k < 16) : wG b k (k - 16) + (ror (wG b k (k - 15)) 7 ^^^ ror (wG b k (k - 15)) 18 ^^^ wG b k (k - 15) >>> 3) + wG b k (k - 7) +
    (ror (wG b k (k - 2)) 17 ^^^ ror (wG b k (k - 2)) 19 ^^^ wG b k (k - 2) >>> 10) = wNext b (wL b k) k := by
  unfold wNext; rw [if_neg h]; rfl
def hexDigit (n : Nat) : UInt8 := [48, 49, 50, 51, 52, 53, 54, 55, 56, 57, 97, 98, 99, 100, 101, 102].getD n 0
def hexText (h : List UInt8) : List UInt8 := h.flatMap fun b => [hexDigit (b.toNat / 16), hexDigit (b.toNat % 16)]
theorem sha_empty : hexText (sha []) = "e3b0c44298fc1c149afbf4c8996fb92427ae41e4649b934ca495991b7852b855".toUTF8.data.toList := by decide +kernel
theorem sha_abc : hexText (sha [97, 98, 99]) = "ba7816bf8f01cfea414140de5dae2223b00361a396177a9cb410ff61f20015ad".toUTF8.data.toList := by decide +kernel
end Go.Proofs.Ytijhdfllffkfjaa
