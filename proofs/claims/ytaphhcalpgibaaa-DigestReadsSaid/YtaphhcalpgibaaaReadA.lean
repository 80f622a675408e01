/- What Read reads: the plain law. No step of the program here. -/
import Derived.Test.YtaphhcalpgibaaaTexts
import Derived.Test.YtaphhcalpgibaaaMisc
namespace Go.Proofs.Ytaphhcalpgibaaa
open Go.RowKit

/-- the number of a digit, -1 of another byte -/
def dg (x : UInt8) : Int := Lib.indexByte digs.data.toList x
theorem dg_range (x : UInt8) : -1 ≤ dg x ∧ dg x < 16 := by
  have h : ∀ n : Fin 256, -1 ≤ dg (UInt8.ofNat n.val) ∧ dg (UInt8.ofNat n.val) < 16 := by decide +kernel
  have := h ⟨x.toNat, x.toNat_lt⟩
  rw [UInt8.ofNat_toNat] at this
  exact this
theorem dg_hex (n : Nat) (h : n < 16) : dg (hexDigit n) = n := by
  have k : ∀ n : Fin 16, dg (hexDigit n.val) = (n.val : Int) := by decide +kernel
  exact k ⟨n, h⟩
/-- the last place, below k, at which the digits hold a byte -/
def dgTo (x : UInt8) : Nat → Int
  | 0 => -1
  | k + 1 => if ub (hexDigit k) = ub x then (k : Int) else dgTo x k
theorem dgTo_end (x : UInt8) : dgTo x 16 = dg x := by
  have h : ∀ n : Fin 256, dgTo (UInt8.ofNat n.val) 16 = dg (UInt8.ofNat n.val) := by decide +kernel
  have := h ⟨x.toNat, x.toNat_lt⟩
  rw [UInt8.ofNat_toNat] at this
  exact this
def nib (l : List UInt8) (k : Nat) : Nat := (dg (bg l k)).toNat
theorem nib_lt (l : List UInt8) (k : Nat) : nib l k < 16 := by
  have := (dg_range (bg l k)).2
  unfold nib; omega
/-- the bytes when k digits have been read -/
def rdF (l : List UInt8) (k i : Nat) : UInt8 :=
  if 2 * i + 2 ≤ k then UInt8.ofNat (16 * nib l (2 * i) + nib l (2 * i + 1)) else if 2 * i + 1 = k then UInt8.ofNat (nib l (2 * i)) else 0
theorem ofNat_small (n : Nat) (h : n < 256) : (UInt8.ofNat n).toNat = n := by simp; omega
theorem rdF_half (l : List UInt8) (k : Nat) : (rdF l k (k / 2)).toNat < 16 := by
  have h1 := nib_lt l (2 * (k / 2))
  unfold rdF
  rw [if_neg (by omega)]
  split
  · rw [ofNat_small _ (by omega)]; exact h1
  · decide
theorem rdF_succ (l : List UInt8) (k : Nat) : rdF l (k + 1) = setF (rdF l k) (k / 2) (UInt8.ofNat (16 * (rdF l k (k / 2)).toNat + nib l k)) := by
  funext i
  unfold setF
  by_cases hi : i = k / 2
  · rw [if_pos hi]
    subst hi
    have h1 := nib_lt l (2 * (k / 2))
    by_cases hp : k % 2 = 0
    · have e : 2 * (k / 2) = k := by omega
      have h2 : rdF l k (k / 2) = 0 := by unfold rdF; rw [if_neg (by omega), if_neg (by omega)]
      rw [h2]
      unfold rdF
      rw [if_neg (by omega), if_pos (by omega), e]
      simp
    · have e : 2 * (k / 2) + 1 = k := by omega
      have h2 : (rdF l k (k / 2)).toNat = nib l (2 * (k / 2)) := by
        unfold rdF; rw [if_neg (by omega), if_pos (by omega), ofNat_small _ (by omega)]
      rw [h2]
      unfold rdF
      rw [if_pos (by omega), e]
  · rw [if_neg hi]
    unfold rdF
    by_cases h1 : 2 * i + 2 ≤ k
    · rw [if_pos h1, if_pos (by omega)]
    · rw [if_neg h1, if_neg (by omega), if_neg (by omega), if_neg (by omega)]
/-- all of 64 digits are digits -/
def goodTo (l : List UInt8) (k : Nat) : Prop := ∀ j, j < k → 0 ≤ dg (bg l j)
def good (l : List UInt8) : Prop := l.length = 64 ∧ goodTo l 64
instance (l : List UInt8) : Decidable (good l) := by unfold good goodTo; exact inferInstance
def rd (l : List UInt8) : Nat → UInt8 := if good l then rdF l 64 else fun _ => 0
theorem rd_good {l : List UInt8} (h : good l) : rd l = rdF l 64 := if_pos h
theorem rd_bad {l : List UInt8} (h : ¬ good l) : rd l = fun _ => 0 := if_neg h
theorem or_digit (a : UInt8) (n : Nat) (ha : a.toNat < 16) (hn : n < 16) : bits .or .u8 (IntKind.u8.wrap (ub a * 16)) (n : Int) = ub (UInt8.ofNat (16 * a.toNat + n)) := by
  have h : ∀ a n : Fin 16, bits .or .u8 (IntKind.u8.wrap ((a.val : Int) * 16)) (n.val : Int) = ub (UInt8.ofNat (16 * a.val + n.val)) := by decide +kernel
  exact h ⟨a.toNat, ha⟩ ⟨n, hn⟩
theorem add_digit (a : UInt8) (n : Nat) (ha : a.toNat < 16) (hn : n < 16) : (ub a * 16 + (n : Int)) % 256 = ub (UInt8.ofNat (16 * a.toNat + n)) := by
  unfold ub
  rw [ofNat_small _ (by omega)]
  omega
theorem hexText_get : ∀ (l : List UInt8) (i : Nat), i < l.length → bg (hexText l) (2 * i) = hexDigit ((bg l i).toNat / 16) ∧ bg (hexText l) (2 * i + 1) = hexDigit ((bg l i).toNat % 16)
  | [], i, h => by simp at h
  | x :: l, 0, _ => ⟨rfl, rfl⟩
  | x :: l, i + 1, h => hexText_get l i (by simpa using h)
theorem hx_good (f : Nat → UInt8) : good (hx f) := by
  refine ⟨hx_length f, fun j hj => ?_⟩
  unfold hx
  obtain ⟨h1, h2⟩ := hexText_get (hl f 32) (j / 2) (by rw [hl_length]; omega)
  have hb := (bg (hl f 32) (j / 2)).toNat_lt
  by_cases hp : j % 2 = 0
  · rw [show j = 2 * (j / 2) by omega, h1, dg_hex _ (by omega)]; omega
  · rw [show j = 2 * (j / 2) + 1 by omega, h2, dg_hex _ (by omega)]; omega
theorem hx_back (f : Nat → UInt8) : hl (rd (hx f)) 32 = hl f 32 := by
  rw [rd_good (hx_good f)]
  unfold hl
  rw [List.map_inj_left]
  intro i hi
  have hi' : i < 32 := by simpa using hi
  have hbg : bg (hl f 32) i = f i := hl_getD f 32 i hi'
  obtain ⟨h1, h2⟩ := hexText_get (hl f 32) i (by rw [hl_length]; omega)
  have hb := (f i).toNat_lt
  have e1 : nib (hx f) (2 * i) = (f i).toNat / 16 := by unfold nib hx; rw [h1, hbg, dg_hex _ (by omega)]; omega
  have e2 : nib (hx f) (2 * i + 1) = (f i).toNat % 16 := by unfold nib hx; rw [h2, hbg, dg_hex _ (by omega)]; omega
  unfold rdF
  rw [if_pos (by omega), e1, e2, show 16 * ((f i).toNat / 16) + (f i).toNat % 16 = (f i).toNat by omega, UInt8.ofNat_toNat]
/-- two results, the first an array in a block -/
theorem results_row_tmp {P : Program} {fn : Func} {p q : Tmp} {ty : TypeId} (h : fn.results = #[.cell p ty, .tmp q]) (tmps : Array Value) {w : World} {g : Nat} {t : TypeId} {n : Nat} {f : Nat → Value}
    (hp : tmps.getD p undef = .pointer (some ⟨g, 0, none⟩)) (hg : Row w g t n f) {e : TypeId} (hu : P.underlying ty = some (.array n e)) (hi : (P.info? ty).map (·.size) = some n) (v : Value) (hq : tmps.getD q undef = v) :
    (results fn tmps).run P w = .ok (.tuple #[.agg (arr n f), v]) w := by
  have hp' : tmps[p]?.getD undef = .pointer (some ⟨g, 0, none⟩) := by simpa using hp
  have hq' : tmps[q]?.getD undef = v := by simpa using hq
  simp [results, h, hp', hq', asAddr, run_loadVar_row w g t ty (arr n f) (0, 0) _ hg hu rfl (by rw [hi, size_arr])]
theorem ret_row_tmp {P : Program} {fn : Func} {R : Ending → World → Prop} {a : Act} {w : World} {p q : Tmp} {ty : TypeId} (h : fn.results = #[.cell p ty, .tmp q]) (g : Nat) (hp : a.tmps.getD p undef = .pointer (some ⟨g, 0, none⟩))
    {t : TypeId} {n : Nat} {f : Nat → Value} (hg : Row w g t n f) {e : TypeId} (hu : P.underlying ty = some (.array n e)) (hi : (P.info? ty).map (·.size) = some n) (v : Value) (hq : a.tmps.getD q undef = v)
    (hdf : a.defers = []) (hR : R (.returned (.tuple #[.agg (arr n f), v])) w) : bodyPost P fn R .ret a w :=
  bodyPost_ret (results_row_tmp h _ hp hg hu hi v hq) hdf hR
end Go.Proofs.Ytaphhcalpgibaaa
