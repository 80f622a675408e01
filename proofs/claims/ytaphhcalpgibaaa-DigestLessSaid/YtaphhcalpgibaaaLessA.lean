/- The order of hashes: the plain law, and digest.Less, sortesref03.Less. -/
import Derived.Test.YtaphhcalpgibaaaTexts
import Derived.Test.YtaphhcalpgibaaaMisc
namespace Go.Proofs.Ytaphhcalpgibaaa
open Go.RowKit Go.BigFrame

def lessFrom (f g : Nat → UInt8) : Nat → Nat → Bool
  | 0, _ => false
  | n + 1, i => if ub (f i) = ub (g i) then lessFrom f g n (i + 1) else decide (ub (f i) < ub (g i))
def lessH (f g : Nat → UInt8) : Bool := lessFrom f g 32 0
/-- -1, 0 or 1 -/
def cmpB (x y : UInt8) : Int := if ub x < ub y then -1 else if ub y < ub x then 1 else 0
theorem cmpB_zero (x y : UInt8) (h : ub x = ub y) : cmpB x y = 0 := by unfold cmpB; rw [if_neg (by omega), if_neg (by omega)]
theorem cmpB_ne (x y : UInt8) (h : ub x ≠ ub y) : cmpB x y ≠ 0 := by
  unfold cmpB
  split
  · decide
  · split
    · decide
    · omega
theorem cmpB_neg (x y : UInt8) : decide (cmpB x y < 0) = decide (ub x < ub y) := by
  unfold cmpB
  by_cases h : ub x < ub y
  · rw [if_pos h]; simp [h]
  · rw [if_neg h]
    split <;> simp [h]

def cmpFrom (f g : Nat → UInt8) : Nat → Nat → Int
  | 0, _ => 0
  | n + 1, i => if ub (f i) = ub (g i) then cmpFrom f g n (i + 1) else cmpB (f i) (g i)
def cmpH (f g : Nat → UInt8) : Int := cmpFrom f g 32 0
theorem cmpFrom_less (f g : Nat → UInt8) : ∀ (n i : Nat), decide (cmpFrom f g n i < 0) = lessFrom f g n i
  | 0, _ => rfl
  | n + 1, i => by
    rw [cmpFrom, lessFrom]
    by_cases h : ub (f i) = ub (g i)
    · rw [if_pos h, if_pos h, cmpFrom_less f g n (i + 1)]
    · rw [if_neg h, if_neg h, cmpB_neg]
theorem cmpH_less (f g : Nat → UInt8) : decide (cmpH f g < 0) = lessH f g := cmpFrom_less f g 32 0
theorem isNaN_any {x : UInt8} {w : World} : Calls Try.prog 45 #[.int .u8 (ub x)] w fun e w' => e = .returned (.bool false) ∧ w' = w := by
  go_enter Try.func45, Try.ntmps45
  go_wp2_with fail
  go_ret
  exact ⟨rfl, rfl⟩
theorem cmp_any {x y : UInt8} {w : World} : Calls Try.prog 40 #[.int .u8 (ub x), .int .u8 (ub y)] w fun e w' => e = .returned (.int .i64 (cmpB x y)) ∧ w' = w := by
  go_enter Try.func40, Try.ntmps40
  go_wp2_with (go_at_call 45; refine isNaN_any.mono ?_; rintro e w1 ⟨rfl, rfl⟩)
  all_goals
    go_ret
    refine ⟨congrArg (fun n => Ending.returned (Value.int .i64 n)) ?_, rfl⟩
    unfold cmpB
    first
    | (rw [if_pos (by omega)])
    | (rw [if_neg (by omega), if_pos (by omega)])
    | (rw [if_neg (by omega), if_neg (by omega)])
set_option maxHeartbeats 1000000 in
theorem compare_any {f g : Nat → UInt8} {w : World} {b c : Nat} {t u : TypeId} (hf : Row w b t 32 (U8 f)) (hg : Row w c u 32 (U8 g)) :
    Calls Try.prog 31 #[.slice (some ⟨b, 0, none⟩) 32 32, .slice (some ⟨c, 0, none⟩) 32 32] w fun e w' => e = .returned (.int .i64 (cmpH f g)) ∧ w' = w := by
  go_enter Try.func31, Try.ntmps31
  go_wp2_with fail
  go_loopw [11] (fun v wr => ∃ k : Nat, k ≤ 32 ∧ v = .int .i64 k ∧ wr = w ∧ Hid (cmpFrom f g (32 - k) k = cmpH f g)) (fun v _ => 32 - (intOf v).toNat)
  case atStart => exact ⟨0, by omega, rfl, rfl, rfl⟩
  case round =>
    obtain ⟨k, hk, rfl, rfl, hle⟩ := hrel
    by_cases hlt : k < 32
    · have hlt' : (k : Int) < 32 := by omega
      have c0 : wr.cell? ⟨b, k, none⟩ = some (.int .u8 (ub (f k))) := hf.cell (i := k) hlt
      have c1 : wr.cell? ⟨c, k, none⟩ = some (.int .u8 (ub (g k))) := hg.cell (i := k) hlt
      have e1 : 32 - k = (32 - (k + 1)) + 1 := by omega
      by_cases he : ub (f k) = ub (g k)
      · have hz : cmpB (g k) (g k) = 0 := cmpB_zero _ _ rfl
        go_wp2_with (go_at_call 40; refine cmp_any.mono ?_; rintro e w1 ⟨rfl, rfl⟩)
        go_roundw
        case rel => exact ⟨k + 1, by omega, by go_num, trivial, by have h := hle.out; rw [e1, cmpFrom, if_pos he] at h; exact h⟩
        case measure => simp [intOf]; omega
      · have hz := cmpB_ne _ _ he
        go_wp2_with (go_at_call 40; refine cmp_any.mono ?_; rintro e w1 ⟨rfl, rfl⟩)
        go_ret
        have h := hle.out
        rw [e1, cmpFrom, if_neg he] at h
        rw [h]
        exact ⟨rfl, rfl⟩
    · have hge : (32 : Int) ≤ k := by omega
      obtain rfl : k = 32 := by omega
      go_wp2
      go_ret
      refine ⟨?_, rfl⟩
      rw [← hle.out]; rfl
set_option maxHeartbeats 1000000 in
theorem refless_any {f g : Nat → UInt8} {w : World} :
    Calls Try.prog 21 #[.agg (arr 32 (U8 f)), .agg (arr 32 (U8 g))] w fun e w' => e = .returned (.bool (lessH f g)) ∧ Below w.heap.size w w' := by
  go_enter Try.func21, Try.ntmps21
  go_wp2_with fail
  have hf0 : Row ((w.alloc (.cells (arr 32 (U8 f)) 24)).alloc (.cells (arr 32 (U8 g)) 24)) w.heap.size 24 32 (U8 f) := (Row.newArr w _ 32 _).alloc _
  have hg0 : Row ((w.alloc (.cells (arr 32 (U8 f)) 24)).alloc (.cells (arr 32 (U8 g)) 24)) (w.heap.size + 1) 24 32 (U8 g) := Row.newAt _ _ 32 _ (by simp)
  have hb0 : Below w.heap.size w ((w.alloc (.cells (arr 32 (U8 f)) 24)).alloc (.cells (arr 32 (U8 g)) 24)) := ((Below.refl _ _).alloc (Nat.le_refl _) _).alloc (by simp) _
  generalize (w.alloc (.cells (arr 32 (U8 f)) 24)).alloc (.cells (arr 32 (U8 g)) 24) = w0 at *
  go_loopw [5] (fun v wr => ∃ k : Nat, k ≤ 32 ∧ v = .int .i64 k ∧ Hid (lessFrom f g (32 - k) k = lessH f g) ∧ Row wr w.heap.size 24 32 (U8 f) ∧ Row wr (w.heap.size + 1) 24 32 (U8 g) ∧ Below w.heap.size w wr) (fun v _ => 32 - (intOf v).toNat)
  case atStart => exact ⟨0, by omega, rfl, rfl, hf0, hg0, hb0⟩
  case round =>
    clear hf0 hg0 hb0
    obtain ⟨k, hk, rfl, hle, hf, hg, hb⟩ := hrel
    by_cases hlt : k < 32
    · have hlt' : (k : Int) < 32 := by omega
      have c0 : wr.cell? ⟨w.heap.size, k, none⟩ = some (.int .u8 (ub (f k))) := hf.cell (i := k) hlt
      have c1 : wr.cell? ⟨w.heap.size + 1, k, none⟩ = some (.int .u8 (ub (g k))) := hg.cell (i := k) hlt
      have e1 : 32 - k = (32 - (k + 1)) + 1 := by omega
      by_cases he : ub (f k) = ub (g k)
      · have hn : (ub (f k) != ub (g k)) = false := by rw [he]; simp
        go_wp2_with fail
        go_quiet (fail)
        go_wp2
        go_roundw
        case rel => exact ⟨k + 1, by omega, by go_num, by have h := hle.out; rw [e1, lessFrom, if_pos he] at h; exact h, hf.drewN _, hg.drewN _, Below.drewN hb _⟩
        case measure => simp [intOf]; omega
      · have hn : (ub (f k) != ub (g k)) = true := by simpa using he
        have h := hle.out
        rw [e1, lessFrom, if_neg he] at h
        have H := Lib.hid h
        clear h
        go_wp2_with fail
        go_quiet (fail)
        go_wp2_with fail
        go_quiet (fail)
        go_wp2
        rw [H.out]
        go_ret
        exact ⟨rfl, Below.drewN (Below.drewN hb _) _⟩
    · have hge : (32 : Int) ≤ k := by omega
      obtain rfl : k = 32 := by omega
      go_wp2
      go_ret
      refine ⟨?_, hb⟩
      rw [← hle.out]; rfl
theorem lessFrom_same (f g : Nat → UInt8) : ∀ (n i : Nat), (∀ j, j < i + n → f j = g j) → lessFrom f g n i = false
  | 0, _, _ => rfl
  | n + 1, i, h => by
    rw [lessFrom, if_pos (by rw [h i (by omega)])]
    exact lessFrom_same f g n (i + 1) (fun j hj => h j (by omega))
theorem hl_same {f g : Nat → UInt8} {n : Nat} (h : hl f n = hl g n) (j : Nat) (hj : j < n) : f j = g j := by
  have := congrArg (fun l => l.getD j 0) h
  simpa [hl, hj] using this
theorem lessH_same {f g : Nat → UInt8} (h : hl f 32 = hl g 32) : lessH f g = false := lessFrom_same f g 32 0 (fun j hj => hl_same h j (by omega))
set_option maxHeartbeats 1000000 in
theorem less_any {f g : Nat → UInt8} {w : World} :
    Calls Try.prog 20 #[.agg (arr 32 (U8 f)), .agg (arr 32 (U8 g))] w fun e w' => e = .returned (.bool (lessH f g)) ∧ Below w.heap.size w w' := by
  go_enter Try.func20, Try.ntmps20
  go_wp2_with fail
  have hf0 : Row ((w.alloc (.cells (arr 32 (U8 f)) 24)).alloc (.cells (arr 32 (U8 g)) 24)) w.heap.size 24 32 (U8 f) := (Row.newArr w _ 32 _).alloc _
  have hg0 : Row ((w.alloc (.cells (arr 32 (U8 f)) 24)).alloc (.cells (arr 32 (U8 g)) 24)) (w.heap.size + 1) 24 32 (U8 g) := Row.newAt _ _ 32 _ (by simp)
  have hb0 : Below w.heap.size w ((w.alloc (.cells (arr 32 (U8 f)) 24)).alloc (.cells (arr 32 (U8 g)) 24)) := ((Below.refl _ _).alloc (Nat.le_refl _) _).alloc (by simp) _
  generalize (w.alloc (.cells (arr 32 (U8 f)) 24)).alloc (.cells (arr 32 (U8 g)) 24) = w0 at *
  have hcl := cmpH_less f g
  by_cases heq : hl f 32 = hl g 32
  · have hd : decide (hl f 32 = hl g 32) = true := decide_eq_true heq
    have hls := lessH_same heq
    refine wp_region_ext (by kernel_rfl) (by kernel_rfl) ?_
    repeat (first | go_big_quiet_step (fail) | (go_big_quiet_want; (first | (refine quiet_load_is 24 (.tmp 2) rfl w.heap.size rfl 24 32 (U8 f) hf0 Try.underlying24 (by kernel_rfl) ?_) | (refine quiet_load_is 24 (.tmp 3) rfl (w.heap.size + 1) rfl 24 32 (U8 g) hg0 Try.underlying24 (by kernel_rfl) ?_)); go_simp; go_big_quiet_on))
    refine wpQuiet_nil ?_
    rintro _ ⟨e, rfl⟩
    go_wp2
    go_ret
    rw [hls]
    exact ⟨rfl, hb0.trans (e.below.mono hb0.size)⟩
  · have hd : decide (hl f 32 = hl g 32) = false := decide_eq_false heq
    refine wp_region_ext (by kernel_rfl) (by kernel_rfl) ?_
    repeat (first | go_big_quiet_step ((go_at_call 31; exact ext_same (compare_any (hf0.ext _) (hg0.ext _)))) | (go_big_quiet_want; (first | (refine quiet_load_is 24 (.tmp 2) rfl w.heap.size rfl 24 32 (U8 f) hf0 Try.underlying24 (by kernel_rfl) ?_) | (refine quiet_load_is 24 (.tmp 3) rfl (w.heap.size + 1) rfl 24 32 (U8 g) hg0 Try.underlying24 (by kernel_rfl) ?_)); go_simp; go_big_quiet_on))
    refine wpQuiet_nil ?_
    rintro _ ⟨e, rfl⟩
    go_wp2
    go_ret
    exact ⟨rfl, hb0.trans (e.below.mono hb0.size)⟩
end Go.Proofs.Ytaphhcalpgibaaa
