/- Hashes as lists of bytes; == of hashes; the greatest power of two below a number. -/
import Derived.Test.YtijhdfllffkfjaaSum
import Derived.Test.YtijhdfllffkfjaaRowG
namespace Go.Proofs.Ytijhdfllffkfjaa
open Go.RowKit

/-- the first n bytes of a function -/
def hl (f : Nat → UInt8) (n : Nat) : List UInt8 := (List.range n).map f
theorem hl_length (f : Nat → UInt8) (n : Nat) : (hl f n).length = n := by simp [hl]
theorem run_part_u8 {P : Program} (e : TypeId) (n : Nat) (f : Nat → UInt8) (hsz : (P.info? e).map (·.size) = some 1) (he : P.underlying e = some (.int .u8)) (i : Nat) (h : i < n) (w : World) :
    (part e (arr n (U8 f)) i).run P w = .ok (.int .u8 (ub (f i))) w := by
  have hagg : (isAgg e).run P w = .ok false w := by
    unfold isAgg
    rw [Sem.run_bind, run_underlying he w]
    simp
  obtain ⟨inf, hi, hs⟩ := Option.map_eq_some_iff.1 hsz
  have hc : (arr n (U8 f))[i]? = some (.int .u8 (ub (f i))) := arr_get n (U8 f) i h
  simp [part, hagg, hc]
theorem run_eq_arr {P : Program} (d : Nat) (t e : TypeId) (n : Nat) (f g : Nat → UInt8) (hu : P.underlying t = some (.array n e)) (hsz : (P.info? e).map (·.size) = some 1) (he : P.underlying e = some (.int .u8)) (w : World) :
    (Op.equalIn (d + 2) t (.agg (arr n (U8 f))) (.agg (arr n (U8 g)))).run P w = .ok ((List.range n).all fun i => ub (f i) == ub (g i)) w := by
  obtain ⟨inf, hi, hs⟩ := Option.map_eq_some_iff.1 hsz
  have hz : (sizeOf e).run P w = .ok 1 w := by simp [sizeOf, typeInfo, hi, hs]
  rw [Op.equalIn]
  simp only [Sem.run_bind, run_underlying hu, Result.andThen_ok, hz, Nat.mul_one, Std.Legacy.Range.forIn_eq_forIn_range', Std.Legacy.Range.size, Nat.sub_zero, Nat.add_sub_cancel, Nat.div_one, List.range_eq_range']
  have key : ∀ (l : List Nat), (∀ i ∈ l, i < n) → ∀ w : World, (forIn (m := Sem) l ((none, ()) : Option Bool × PUnit) fun i r => do
      let __do_lift ← part e (arr n (U8 f)) i
      let __do_lift_1 ← part e (arr n (U8 g)) i
      let __do_lift ← Op.equalIn (d + 1) e __do_lift __do_lift_1
      if (!__do_lift) = true then pure (ForInStep.done (some false, ())) else pure (ForInStep.yield (none, ()))).run P w = .ok (if l.all (fun i => ub (f i) == ub (g i)) then none else some false, ()) w := by
    intro l
    induction l with
    | nil => intro _ w; simp
    | cons i l ih =>
      intro hl w
      rw [List.forIn_cons]
      simp only [Sem.run_bind, run_part_u8 e n f hsz he i (hl i (by simp)), run_part_u8 e n g hsz he i (hl i (by simp)), Result.andThen_ok, run_equalIn_int _ _ _ _ _ _ _ he, List.all_cons]
      by_cases hq : (ub (f i) == ub (g i)) = true
      case neg =>
        have hq' := Bool.eq_false_iff.2 hq
        simp [hq']
      case pos =>
        simp only [hq, Bool.not_true, Bool.false_eq_true, if_false, Sem.run_pure, Result.andThen_ok, Bool.true_and]
        exact ih (fun j hj => hl j (by simp [hj])) w
  rw [key (List.range' 0 n) (fun i hi => by simp at hi; omega) w]
  simp only [Result.andThen_ok]
  by_cases hq : ((List.range' 0 n).all fun i => ub (f i) == ub (g i)) = true
  · simp only [hq, if_true]; rfl
  · have hq' := Bool.eq_false_iff.2 hq
    simp only [hq', Bool.false_eq_true, if_false]; rfl
theorem all_same (n : Nat) (f g : Nat → UInt8) : ((List.range n).all fun i => ub (f i) == ub (g i)) = decide (hl f n = hl g n) := by
  rw [Bool.eq_iff_iff, List.all_eq_true, decide_eq_true_iff]
  unfold hl
  rw [List.map_inj_left]
  constructor
  · intro h i hi; have := h i hi; exact ub_inj (by simpa using this)
  · intro h i hi; rw [h i hi]; simp
theorem run_eql_arr {P : Program} (t e : TypeId) (n : Nat) (f g : Nat → UInt8) (hu : P.underlying t = some (.array n e)) (hsz : (P.info? e).map (·.size) = some 1) (he : P.underlying e = some (.int .u8)) (w : World) :
    (binOp .eql t (.agg (arr n (U8 f))) (.agg (arr n (U8 g)))).run P w = .ok (.bool (decide (hl f n = hl g n))) w := by
  rw [run_eql_struct, run_eq_arr 9998 t e n f g hu hsz he, all_same]; rfl
theorem run_neq_arr {P : Program} (t e : TypeId) (n : Nat) (f g : Nat → UInt8) (hu : P.underlying t = some (.array n e)) (hsz : (P.info? e).map (·.size) = some 1) (he : P.underlying e = some (.int .u8)) (w : World) :
    (binOp .neq t (.agg (arr n (U8 f))) (.agg (arr n (U8 g)))).run P w = .ok (.bool (!decide (hl f n = hl g n))) w := by
  rw [run_neq_struct, run_eq_arr 9998 t e n f g hu hsz he, all_same]; rfl
@[go_sem high] theorem eql_hash (f g : Nat → UInt8) (w : World) : (binOp .eql 24 (.agg (arr 32 (U8 f))) (.agg (arr 32 (U8 g)))).run Try.prog w = .ok (.bool (decide (hl f 32 = hl g 32))) w :=
  run_eql_arr _ 5 32 f g Try.underlying24 (by kernel_rfl) Try.underlying5 w
@[go_sem high] theorem neq_hash (f g : Nat → UInt8) (w : World) : (binOp .neq 24 (.agg (arr 32 (U8 f))) (.agg (arr 32 (U8 g)))).run Try.prog w = .ok (.bool (!decide (hl f 32 = hl g 32))) w :=
  run_neq_arr _ 5 32 f g Try.underlying24 (by kernel_rfl) Try.underlying5 w

/-- the greatest power of two below n -/
def halfN (n : Nat) : Nat := 2 ^ Nat.log2 (n - 1)
theorem halfN_is {n j : Nat} (h1 : 2 ^ j < n) (h2 : n ≤ 2 ^ (j + 1)) : halfN n = 2 ^ j := by
  unfold halfN
  congr 1
  have hp := Nat.two_pow_pos j
  rw [Nat.log2_eq_iff (by omega)]
  omega
theorem halfN_lt {n : Nat} (h : 2 ≤ n) : halfN n < n ∧ 1 ≤ halfN n ∧ n ≤ 2 * halfN n := by
  have h1 := Nat.log2_self_le (show n - 1 ≠ 0 by omega)
  have h2 := Nat.lt_log2_self (n := n - 1)
  unfold halfN
  have hp := Nat.two_pow_pos (Nat.log2 (n - 1))
  rw [Nat.pow_succ] at h2
  omega
end Go.Proofs.Ytijhdfllffkfjaa
