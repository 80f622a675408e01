/- sortesref03.Sum. -/
import Derived.Test.YtijhdfllffkfjaaRefB
import Derived.StillTailTactics
namespace Go.Proofs.Ytijhdfllffkfjaa
open Go.RowKit

def chunk (p : List UInt8) (n : Nat) : List UInt8 := (p.take (64 * n + 64)).drop (64 * n)
theorem chunk_len (p : List UInt8) (n : Nat) (h : 64 * n + 64 ≤ p.length) : (chunk p n).length = 64 := by
  unfold chunk; simp; omega
theorem bg_chunk (p : List UInt8) (n i : Nat) (h : i < 64) : bg (chunk p n) i = p.getD (64 * n + i) 0 := by
  unfold bg chunk
  simp only [List.getD_eq_getElem?_getD, List.getElem?_drop, List.getElem?_take]
  rw [if_pos (by omega)]
theorem blkWord_congr {f g : Nat → UInt8} {i : Nat} (hi : i < 16) (h : ∀ j, j < 64 → f j = g j) : blkWord f i = blkWord g i := by
  unfold blkWord
  rw [h _ (by omega), h _ (by omega), h _ (by omega), h _ (by omega)]
theorem wNext_congr {f g : Nat → UInt8} (h : ∀ j, j < 64 → f j = g j) (l : List (BitVec 32)) (k : Nat) : wNext f l k = wNext g l k := by
  unfold wNext
  by_cases hk : k < 16
  · rw [if_pos hk, if_pos hk, blkWord_congr hk h]
  · rw [if_neg hk, if_neg hk]
theorem wL_congr {f g : Nat → UInt8} (h : ∀ j, j < 64 → f j = g j) (k : Nat) : wL f k = wL g k := by
  induction k with
  | zero => rfl
  | succ k ih => rw [wL, wL, wNext_congr h, ih]
theorem blk_congr {f g : Nat → UInt8} (s : St) (h : ∀ j, j < 64 → f j = g j) : blk s f = blk s g := by
  have : W0 f = W0 g := by
    funext i
    unfold W0 wG
    rw [wL_congr h]
  unfold blk
  rw [this]
theorem shaGo_chunk (p : List UInt8) (n : Nat) : blk (shaGo p n) (bg (chunk p n)) = shaGo p (n + 1) :=
  blk_congr _ fun j hj => bg_chunk p n j hj
theorem wpStill_load_is {P : Program} {ops : Array Oper} {rest : List Oper} {o : Oper} {a : Act} {w : World} {Q : Act → Prop} (hgd : o.guard = none) (ty : TypeId) (x : Operand) (ho : o.op = .load ty x)
    (g : Nat) (hx : a.eval x = .pointer (some ⟨g, 0, none⟩)) (t : TypeId) (n : Nat) (f : Nat → Value) (hg : Row w g t n f) {e : TypeId}
    (hu : P.underlying ty = some (.array n e)) (hi : (P.info? ty).map (·.size) = some n)
    (h : wpStill P ops w Q rest (a.put o.dst (.agg (arr n f)))) : wpStill P ops w Q (o :: rest) a := by
  refine wpStill_step fun K hK => ?_
  have hw : Region.wanted o (yielded ops a.tmps) = true := by unfold Region.wanted; rw [hgd]
  rw [if_pos hw]
  unfold Oper.still execOp
  simp only [ho, hx, Sem.run_bind, load_row hg hu hi, Result.andThen_ok, Sem.run_pure]
  exact ⟨rfl, hK _ h⟩
def outB (S : St) (k i : Nat) : Value := if i < k then .int .u8 (ub (outByte S i)) else .int .u8 0
theorem upd_outB (S : St) (k i : Nat) : upd (outB S k) k (.int .u8 (ub (outByte S k))) i = outB S (k + 1) i := by
  unfold upd outB
  by_cases h : i = k
  · subst h; rw [if_pos rfl, if_pos (by omega)]
  · rw [if_neg h]
    by_cases h2 : i < k
    · rw [if_pos h2, if_pos (by omega)]
    · rw [if_neg h2, if_neg (by omega)]

set_option maxHeartbeats 2000000 in
set_option maxRecDepth 100000 in
theorem refsum_any (l : List UInt8) (w : World) (hs : l.length ≤ 140737488355128) :
    Calls Try.prog 37 #[.string (bs l)] w fun e w' => e = .returned (.agg (arr 32 fun i => .int .u8 (ub (outByte (shaSt l) i)))) ∧ Below w.heap.size w w' := by
  have hpl := pad_length l
  have hpm := pad_mod l
  have hpb : (pad l).length ≤ 140737488355328 := by rw [hpl]; unfold padN; omega
  go_enter Try.func37, Try.ntmps37
  have HPL := Lib.hid hpl
  have HPM := Lib.hid hpm
  clear hpl hpm
  go_wp2_with (first | (go_at_call 55; refine (padded_any l _ hs).mono ?_; rintro e w1 ⟨rfl, hb1⟩) | (refine wpList_alloc_is rfl 24 rfl 32 (.int .u8 0) (by kernel_rfl) ?_) | (refine wpList_build_is rfl 81 _ rfl (arr 8 (UW H0.get)) (by kernel_rfl) ?_) | (refine wpList_alloc_is rfl 81 rfl 8 (.int .u32 0) (by kernel_rfl) ?_; simp only [World.size_alloc]) | (refine wpList_store_is rfl 81 (.tmp 3) (.tmp 8) rfl (w.heap.size + 1) 8 (UW H0.get) (fun _ => .int .u32 0) rfl rfl 81 ?h1 (by kernel_rfl) (fun _ _ => rfl) ?_))
  case h1 => exact Row.newAt _ _ 8 _ (by simp)
  have hs1 : Row w1 (w.heap.size + 1) 81 8 (UW H0.get) := (Row.setRow (Row.newAt _ _ 8 (fun _ => .int .u32 0) (by simp)) _).belowAll hb1
  have ho1 : Row w1 w.heap.size 24 32 (fun _ => .int .u8 0) := (((Row.newArr w _ 32 _).alloc _).farRow (by omega) _).belowAll hb1
  have hbl1 : Below w.heap.size w w1 := (Below.setRow (((Below.refl _ _).alloc (Nat.le_refl _) _).alloc (by simp) _) (by omega) _).trans (hb1.mono (by simp; omega))
  have hz1 := hb1.size
  simp at hz1
  clear hb1
  obtain ⟨p, hp⟩ : ∃ p, pad l = p := ⟨_, rfl⟩
  rw [hp] at HPL HPM hpb
  have HP := Lib.hid hp
  rw [hp]
  clear hp HPL
  obtain ⟨nb, hnb⟩ : ∃ nb, p.length = 64 * nb := ⟨p.length / 64, by have := HPM.out; omega⟩
  have HNB := Lib.hid hnb
  have hnb1 : 64 * nb ≤ 140737488355328 := by omega
  clear HPM hpb hnb
  go_loopw [5] (fun u wr => ∃ (k c : Nat) (t : St), k ≤ nb ∧ Hid (c = 64 * k) ∧ Hid (t = shaGo p k) ∧ u = .int .i64 c ∧ Row wr (w.heap.size + 1) 81 8 (UW t.get) ∧ Row wr w.heap.size 24 32 (fun _ => .int .u8 0) ∧ Below w.heap.size w wr) (fun u _ => 64 * nb - (intOf u).toNat)
  case atStart => exact ⟨0, 0, H0, by omega, rfl, rfl, rfl, hs1, ho1, hbl1⟩
  case round =>
    clear hs1 ho1 hbl1
    obtain ⟨k, c, t, hk, hc, ht, rfl, hst, hou, hbl⟩ := hrel
    by_cases hlt : k < nb
    · have hlt' : (c : Int) < (p.length : Int) := by rw [HNB.out, hc.out]; omega
      have e0 : IntKind.i64.wrap ((c : Int) + 64) = (c : Int) + 64 := IntWalk.i64_in _ (by rw [hc.out]; omega)
      have p0 : 0 ≤ (c : Int) + 64 := by omega
      have p1 : (c : Int) ≤ (c : Int) + 64 ∧ (c : Int) + 64 ≤ (p.length : Int) := by rw [HNB.out, hc.out]; omega
      have t0 : ((c : Int) + 64).toNat = c + 64 := by omega
      go_wp2_with fail
      go_still_tail 6, (by kernel_rfl)
      refine wpStill_load_is rfl 81 (.tmp 3) rfl (w.heap.size + 1) rfl 81 8 (UW t.get) hst Try.underlying81 (by kernel_rfl) ?_
      repeat still_step
      refine wpStill_nil ?_
      change wpList _ _ _ _ _ wr.drew
      have hst' : Row wr.drew (w.heap.size + 1) 81 8 (UW t.get) := hst
      have hou' : Row wr.drew w.heap.size 24 32 (fun _ => .int .u8 0) := hou
      have hbl' : Below w.heap.size w wr.drew := hbl.drew
      clear hst hou hbl p0 p1 t0 hlt'
      generalize wr.drew = wd at *
      rw [show List.drop c (List.take (c + 64) p) = chunk p k by unfold chunk; rw [hc.out]]
      go_wp2_with (first | (go_at_call 56; refine (block_any t (chunk p k) (chunk_len p k (by rw [HNB.out]; omega)) _).mono ?_; rintro e w2 ⟨rfl, hb2⟩) | (refine wpList_store_is rfl 81 (.tmp 3) (.tmp 23) rfl (w.heap.size + 1) 8 (UW (blk t (bg (chunk p k))).get) (UW t.get) rfl rfl 81 (hst'.belowAll hb2) (by kernel_rfl) (fun _ _ => rfl) ?_))
      go_roundw
      case rel =>
        exact ⟨k + 1, c + 64, blk t (bg (chunk p k)), by omega, Lib.hid (by rw [hc.out]; omega), Lib.hid (by rw [ht.out, shaGo_chunk]), by go_num, (hst'.belowAll hb2).setRow _, (hou'.belowAll hb2).farRow (by omega) _, Below.setRow (hbl'.trans (hb2.mono hbl'.size)) (by omega) _⟩
      case measure => simp [intOf]; have := hc.out; omega
    · have hge : (p.length : Int) ≤ (c : Int) := by rw [HNB.out, hc.out]; omega
      obtain rfl : k = nb := by omega
      go_wp2_with (refine wpList_alloc_is rfl 24 rfl 32 (.int .u8 0) (by kernel_rfl) ?_)
      have hn := Row.newArr wr 24 32 (fun _ => Value.int .u8 0)
      have hst' := hst.alloc (.cells (arr 32 fun _ => .int .u8 0) 24)
      have hou' := hou.alloc (.cells (arr 32 fun _ => .int .u8 0) 24)
      have hbl' := hbl.alloc hbl.size (.cells (arr 32 fun _ => .int .u8 0) 24)
      have hno := hst.lt
      have hsz := hbl.size
      clear hst hou hbl hge
      generalize wr.heap.size = no at *
      generalize wr.alloc (.cells (arr 32 fun _ => .int .u8 0) 24) = wn at *
      go_loopw [7] (fun u wr => ∃ (k : Nat), k ≤ 32 ∧ u = .int .i64 k ∧ Row wr no 24 32 (outB t k) ∧ Row wr (w.heap.size + 1) 81 8 (UW t.get) ∧ Row wr w.heap.size 24 32 (fun _ => .int .u8 0) ∧ Below w.heap.size w wr) (fun u _ => 32 - (intOf u).toNat)
      case atStart => exact ⟨0, by omega, rfl, hn.congr (fun i _ => rfl), hst', hou', hbl'⟩
      case round =>
        clear hn hst' hou' hbl'
        obtain ⟨i, hi, rfl, hn, hst, hou, hbl⟩ := hrel
        by_cases hlt : i < 32
        · have hlt' : (i : Int) < 32 := by omega
          have cs : wr.cell? ⟨w.heap.size + 1, i / 4, none⟩ = some (.int .u32 (un (t.get (i / 4)))) := hst.cell (i := i / 4) (by omega)
          have cf := hn.frozen i
          have cn : wr.cell? ⟨no, i, none⟩ = some (outB t i i) := hn.cell (i := i) hlt
          go_wp2_with fail
          go_roundw
          case rel =>
            exact ⟨i + 1, by omega, by go_num, (hn.set_ i _).congr fun j _ => upd_outB t i j, hst.far (by simp; omega) _, hou.far (by simp; omega) _, hbl.setCell (by simp; omega) _⟩
          case measure => simp [intOf]; omega
        · have hge : (32 : Int) ≤ i := by omega
          obtain rfl : i = 32 := by omega
          go_wp2_with (first | (refine wpList_load_is rfl 24 (.tmp 6) rfl no rfl 24 32 _ hn Try.underlying24 (by kernel_rfl) ?_) | (refine wpList_store_is rfl 24 (.tmp 2) (.tmp 40) rfl w.heap.size 32 (outB t 32) (fun _ => .int .u8 0) rfl rfl 24 hou (by kernel_rfl) (fun i hi => by unfold outB; rw [if_pos hi]; rfl) ?_))
          refine ret_row rfl w.heap.size rfl (hou.setRow _) Try.underlying24 (by rw [size_arr]; kernel_rfl) rfl ⟨?_, Below.setRow hbl (by omega) _⟩
          refine congrArg (fun c => Ending.returned (.agg c)) (arr_congr fun i hi => ?_)
          unfold outB
          rw [if_pos hi, ht.out]
          unfold shaSt
          rw [HP.out, HNB.out, Nat.mul_div_cancel_left _ (by decide)]
end Go.Proofs.Ytijhdfllffkfjaa
