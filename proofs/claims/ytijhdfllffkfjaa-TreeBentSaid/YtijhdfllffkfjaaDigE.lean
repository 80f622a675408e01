/- digest.Sum. -/
import Derived.Test.YtijhdfllffkfjaaDigD
import Derived.Test.YtijhdfllffkfjaaApp
import Derived.Deep.RegionWith
namespace Go.Proofs.Ytijhdfllffkfjaa
open Go.RowKit Go.Shelf

attribute [local go_sem] Oper.semAt_some

theorem isU8 : IsU8 Try.prog 30 5 := ⟨Try.underlying30, by kernel_rfl⟩

def hiW (n : Nat) : BitVec 32 := BitVec.ofNat 32 (8 * n / 4294967296)
def loW (n : Nat) : BitVec 32 := BitVec.ofNat 32 (8 * n)
theorem un_hiW (n : Nat) (h : n ≤ 140737488355328) : (n : Int) * 8 / 4294967296 = un (hiW n) := by
  unfold un hiW
  rw [BitVec.toNat_ofNat]
  omega
theorem un_loW (n : Nat) : (n : Int) * 8 % 4294967296 = un (loW n) := by
  unfold un loW
  rw [BitVec.toNat_ofNat]
  omega
theorem lo8_shr (x : BitVec 32) (k : Nat) : lo8 (x >>> k) = UInt8.ofNat (x.toNat / 2 ^ k) := by
  unfold lo8
  rw [BitVec.toNat_ushiftRight, Nat.shiftRight_eq_div_pow]
theorem ofNat_congr {a b : Nat} (h : a % 256 = b % 256) : UInt8.ofNat a = UInt8.ofNat b := by
  apply UInt8.toNat.inj
  simpa using h
theorem hi_bytes (n : Nat) (h : n ≤ 140737488355328) : [lo8 (hiW n >>> 24), lo8 (hiW n >>> 16), lo8 (hiW n >>> 8), lo8 (hiW n)] = [lenByte n 7, lenByte n 6, lenByte n 5, lenByte n 4] := by
  have e : (hiW n).toNat = 8 * n / 4294967296 := by unfold hiW; rw [BitVec.toNat_ofNat]; omega
  unfold lenByte
  rw [lo8_shr, lo8_shr, lo8_shr]
  unfold lo8
  rw [e]
  congr 1
  · exact ofNat_congr (by omega)
  congr 1
  · exact ofNat_congr (by omega)
  congr 1
  · exact ofNat_congr (by omega)
theorem lo_bytes (n : Nat) : [lo8 (loW n >>> 24), lo8 (loW n >>> 16), lo8 (loW n >>> 8), lo8 (loW n)] = [lenByte n 3, lenByte n 2, lenByte n 1, lenByte n 0] := by
  have e : (loW n).toNat = 8 * n % 4294967296 := by unfold loW; rw [BitVec.toNat_ofNat]
  unfold lenByte
  rw [lo8_shr, lo8_shr, lo8_shr]
  unfold lo8
  rw [e]
  congr 1
  · exact ofNat_congr (by omega)
  congr 1
  · exact ofNat_congr (by omega)
  congr 1
  · exact ofNat_congr (by omega)
  congr 1
  · exact ofNat_congr (by omega)

def foldS (p : List UInt8) (l : List Nat) : St := l.foldl (fun s j => blk s (fun i => p.getD (64 * j + i) 0)) H0
theorem foldS_snoc (p : List UInt8) (l : List Nat) (j : Nat) : foldS p (l ++ [j]) = blk (foldS p l) (fun i => p.getD (64 * j + i) 0) := by simp [foldS]
theorem foldS_range (p : List UInt8) (n : Nat) : foldS p (List.range n) = shaGo p n := by
  induction n with
  | zero => rfl
  | succ n ih => rw [List.range_succ, foldS_snoc, ih]; rfl
theorem finRange_val (n : Nat) : (List.finRange n).map Fin.val = List.range n := by
  apply List.ext_getElem
  · simp
  · intro i h1 h2; simp

def outF (S : St) (k i : Nat) : Value := if i < 4 * k then .int .u8 (ub (outByte S i)) else .int .u8 0
theorem out_byte (S : St) (k j : Nat) (hj : j < 4) : outByte S (4 * k + j) = lo8 (S.get k >>> (8 * (3 - j))) := by
  unfold outByte
  rw [show (4 * k + j) / 4 = k by omega, show (4 * k + j) % 4 = j by omega]
theorem out_row (S : St) (k : Nat) (hk : k < 8) :
    ((arr 32 (outF S k)).toList.take (4 * k) ++ [Value.int .u8 (ub (lo8 (S.get k >>> 24))), .int .u8 (ub (lo8 (S.get k >>> 16))), .int .u8 (ub (lo8 (S.get k >>> 8))), .int .u8 (ub (lo8 (S.get k)))] ++ (arr 32 (outF S k)).toList.drop (4 * k + 4)).toArray = arr 32 (outF S (k + 1)) := by
  have hl : (arr 32 (outF S k)).toList.length = 32 := by simp [size_arr]
  apply arr_of
  · simp [size_arr]; omega
  · intro i hi
    have hg : ∀ j, j < 32 → (arr 32 (outF S k)).toList[j]? = some (outF S k j) := fun j hj => by rw [Array.getElem?_toList]; exact arr_get 32 _ j hj
    simp only [List.getElem?_toArray, List.getElem?_append, List.length_append, List.length_take, hl, List.length_cons, List.length_nil, List.getElem?_take, List.getElem?_drop]
    by_cases h1 : i < 4 * k
    · rw [if_pos (by omega), if_pos (by omega), if_pos h1, hg i hi]
      unfold outF
      rw [if_pos h1, if_pos (by omega)]
    · by_cases h2 : i < 4 * k + 4
      · rw [if_pos (by omega), if_neg (by omega)]
        obtain ⟨j, hj, rfl⟩ : ∃ j, j < 4 ∧ i = 4 * k + j := ⟨i - 4 * k, by omega, by omega⟩
        rw [show 4 * k + j - min (4 * k) 32 = j by omega]
        unfold outF
        rw [if_pos (by omega), out_byte S k j hj]
        match j, hj with
        | 0, _ => rfl
        | 1, _ => rfl
        | 2, _ => rfl
        | 3, _ => simp
      · rw [if_neg (by omega), show 4 * k + 4 + (i - (min (4 * k) 32 + (0 + 1 + 1 + 1 + 1))) = i by omega, hg i hi]
        unfold outF
        rw [if_neg h1, if_neg (by omega)]
theorem run_copy_out (w : World) (bo k : Nat) (S : St) (hk : k < 8) (ho : Row w bo 24 32 (outF S k)) :
    (Builtin.copy_ #[30, 30] 3 #[.slice (some ⟨bo, 4 * k, none⟩) (32 - 4 * k) (32 - 4 * k), .slice (some ⟨w.heap.size, 0, none⟩) 4 4]).run Try.prog
      (w.alloc (.cells #[.int .u8 (ub (lo8 (S.get k >>> 24))), .int .u8 (ub (lo8 (S.get k >>> 16))), .int .u8 (ub (lo8 (S.get k >>> 8))), .int .u8 (ub (lo8 (S.get k)))] 5)).drew =
    .ok (goInt 4) ((w.alloc (.cells #[.int .u8 (ub (lo8 (S.get k >>> 24))), .int .u8 (ub (lo8 (S.get k >>> 16))), .int .u8 (ub (lo8 (S.get k >>> 8))), .int .u8 (ub (lo8 (S.get k)))] 5)).setRow bo (arr 32 (outF S (k + 1)))).drew := by
  have h := run_copy_row (P := Try.prog) (w.alloc (.cells #[.int .u8 (ub (lo8 (S.get k >>> 24))), .int .u8 (ub (lo8 (S.get k >>> 16))), .int .u8 (ub (lo8 (S.get k >>> 8))), .int .u8 (ub (lo8 (S.get k)))] 5)).drew 30 30 3 5 bo (4 * k) (32 - 4 * k) (32 - 4 * k) ⟨w.heap.size, 0, none⟩ 4 4 (arr 32 (outF S k)) 24
    [.int .u8 (ub (lo8 (S.get k >>> 24))), .int .u8 (ub (lo8 (S.get k >>> 16))), .int .u8 (ub (lo8 (S.get k >>> 8))), .int .u8 (ub (lo8 (S.get k)))] Try.underlying30 (by kernel_rfl) (ho.alloc _) (by simp only [List.length_cons, List.length_nil]; show 4 = min 4 (32 - 4 * k); omega)
    (fun j v hv => by
      have hadd : (⟨w.heap.size, 0, none⟩ : Addr).add j = ⟨w.heap.size, j, none⟩ := by unfold Addr.add; split <;> simp_all
      rw [hadd, World.cell?_drew, World.cell?_alloc_at _ _ _ _ rfl]
      simpa using hv) (by rw [size_arr]; simp only [List.length_cons, List.length_nil]; omega) (fun v hv => by simp at hv; rcases hv with rfl | rfl | rfl | rfl <;> rfl)
  rw [show (([.int .u8 (ub (lo8 (S.get k >>> 24))), .int .u8 (ub (lo8 (S.get k >>> 16))), .int .u8 (ub (lo8 (S.get k >>> 8))), .int .u8 (ub (lo8 (S.get k)))] : List Value)).length = 4 from rfl, out_row S k hk] at h
  exact h

/-- what the loop over the chunks keeps: the state, the message, the result's block, and all that was there -/
def SumI (w : World) (p : List UInt8) (g st nb : Nat) (pre : List (Fin nb)) (W : World) : Prop :=
  Row W st 81 8 (UW (foldS p (pre.map Fin.val)).get) ∧ (∀ j, j < 64 * nb → W.cell? ⟨g, j, none⟩ = some (.int .u8 (ub (p.getD j 0)))) ∧ Row W w.heap.size 24 32 (fun _ => .int .u8 0) ∧ Below w.heap.size w W ∧ st + 3 ≤ W.heap.size
theorem SumI.grown {w : World} {p : List UInt8} {g st nb : Nat} {pre : List (Fin nb)} {W W' : World} {r : Option Nat} (h : SumI w p g st nb pre W) (hg : W.grownBy W' r) (h1 : ∀ k, r = some k → k ≠ st ∧ k ≠ g ∧ w.heap.size < k) (hgW : g < W.heap.size) : SumI w p g st nb pre W' := by
  obtain ⟨a, b, c, d, hz⟩ := h
  refine ⟨a.grown hg (fun e => (h1 st e.symm).1 rfl), fun j hj => (World.cell?_of_block (hg.block g hgW (fun e => (h1 g e.symm).2.1 rfl))).trans (b j hj), c.grown hg (fun e => Nat.lt_irrefl _ (h1 _ e.symm).2.2), d.grown hg d.size (fun k e => Nat.le_of_lt (h1 k e).2.2), Nat.le_trans hz hg.size⟩

set_option maxHeartbeats 2000000 in
set_option maxRecDepth 100000 in
theorem sum_any (s : ByteArray) (w : World) (hs : s.size ≤ 140737488355128) :
    Calls Try.prog 36 #[.string s] w fun e w' => e = .returned (.agg (arr 32 fun i => .int .u8 (ub (outByte (shaSt s.data.toList) i)))) ∧ Below w.heap.size w w' := by
  have hml : s.size ≤ maxLen := by unfold maxLen; omega
  have HML := Lib.hid hml
  clear hml
  have hsl : s.data.toList.length = s.size := by simp
  have HSL := Lib.hid hsl
  clear hsl
  refine (callsIn_wide (n := 3)).1 ?_
  refine callsIn_of_wp_marks Try.func36 rfl trivial ?_ rfl
  refine wpIn_wide.2 (NoPanic.wp ?_)
  simp only [Try.ntmps36, List.size_toArray, List.length_cons, List.length_nil, Nat.reduceAdd, Nat.reduceSub, Array.replicate_succ, Array.replicate_zero, List.push_toArray, List.append_toArray, List.nil_append, List.cons_append]
  go_wp2_with (first | (at_builtin; refine unheld ?_) | (refine wpList_alloc_is rfl 24 rfl 32 (.int .u8 0) (by kernel_rfl) ?_) | (refine wpList_conv_bytes rfl (.tmp 10) 9 30 5 rfl s rfl Try.underlying9 Try.underlying30 Try.underlying5 HML.out ?_; intro v1 w1 hv1 hown1 hb1 hsz1; obtain ⟨c1, rfl⟩ := hv1; simp only [World.size_alloc] at hown1 hb1 hsz1))
  refine Held.of ?_
  refine wpList_append_u8 rfl (.tmp 11) (.tmp 12) 30 30 rfl 5 isU8 (.inl ⟨_, Try.underlying30⟩) (w.heap.size + 1) (.slice (some ⟨w.heap.size + 1, 0, none⟩) s.size c1) rfl s.data.toList ?_ (.slice (some ⟨w.heap.size + 2, 0, none⟩) 1 1) rfl [128] ?_ ?_ ?_ ?_
  · exact hown1.alloc _
  · refine Src.lit _ _ 5 _ #[.int .u8 128] ?_ _ _ rfl
    rw [show w.heap.size + 2 = w1.heap.size by omega]
    exact heap_alloc_new _ _
  · rw [HSL.out]; simp; omega
  · simp; omega
  intro v2 w2 hown2 hg2 hblk2
  have hres1 : Row w1 w.heap.size 24 32 (fun _ => .int .u8 0) := (Row.newArr w _ 32 _).below hb1 (by omega)
  have hres2 := (hres1.alloc (.cells #[.int .u8 128] 5)).grown hg2 (by simp [Value.ownBlock])
  have hbl2 : Below w.heap.size w w2 := below_app (((Below.refl w.heap.size w).alloc (Nat.le_refl _) _).trans ((hb1.mono (by omega)).alloc (by omega) _)) hg2 (hown1.alloc _) (by omega) (by simp; omega)
  have hsz2 : w.heap.size + 2 ≤ w2.heap.size := by have := hg2.size; simp at this; omega
  obtain ⟨a2, c2, rfl, hc2⟩ := hown2.len8 (s.size + 1) (by simp [HSL.out])
  clear hown1 hb1 hsz1 hg2 hblk2 hres1
  go_wp2_with (at_builtin; refine unheld ?_)
  refine Held.of ?_
  refine wpList_append_z8 rfl (.tmp 14) (.tmp 19) 30 3 rfl 5 isU8 .i64 Try.underlying3 (w.heap.size + 1) (.slice a2 (s.size + 1) c2) rfl (s.data.toList ++ [128]) hown2 .i64 (padN s.size) ?_ ?_ ?_ ?_
  · exact congrArg (Value.int .i64) (show (120 - ((s.size : Int) + 1) % 64) % 64 = ((padN s.size : Nat) : Int) by unfold padN; omega)
  · rw [List.length_append, HSL.out]; simp only [List.length_cons, List.length_nil]; unfold padN; omega
  · omega
  intro v3 w3 hown3 hg3 hblk3
  have hres3 := hres2.grown hg3 (by intro e; have := (hown2.lt _ e.symm).1; omega)
  have hbl3 := below_app hbl2 hg3 hown2 (by omega) (by omega)
  have hsz3 := Nat.le_trans hsz2 hg3.size
  obtain ⟨a3, c3, rfl, hc3⟩ := hown3.len8 (s.size + 1 + padN s.size) (by simp only [List.length_append, HSL.out, List.length_replicate, List.length_cons, List.length_nil])
  clear hown2 hg3 hblk3 hres2 hbl2 hsz2
  go_wp2_with (first | (at_builtin; refine unheld ?_) | fail)
  rw [un_hiW s.size (by omega)]
  refine (bytes_any _ _).mono ?_
  rintro e w' ⟨rfl, rfl⟩
  go_wp2_with (at_builtin; refine unheld ?_)
  refine Held.of ?_
  refine wpList_append_u8 rfl (.tmp 25) (.tmp 29) 30 30 rfl 5 isU8 (.inl ⟨_, Try.underlying30⟩) (w.heap.size + 1) (.slice a3 (s.size + 1 + padN s.size) c3) rfl _ (hown3.alloc _) (.slice (some ⟨w3.heap.size, 0, none⟩) 4 4) rfl [lenByte s.size 7, lenByte s.size 6, lenByte s.size 5, lenByte s.size 4] ?_ ?_ ?_ ?_
  · rw [← hi_bytes s.size (by omega)]
    refine Src.lit _ _ 5 _ #[_, _, _, _] (heap_alloc_new _ _) _ _ rfl
  · simp only [List.length_append, HSL.out, List.length_replicate, List.length_cons, List.length_nil]; unfold padN; omega
  · simp; omega
  intro v4 w4 hown4 hg4 hblk4
  have hres4 := (hres3.alloc _).grown hg4 (by intro e; have := (hown3.lt _ e.symm).1; omega)
  have hbl4 := below_app (hbl3.alloc (by omega) _) hg4 (hown3.alloc _) (by omega) (by simp; omega)
  have hsz4 : w.heap.size + 2 ≤ w4.heap.size := by have := hg4.size; simp at this; omega
  obtain ⟨a4, c4, rfl, hc4⟩ := hown4.len8 (s.size + 1 + padN s.size + 4) (by simp only [List.length_append, HSL.out, List.length_replicate, List.length_cons, List.length_nil])
  clear hown3 hg4 hblk4 hres3 hbl3 hsz3
  go_wp2_with fail
  rw [un_loW s.size]
  refine (bytes_any _ _).mono ?_
  rintro e w' ⟨rfl, rfl⟩
  go_wp2_with (at_builtin; refine unheld ?_)
  refine Held.of ?_
  refine wpList_append_u8 rfl (.tmp 30) (.tmp 33) 30 30 rfl 5 isU8 (.inl ⟨_, Try.underlying30⟩) (w.heap.size + 1) (.slice a4 (s.size + 1 + padN s.size + 4) c4) rfl _ (hown4.alloc _) (.slice (some ⟨w4.heap.size, 0, none⟩) 4 4) rfl [lenByte s.size 3, lenByte s.size 2, lenByte s.size 1, lenByte s.size 0] ?_ ?_ ?_ ?_
  · rw [← lo_bytes s.size]
    refine Src.lit _ _ 5 _ #[_, _, _, _] (heap_alloc_new _ _) _ _ rfl
  · simp only [List.length_append, HSL.out, List.length_replicate, List.length_cons, List.length_nil]; unfold padN; omega
  · simp; omega
  intro v5 w5 hown5 hg5 hblk5
  have hres5 := (hres4.alloc _).grown hg5 (by intro e; have := (hown4.lt _ e.symm).1; omega)
  have hbl5 := below_app (hbl4.alloc (by omega) _) hg5 (hown4.alloc _) (by omega) (by simp; omega)
  have hsz5 : w.heap.size + 2 ≤ w5.heap.size := by have := hg5.size; simp at this; omega
  have hpad : s.data.toList ++ [128] ++ List.replicate (padN s.size) 0 ++ [lenByte s.size 7, lenByte s.size 6, lenByte s.size 5, lenByte s.size 4] ++ [lenByte s.size 3, lenByte s.size 2, lenByte s.size 1, lenByte s.size 0] = pad s.data.toList := by
    unfold pad; rw [HSL.out]; simp
  rw [hpad] at hown5
  have hpl : (pad s.data.toList).length = s.size + 9 + padN s.size := by rw [pad_length, HSL.out]
  have hpm := pad_mod s.data.toList
  clear hown4 hg5 hblk5 hres4 hbl4 hsz4 hpad
  obtain ⟨p, hp⟩ : ∃ p, pad s.data.toList = p := ⟨_, rfl⟩
  rw [hp] at hown5 hpl hpm
  have HP := Lib.hid hp
  clear hp
  obtain ⟨nb, hnb⟩ : ∃ nb, p.length = 64 * nb := ⟨p.length / 64, by omega⟩
  have hnb0 : 0 < nb := by omega
  have hnbm : 64 * nb ≤ 140737488355328 := by unfold padN at hpl; omega
  obtain ⟨g, cap, rfl, hg0, hg1, hcap, hcm, hcell, _⟩ := hown5.form (by rw [BV_length]; omega)
  have hcell2 : ∀ j, j < 64 * nb → w5.cell? ⟨g, j, none⟩ = some (.int .u8 (ub (p.getD j 0))) := fun j hj => hcell j _ (BV_get p j (by omega))
  have HC := Lib.hid hcell2
  rw [BV_length, hnb] at hcap
  rw [BV_length, hnb]
  have HNB := Lib.hid hnb
  clear hcell hcell2 hown5 hpl hpm hnb
  unfold maxLen at hcm
  go_wp2_with fail
  refine (start_any _).mono ?_
  rintro e w6 ⟨rfl, hb6⟩
  have hsz6 := hb6.size
  go_wp2_with (first | (refine wpList_alloc_is rfl 81 rfl 8 (.int .u32 0) (by kernel_rfl) ?_) | (refine wpList_store_is rfl 81 (.tmp 5) (.tmp 35) rfl w6.heap.size 8 (UW H0.get) (fun _ => .int .u32 0) rfl rfl 81 (Row.newArr w6 _ 8 _) (by kernel_rfl) (fun _ _ => rfl) ?_))
  refine (chunk_any _ _ ⟨_, _, _, rfl⟩).mono ?_
  rintro e w7 ⟨rfl, hw7⟩
  have hz7 : w7.heap.size = w6.heap.size + 3 := by rw [← hw7]; simp
  have hb7 : Below w6.heap.size w6 w7 := by
    rw [← hw7]
    exact ((Below.setRow ((Below.refl _ _).alloc (Nat.le_refl _) _) (Nat.le_refl _) _).alloc (by simp) _).alloc (by simp; omega) _
  have hst7 : Row w7 w6.heap.size 81 8 (UW H0.get) := by
    rw [← hw7]
    exact ((Row.setRow (Row.newArr w6 _ 8 _) _).alloc _).alloc _
  have hI0 : SumI w p g w6.heap.size nb [] w7 :=
    ⟨hst7, fun j hj => by rw [hb7.cell (p := ⟨g, j, none⟩) (Nat.lt_of_lt_of_le hg1 hb6.size), hb6.cell (p := ⟨g, j, none⟩) hg1]; exact HC.out j hj,
      (hres5.belowAll hb6).belowAll hb7, (hbl5.trans (hb6.mono hbl5.size)).trans (hb7.mono (Nat.le_trans hbl5.size hb6.size)), by omega⟩
  have hB1 : w7.cell? ⟨w6.heap.size + 1, 0, none⟩ = some (.slice (some ⟨g, 0, none⟩) (64 * nb) cap) := by
    rw [← hw7, World.cell?_alloc_past _ _ _ (by simp), World.cell?_alloc_at _ _ _ _ (by simp)]; rfl
  have hB2 : w7.cell? ⟨w6.heap.size + 2, 0, none⟩ = some (.int .i64 64) := by
    rw [← hw7, World.cell?_alloc_at _ _ _ _ (by simp)]; rfl
  clear hw7
  go_wp2_with fail
  refine (wpIn_wide (n := 3)).1 ?_
  refine wpIn_rangeFunc_ownF rfl (by omega) (gf := 60) (lb := #[.pointer (some ⟨w6.heap.size + 1, 0, none⟩), .pointer (some ⟨w6.heap.size + 2, 0, none⟩)]) rfl trivial (enters_of Try.func60 (by kernel_rfl) rfl)
    (chunk_stops 2 (by omega) (w6.heap.size + 1) (w6.heap.size + 2) g nb cap hcap (by omega) w7 (by omega) (by omega) hB1 hB2) KeepsTwo.t ?hKb (Below.refl _ _) (fun _ => rfl) (SumI w p g w6.heap.size nb) (fun _ _ _ => False) ?hI (fun _ _ _ _ _ hs _ _ => hs) hI0 ?a1 ?assign ?body ?done ?stop
  case hKb =>
    intro W l o o' hl h _ _
    exact ⟨World.putObj_heap_other (by omega), World.putObj_heap_other (by omega)⟩
  case hI =>
    intro pre W W' row hs hg hr
    refine hs.grown hg (fun k e => ?_) ?_
    · have := (hr k e).1
      refine ⟨?_, ?_, ?_⟩ <;> omega
    · have := hs.2.2.2.2; omega
  case assign =>
    intro l x W K hK
    gi_wp2
    exact hK
  case stop =>
    rintro D c pre W _ _ h _
    exact h.elim
  case body =>
    rintro l pre x W hI _
    have HI := Lib.hid hI
    obtain ⟨hst, hce, hrs, hbw, hsw⟩ := hI
    have hx := x.isLt
    have hadd := add_any w6.heap.size g (64 * x.val) 64 64 (foldS p (pre.map Fin.val)) (fun i => p.getD (64 * x.val + i) 0) W (by omega) (by omega) (by omega) (by omega) (fun j hj => hce (64 * x.val + j) (by omega)) hst
    have HA := Lib.hid hadd
    clear hadd hst hce hrs
    unfold chunkV
    gi_wp2_with (refine ⟨trivial, ?_⟩; gi_at_call 54; refine (CallsIn.inRound l (callsIn_wide.2 HA.out)).mono ?_; rintro e W2 ⟨rfl, hst2, hg2⟩)
    obtain ⟨hst, hce, hrs, _, _⟩ := HI.out
    refine ⟨KeepsOthers.of_grownBy hg2 (fun j o e h => ?_), ⟨hg2.block _ (by omega) (by simp), hg2.block _ (by omega) (by simp)⟩, ?_⟩
    · cases e
      unfold Row at hst
      rw [hst] at h
      cases h
      rfl
    · refine ⟨?_, fun j hj => (World.cell?_of_block (hg2.block g (by omega) (by simp; omega))).trans (hce j hj), hrs.grown hg2 (by simp; omega), hbw.grown hg2 hbw.size (fun k e => by cases e; omega), Nat.le_trans hsw hg2.size⟩
      rw [List.map_append, List.map_cons, List.map_nil, foldS_snoc]
      exact hst2
  case done =>
    rintro D xs W hD rfl ⟨hst, _, hrs, hbw, hsw⟩ hK
    have hfold : foldS p ((List.finRange nb).map Fin.val) = shaSt s.data.toList := by
      rw [finRange_val, foldS_range]
      unfold shaSt
      rw [HP.out, HNB.out]
      congr 1
      omega
    rw [hfold] at hst
    clear hfold HC HNB HP hI0 hB1 hB2 hst7 hb7 hres5 hbl5
    have HK := Lib.hid hK
    clear hK
    generalize hfr : shaSt s.data.toList = S at *
    have HFR := Lib.hid hfr
    clear hfr
    go_wp2_with (first | (refine wpList_alloc_is rfl 24 rfl 32 (.int .u8 0) (by kernel_rfl) ?_) | (refine wpList_load_is rfl 81 (.tmp 5) rfl w6.heap.size rfl 81 8 (UW S.get) (hst.alloc _) Try.underlying81 (by kernel_rfl) ?_))
    obtain ⟨w8, hw8⟩ : ∃ w8, w8 = W.alloc (.cells (arr 32 fun _ => .int .u8 0) 24) := ⟨_, rfl⟩
    have hz8 : W.heap.size + 1 = w8.heap.size := by rw [hw8]; simp
    have ho8 : Row w8 W.heap.size 24 32 (outF S 0) := by rw [hw8]; exact Row.newArr W _ 32 _
    have hr8 : Row w8 w.heap.size 24 32 (fun _ => .int .u8 0) := by rw [hw8]; exact hrs.alloc _
    have hb8 : Below w.heap.size w w8 := by rw [hw8]; exact hbw.alloc hbw.size _
    have hK8 : w8.heap[D]? = some (.deferred (some [])) := by rw [hw8]; exact (Below.heap_alloc W _ D (Array.getElem?_eq_some_iff.1 HK.out).1).trans HK.out
    have hDW : D < W.heap.size := (Array.getElem?_eq_some_iff.1 HK.out).1
    have hDw : w.heap.size < D := by omega
    rw [← hw8]
    clear hw8 hst hrs HK
    generalize W.heap.size = bo at *
    go_loopw [42] (fun u wr => ∃ k : Nat, k ≤ 8 ∧ u = .int .i64 k ∧ Row wr bo 24 32 (outF S k) ∧ Row wr w.heap.size 24 32 (fun _ => .int .u8 0) ∧ Below w.heap.size w wr ∧ Hid (wr.heap[D]? = some (.deferred (some [])))) (fun u _ => 8 - (intOf u).toNat)
    case atStart => exact ⟨0, by omega, rfl, ho8, hr8, hb8, hK8⟩
    case round =>
      obtain ⟨k, hk, rfl, hor, hrr, hbr, hKr⟩ := hrel
      clear ho8 hr8 hb8 hK8
      by_cases hlt : k < 8
      · have hlt' : (k : Int) < 8 := by omega
        have hx : ∀ W : World, (Instr.index 81 (.agg (arr 8 (UW S.get))) (.int .i64 (k : Int))).run Try.prog W = .ok (.int .u32 (un (S.get k))) W :=
          fun W => run_index_arr _ _ 8 (UW S.get) _ Try.underlying81 (by kernel_rfl) Try.underlying79 rfl _ k hlt W
        have hbo := hor.lt
        have hk4 : 4 * (k : Int) ≤ 32 := by omega
        have hk40 : 0 ≤ 4 * (k : Int) := by omega
        have hkw : IntKind.i64.wrap (4 * (k : Int)) = 4 * (k : Int) := IntWalk.i64_in _ (by omega)
        have hkt : (4 * (k : Int)).toNat = 4 * k := by omega
        have hcp := run_copy_out wr bo k S hlt hor
        have hor' := Lib.hid hor
        clear hor
        go_wp2_with fail
        go_region_with (go_at_call 51; refine (bytes_any _ _).mono ?_; rintro e w' ⟨rfl, rfl⟩)
        go_wp2
        go_roundw
        case rel =>
          exact ⟨k + 1, by omega, by go_num, ((hor'.out.alloc _).setRow _).drew, ((hrr.alloc _).farRow (by omega) _).drew, (Below.setRow (hbr.alloc hbr.size _) (by omega) _).drew,
            ((setRow_other _ _ _ _ (by omega)).trans (Below.heap_alloc _ _ _ (by omega))).trans hKr.out⟩
        case measure => simp [intOf]; omega
      · have hge : (8 : Int) ≤ k := by omega
        obtain rfl : k = 8 := by omega
        go_wp2_with (first | (refine wpList_load_is rfl 24 (.tmp 7) rfl bo rfl 24 32 (outF S 8) hor Try.underlying24 (by kernel_rfl) ?_) | (refine wpList_store_is rfl 24 (.tmp 2) (.tmp 53) rfl w.heap.size 32 (outF S 8) (fun _ => .int .u8 0) rfl rfl 24 hrr (by kernel_rfl) (fun i hi => by unfold outF; split <;> rfl) ?_))
        have hKd : (wr.setRow w.heap.size (arr 32 (outF S 8))).heap[D]? = some (.deferred (some [])) := (setRow_other _ _ _ _ (by omega)).trans hKr.out
        have hrow : Row ((wr.setRow w.heap.size (arr 32 (outF S 8))).putObj D (.deferred none)) w.heap.size 24 32 (outF S 8) :=
          (hrr.setRow (outF S 8)).of_block (World.putObj_heap_other (by omega))
        have hbf : Below w.heap.size w ((wr.setRow w.heap.size (arr 32 (outF S 8))).putObj D (.deferred none)) :=
          (Below.setRow hbr (Nat.le_refl _) _).trans (belowK_b (w := w) (Nat.le_refl _) _ D _ _ (by omega) hKd rfl rfl)
        refine ⟨by simp, .inl ⟨_, _, rfl, run_takeDeferred hKd, ?_⟩⟩
        refine ⟨_, results_cell_row rfl _ _ w.heap.size 24 _ _ _ rfl hrow Try.underlying24 rfl (by rw [size_arr]; kernel_rfl), ?_, hbf⟩
        exact congrArg (fun c => Ending.returned (.agg c)) (arr_congr fun i hi => by unfold outF; rw [if_pos (by omega), HFR.out])
end Go.Proofs.Ytijhdfllffkfjaa
