/- Lists of hashes that are written: appends of whole slices, stores into slices. No step of the program here. -/
import Derived.Test.YtijhdfllffkfjaaTrY
import Derived.Laws.AppendOwnNone
import Derived.Deep.Upon
namespace Go.Proofs.Ytijhdfllffkfjaa
open Go.RowKit

theorem Below.setCells {B : Nat} {a : World} {g : Nat} (hg : B ≤ g) : ∀ (vs : List Value) (o : Nat) (w : World) (_ : Below B a w), Below B a (w.setCells g o vs)
  | [], _, _, h => h
  | v :: r, o, _, h => Below.setCells hg r (o + 1) _ (h.setCell (p := ⟨g, o, none⟩) hg v)
theorem HOwn.made (w : World) {B : Nat} (hB : B ≤ w.heap.size) : HOwn (w.alloc (.cells #[] 24)) B (.slice (some ⟨w.heap.size, 0, none⟩) 0 0) [] :=
  ⟨by simp [HC], .inr ⟨w.heap.size, 0, #[], rfl, hB, heap_alloc_new w _, Nat.le_refl _, Nat.zero_le _, by simp, by simp [HC]⟩⟩
theorem run_append_empty {w : World} {B : Nat} {v : Value} {H : List HF} (h : HOwn w B v H) (c : Nat) : (Builtin.append_ #[38, 38] 38 #[v, .slice none 0 c]).run Try.prog w = .ok v w := by
  obtain ⟨i0, hi, -, -, -⟩ := info_parts Try.infoHash
  rcases h.2 with ⟨rfl, -⟩ | ⟨g, cap, cur, rfl, _, _, hnc, _⟩
  · simp [Builtin.append_, run_underlying Try.underlying38, sizeOf, typeInfo, hi, Builtin.lenOf, Builtin.firstCells]
  · simp [Builtin.append_, run_underlying Try.underlying38, sizeOf, typeInfo, hi, Builtin.lenOf, Builtin.firstCells, hnc, storeCells]
section
variable {ops : Array Oper} {rest : List Oper} {o : Oper} {a : Act} {w : World} {Q : Exit → Act → World → Prop}
/-- append(out, xs...): the source nil, empty or not -/
theorem wpList_append_any_h (hgd : o.guard = none) (s x : Operand) (ho : o.op = .call { callee := .builtin .append, args := #[s, x], argTypes := #[38, 38] }) (hty : o.type = 38) (B : Nat) (v u : Value) (H K : List HF) (hs : a.eval s = v) (hown : HOwn w B v H)
    (hx : a.eval x = u) (hr : HSlice w u K) (hb : H.length + K.length ≤ 1000000000) (hB : B ≤ w.heap.size)
    (h : ∀ v' w', HOwn w' B v' (H ++ K) → w.grownBy w' v.ownBlock → wpList Try.prog ops Q rest (a.put o.dst v') w') : wpList Try.prog ops Q (o :: rest) a w := by
  rcases hr with ⟨⟨ea, ec, rfl, -⟩, rfl⟩ | ⟨b, off, cap, rfl, hr, h1, h2⟩
  · cases ea with
    | none =>
      refine wpList_plain hgd fun Kk hK => ?_
      have hrun := run_append_empty hown ec
      unfold Oper.wp
      simp [execOp, ho, hty, resolve, invoke, builtin, hs, hx, hrun, Result.andThen]
      exact hK _ _ (h v w (by rw [List.append_nil]; exact hown) (grown_refl _ _))
    | some ad =>
      obtain ⟨i0, hi, hz0, hz1, hz2⟩ := info_parts Try.infoHash
      refine wpList_append_own _ hgd s x 38 ho B 24 i0 _ 32 32 Try.underlying38 hi hz0 hz1 hz2 (size_arr _ _) (by decide) v H.length (HC H) hs hown ad 0 ec [] hx (by simp) (fun j u hu => by simp at hu) (fun u hu => by simp at hu) (by unfold maxLen; simp at hb; omega) (by simp at hb; omega) hB ?_
      intro v' w' h1 h2 _
      exact h v' w' (by rw [List.append_nil] at h1 ⊢; exact h1) h2
  · exact wpList_append_h hgd s x ho B v H K hs hown b off K.length cap rfl hx hr hb hB h
theorem wpList_slice_h0 (hg : o.guard = none) (ho : o.op = .buildSlice 38 0 #[]) (h : wpList Try.prog ops Q rest (a.put o.dst (.slice (some ⟨w.heap.size, 0, none⟩) 0 0)) (w.alloc (.cells #[] 24))) : wpList Try.prog ops Q (o :: rest) a w := by
  refine wpList_plain hg fun K hK => ?_
  have hrun : (Instr.buildSlice 38 0 #[]).run Try.prog w = .ok (.slice (some ⟨w.heap.size, 0, none⟩) 0 0) (w.alloc (.cells #[] 24)) := by go_simp
  unfold Oper.wp execOp
  simp only [ho, List.map_toArray, List.map_nil, Sem.run_bind, hrun, Result.andThen_ok]
  exact hK _ _ h
theorem wpList_succ (hg : o.guard = none) (x : Operand) (ho : o.op = .binOp .add 3 x (.const (.int .i64 1)) 3) {n : Nat} (hn : n ≤ 1000000) (hx : a.eval x = .int .i64 (n : Int)) (h : wpList Try.prog ops Q rest (a.put o.dst (.int .i64 ((n + 1 : Nat) : Int))) w) : wpList Try.prog ops Q (o :: rest) a w := by
  refine wpList_value hg ?_ h
  have e : a.eval (.const (.int .i64 1)) = .int .i64 1 := rfl
  have h1 : ((n + 1 : Nat) : Int) = (n : Int) + 1 := by omega
  unfold execOp
  simp only [ho, hx, e, h1]
  go_simp
  rw [IntKind.wrap_i64]
  omega
theorem wpList_assign {P : Program} (hg : o.guard = none) (x : Operand) (ho : o.op = .assign x) {v : Value} (hx : a.eval x = v) (h : wpList P ops Q rest (a.put o.dst v) w) : wpList P ops Q (o :: rest) a w := by
  refine wpList_value hg ?_ h
  unfold execOp
  simp only [ho, hx]
  rfl
theorem wpList_slice_to (hg : o.guard = none) (x y : Operand) (ho : o.op = .slice 38 x none (some y) none) {b len cap n : Nat} (hn : n ≤ cap) (_hc : cap ≤ 9223372036854775807) (hx : a.eval x = .slice (some ⟨b, 0, none⟩) len cap) (hy : a.eval y = .int .i64 (n : Int))
    (h : wpList Try.prog ops Q rest (a.put o.dst (.slice (some ⟨b, 0, none⟩) n cap)) w) : wpList Try.prog ops Q (o :: rest) a w := by
  refine wpList_value hg ?_ h
  have h1 : (0 : Int) ≤ (n : Int) := by omega
  have h2 : (n : Int) ≤ (cap : Int) := by omega
  unfold execOp
  simp only [ho, hx, Option.map, hy]
  go_simp
theorem wpList_slice_from (hg : o.guard = none) (x y : Operand) (ho : o.op = .slice 38 x (some y) none none) {b len cap n : Nat} (hn : n ≤ len) (_hl : len ≤ cap) (_hc : cap ≤ 9223372036854775807) (hx : a.eval x = .slice (some ⟨b, 0, none⟩) len cap) (hy : a.eval y = .int .i64 (n : Int))
    (h : ∀ A, (A = some ⟨b, n * 32, none⟩ ∨ len - n = 0) → wpList Try.prog ops Q rest (a.put o.dst (.slice A (len - n : Nat) (cap - n : Nat))) w) : wpList Try.prog ops Q (o :: rest) a w := by
  have h1 : (0 : Int) ≤ (n : Int) := by omega
  have h2 : (n : Int) ≤ (len : Int) := by omega
  by_cases hcn : cap = n
  · subst hcn
    refine wpList_value hg ?_ (h (some ⟨b, 0, none⟩) (.inr (by omega)))
    unfold execOp
    simp only [ho, hx, Option.map, hy]
    go_simp
  · refine wpList_value hg ?_ (h _ (.inl rfl))
    unfold execOp
    simp only [ho, hx, Option.map, hy]
    go_simp
end
/-- the frame and what follows forgotten, save what is asked, the slots that the region fills among it -/
theorem wp_forget4 {P : Program} {c : Code} {Q : Exit → Act → World → Prop} {a : Act} {w : World} (L : List Tmp) (S : Act → Prop) (T : (Tmp → Value) → Act → Prop) (J : (Tmp → Value) → World → Prop) (hS : S a) (hT : ∀ f, T f (puts a L f)) (hQ : ∀ x f w', T f x → J f w' → Q .normal x w')
    (h : ∀ act Q', S act → (∀ f w', J f w' → Q' .normal (puts act L f) w') → c.wp P Q' act w) : c.wp P Q a w := h a Q hS fun f w' hJ => hQ _ f w' (hT f) hJ
/-- a slice of the call's own: its cells may be written -/
theorem HOwn.there {w : World} {B g cap : Nat} {H : List HF} (h : HOwn w B (.slice (some ⟨g, 0, none⟩) H.length cap) H) : w.there g 0 (H.length * 32) := fun j hj => by
  rcases h.2 with ⟨e, -⟩ | ⟨g', cap', cur, e, -, hg, h1, -, h2, -⟩
  · cases e
  · injection e with e1 e2 e3
    injection e1 with e1
    injection e1 with e1
    subst e1
    have hj2 : j < cur.size := by rw [h2]; have := Nat.mul_le_mul_right 32 h1; omega
    rw [Nat.zero_add]
    exact ⟨by rw [cell_of_row w g j cur 24 (0, 0) hg]; simp [hj2], frozen_of_row w g j cur 24 hg⟩
theorem World.there.mid {w : World} {b n i : Nat} (h : w.there b 0 (n * 32)) (hi : i < n) : w.there b (i * 32) 32 := fun j hj => by
  have := h (i * 32 + j) (by omega)
  rwa [Nat.zero_add] at this
theorem getD_set_same {H : List HF} {i : Nat} (hi : i < H.length) (f d : HF) : (H.set i f).getD i d = f := by
  rw [List.getD_eq_getElem?_getD, List.getElem?_set_self hi]; rfl
theorem getD_set_other {H : List HF} {i k : Nat} (h : k ≠ i) (f d : HF) : (H.set i f).getD k d = H.getD k d := by
  rw [List.getD_eq_getElem?_getD, List.getD_eq_getElem?_getD, List.getElem?_set_ne (Ne.symm h)]
/-- a hash stored into a slice -/
theorem HR.set {w : World} {g : Nat} {H : List HF} (h : HR w g 0 H) {i : Nat} (hi : i < H.length) (ht : w.there g (i * 32) 32) (f : HF) : HR (w.setCells g (i * 32) (hc f)) g 0 (H.set i f) := HR.mk' fun k hk => by
  rw [List.length_set] at hk
  rw [Nat.zero_add]
  by_cases hki : k = i
  · subst hki
    rw [getD_set_same hi]
    exact World.rangeAt_setCells_same w g (k * 32) (hc f) (by rw [hc_length]; exact ht)
  · rw [getD_set_other hki]
    have := h.get k hk
    rw [Nat.zero_add] at this
    exact World.rangeAt_setCells_apart this g (i * 32) (hc f) (by rw [hc_length, hc_length]; omega)
/-- one byte of a hash of a slice stored -/
theorem HR.setByte {w : World} {g : Nat} {H : List HF} (h : HR w g 0 H) {i j : Nat} (hi : i < H.length) (hj : j < 32) (b : UInt8) :
    HR (w.setCell ⟨g, i * 32 + j, none⟩ (.int .u8 (ub b))) g 0 (H.set i fun t => if t = j then b else H.getD i (fun _ => 0) t) := HR.mk' fun k hk => by
  rw [List.length_set] at hk
  rw [Nat.zero_add]
  have hcell : ∀ t, t < 32 → w.cell? ⟨g, k * 32 + t, none⟩ = some (U8 (H.getD k (fun _ => 0)) t) := fun t ht => by
    have := h.get k hk t _ (hc_get _ t ht)
    rwa [Nat.zero_add] at this
  intro t v hv
  have ht : t < 32 := by have := (List.getElem?_eq_some_iff.1 hv).1; rwa [hc_length] at this
  rw [hc_get _ t ht] at hv
  by_cases hki : k = i
  · subst hki
    rw [getD_set_same hi] at hv
    by_cases htj : t = j
    · subst htj
      rw [World.cell?_setCell_same' _ _ _ (by rw [hcell t ht]; rfl), ← hv]
      simp [U8]
    · rw [World.cell?_setCell_other _ _ _ _ (by intro e; injection e with _ e; omega), hcell t ht, ← hv]
      simp [U8, htj]
  · rw [getD_set_other hki] at hv
    rw [World.cell?_setCell_other _ _ _ _ (by intro e; injection e with _ e; omega), hcell t ht, ← hv]
theorem wrap_u8_any (n : Int) : IntKind.u8.wrap n = ub (UInt8.ofNat (n % 256).toNat) := by
  simp [IntKind.wrap, IntKind.bits, IntKind.signed, ub]
  omega
theorem bits_u8_any (op : BinOp) (x y : Int) : ∃ c : UInt8, bits op .u8 x y = ub c := by
  unfold bits
  split <;> exact ⟨_, wrap_u8_any _⟩

/-- a hash of one byte -/
def oneF (b : UInt8) : HF := fun j => if j = 0 then b else 0
theorem build_one (b : UInt8) : Try.prog.built 24 [(0, .int .u8 (ub b))] = some (arr 32 (U8 (oneF b))) := by kernel_rfl
end Go.Proofs.Ytijhdfllffkfjaa
