/- Growth, the program's. -/
import Derived.Test.YtijhdfllffkfjaaTrG
import Derived.Laws.EntriesVeiled
namespace Go.Proofs.Ytijhdfllffkfjaa
open Go.RowKit

/-- the closure that Growth makes -/
def gFn (bo bw : Nat) : Value := .func (.func 49) #[] #[.pointer (some ⟨bo, 0, none⟩), .pointer (some ⟨bw, 0, none⟩)]
/-- what the closure's two variables hold -/
structure GSt (w : World) (bo bw : Nat) (v : Value) (H : List HF) : Prop where
  out : w.cell? ⟨bo, 0, none⟩ = some v
  free : w.frozen? ⟨bo, 0, none⟩ = false
  fn : w.cell? ⟨bw, 0, none⟩ = some (gFn bo bw)
  own : HOwn w (bw + 1) v H
  lt : bo < bw
  size : bw < w.heap.size
theorem GSt.below {w w' : World} {bo bw : Nat} {v : Value} {H : List HF} (h : GSt w bo bw v H) (hb : Below w.heap.size w w') : GSt w' bo bw v H :=
  ⟨by rw [hb.cell (p := ⟨bo, 0, none⟩) (by have := h.lt; have := h.size; show bo < _; omega)]; exact h.out,
   by rw [hb.frozen (p := ⟨bo, 0, none⟩) (by have := h.lt; have := h.size; show bo < _; omega)]; exact h.free,
   by rw [hb.cell (p := ⟨bw, 0, none⟩) h.size]; exact h.fn, h.own.below hb, h.lt, by have := hb.size; have := h.size; omega⟩
/-- behind an append to the list and a store into its variable -/
theorem GSt.next {w w' : World} {bo bw : Nat} {v v' : Value} {H K : List HF} (h : GSt w bo bw v H) (hg : w.grownBy w' v.ownBlock) (hO : HOwn w' (bw + 1) v' K) (_hm : v'.oneCell' = true) :
    GSt (w'.setCell ⟨bo, 0, none⟩ v') bo bw v' K ∧ Below bo w (w'.setCell ⟨bo, 0, none⟩ v') := by
  have hlt := h.lt
  have hsz := h.size
  have hne : ∀ b, b ≤ bw → some b ≠ v.ownBlock := fun b hb e => by have := (World.ownsRow.lt h.own b e.symm).1; omega
  have hne' : ∀ b, b ≤ bw → some b ≠ v'.ownBlock := fun b hb e => by have := (World.ownsRow.lt hO b e.symm).1; omega
  have hcell : ∀ b, b ≤ bw → w'.cell? ⟨b, 0, none⟩ = w.cell? ⟨b, 0, none⟩ := fun b hb => by
    simp only [World.cell?, hg.block b (by omega) (hne b hb)]
  have hfr : ∀ b, b ≤ bw → w'.frozen? ⟨b, 0, none⟩ = w.frozen? ⟨b, 0, none⟩ := fun b hb => by
    simp only [World.frozen?, hg.block b (by omega) (hne b hb)]
  have hsome : (w'.cell? ⟨bo, 0, none⟩).isSome = true := by rw [hcell bo (by omega), h.out]; rfl
  refine ⟨⟨?_, ?_, ?_, ?_, hlt, ?_⟩, ?_⟩
  · exact World.cell?_setCell_same' _ _ _ hsome
  · rw [World.frozen?_setCell, hfr bo (by omega)]; exact h.free
  · rw [World.cell?_setCell_other _ _ _ _ (by intro e; injection e with e; omega), hcell bw (by omega)]; exact h.fn
  · refine World.ownsRow.kept hO (row := some bo) (grown_set (grown_refl _ _) (.inl rfl) _) ?_
    exact .inr (fun e => hne' bo (by omega) e.symm)
  · have := hg.size; simpa [World.setCell] using (by omega : bw < w'.heap.size)
  · refine ((Below.refl bo w).grown hg (by omega) (fun k hk => by have := (World.ownsRow.lt h.own k hk).1; omega)).setCell (Nat.le_refl _) _
theorem GSt.outAt {w w' : World} {bo bw : Nat} {v : Value} {H : List HF} (h : GSt w bo bw v H) (hg : w.grownBy w' v.ownBlock) : w'.cell? ⟨bo, 0, none⟩ = some v := by
  have hlt := h.lt
  have hsz := h.size
  have hne : some bo ≠ v.ownBlock := fun e => by have := (World.ownsRow.lt h.own bo e.symm).1; omega
  rw [← h.out]
  simp only [World.cell?, hg.block bo (by omega) hne]
theorem GSt.freeAt {w w' : World} {bo bw : Nat} {v : Value} {H : List HF} (h : GSt w bo bw v H) (hg : w.grownBy w' v.ownBlock) : w'.frozen? ⟨bo, 0, none⟩ = false := by
  have hlt := h.lt
  have hsz := h.size
  have hne : some bo ≠ v.ownBlock := fun e => by have := (World.ownsRow.lt h.own bo e.symm).1; omega
  rw [← h.free]
  simp only [World.frozen?, hg.block bo (by omega) hne]
/-- how the closure ends -/
def GEnd (w : World) (bo bw : Nat) (H : List HF) (e : Ending) (w' : World) : Prop := e = .returned (.tuple #[]) ∧ Below bo w w' ∧ ∃ v, GSt w' bo bw v H
theorem HOwn.shape {w : World} {B : Nat} {v : Value} {H : List HF} (h : HOwn w B v H) (hp : 0 < H.length) : ∃ g cap : Nat, v = .slice (some ⟨g, 0, none⟩) (H.length : Nat) cap := by
  rcases h.row with ⟨-, rfl⟩ | ⟨g, cap, h1, -⟩
  · simp at hp
  · exact ⟨g, cap, h1⟩
section
variable {ops : Array Oper} {rest : List Oper} {o : Oper} {a : Act} {w : World} {Q : Exit → Act → World → Prop}
/-- an append of one hash; the new slice by its block -/
theorem wpList_append_hs (hgd : o.guard = none) (s x : Operand) (ho : o.op = .call { callee := .builtin .append, args := #[s, x], argTypes := #[38, 38] }) (B : Nat) (v : Value) (H : List HF) (f : HF) (hs : a.eval s = v) (hown : HOwn w B v H)
    (b off : Nat) (hx : a.eval x = .slice (some ⟨b, off, none⟩) 1 1) (hr : w.rangeAt b off (hc f)) (hb : H.length ≤ 1000) (hB : B ≤ w.heap.size)
    (h : ∀ g cap w', HOwn w' B (.slice (some ⟨g, 0, none⟩) (H.length + 1) cap) (H ++ [f]) → w.grownBy w' v.ownBlock → wpList Try.prog ops Q rest (a.put o.dst (.slice (some ⟨g, 0, none⟩) (H.length + 1) cap)) w') : wpList Try.prog ops Q (o :: rest) a w := by
  refine wpList_append_h hgd s x ho B v H [f] hs hown b off 1 1 rfl hx (by rw [HC_one]; exact hr) (by simp; omega) hB (fun v' w' h1 h2 => ?_)
  obtain ⟨g, cap, e⟩ := h1.shape (by simp)
  rw [List.length_append, List.length_singleton] at e
  subst e
  exact h g cap w' h1 h2
end
theorem HOwn.oneCell {w : World} {B : Nat} {v : Value} {H : List HF} (h : HOwn w B v H) : v.oneCell' = true := by
  rcases h.2 with ⟨rfl, _⟩ | ⟨g, cap, cur, rfl, _⟩ <;> rfl
set_option maxHeartbeats 2000000 in
set_option maxRecDepth 100000 in
theorem gwalk_eq {n : Nat} {a : Option Addr} {cap bo bw : Nat} {whole : Bool} {f : HF} {v : Value} {H : List HF} {w : World} (h : GSt w bo bw v H) (hH : H.length ≤ 1000)
    (h1 : whole = false → ∀ W, Below w.heap.size w W → Calls Try.prog 16 #[.slice a n cap] W fun e w' => e = .returned (hv f) ∧ Below W.heap.size W w') :
    Calls Try.prog 49 #[.slice a n cap, .int .i64 (n : Int), .bool whole, .pointer (some ⟨bo, 0, none⟩), .pointer (some ⟨bw, 0, none⟩)] w (GEnd w bo bw (H ++ if whole then [] else [f])) := by
  cases whole with
  | true =>
    clear h1
    go_enter Try.func49, Try.ntmps49
    go_wp2_with fail
    go_end0
    exact ⟨rfl, Below.refl _ _, v, by simpa using h⟩
  | false =>
    have G0 := h1 rfl
    have HS := Lib.hid h
    have ho := h.out
    have hlt := h.lt
    have hsz := h.size
    clear h1 h
    have G1 : Hid (∀ c : Cls w, ∀ e : c.El, Calls Try.prog 16 #[.slice a n cap] e.at fun x w' => x = .returned (hv f) ∧ Below e.at.heap.size e.at w') := fun c e => G0 _ e.below
    clear G0
    go_enter Try.func49, Try.ntmps49
    go_wp2_with fail
    refine wp_region_facts 4 [(3, [], OneH f)] (by kernel_rfl) (by kernel_rfl) (by kernel_rfl) ?_ ?_
    · intro p hp u
      simp only [List.mem_cons, List.not_mem_nil, or_false] at hp
      subst hp
      exact OneH.stable _ _
    simp only [planOf, wpPlan, bareOp, List.take_succ_cons, List.take_zero, List.drop_succ_cons, List.drop_zero, Option.getD_some]
    intro c
    have hoc : ∀ e : c.El, e.at.cell? ⟨bo, 0, none⟩ = some v := cls_cell ho
    repeat (go_big_quiet_step ((go_at_call 16; with_reducible exact cls_call (G1.out _ _))))
    refine wpQuiet_nil ⟨by rfl, by show (18 : Nat) < _; simp, ?_, ?_⟩
    · intro W hW _
      unfold hv
      go_wp2_with (refine wpList_slice_h rfl _ rfl f rfl ?_)
      exact ⟨⟨_, rfl, row_range (Row.newArr _ _ _ _)⟩, rfl, (Below.refl _ _).alloc (Nat.le_refl _) _⟩
    · intro v2 hv2 c
      refine wpQuiet_nil ?_
      intro w3 hw3 hG
      obtain ⟨g, rfl, hr⟩ : OneH f v2 w3 := hG _ (List.mem_cons_self ..)
      have S3 := HS.out.below hw3
      have hB3 : bw + 1 ≤ w3.heap.size := S3.size
      go_wp2_with (at_builtin; refine wpList_append_hs rfl _ _ rfl (bw + 1) _ H f rfl S3.own g 0 rfl hr hH hB3 ?_; rintro g4 cap4 w4 hO4 hg4; obtain ⟨S5, hb5⟩ := S3.next hg4 hO4 rfl; have c4 := S3.outAt hg4; have f4 := S3.freeAt hg4)
      go_end0
      exact ⟨rfl, (hw3.mono (by omega)).trans hb5, _, S5⟩
set_option maxHeartbeats 4000000 in
set_option maxRecDepth 100000 in
theorem gwalk_lo {n m k b off cap bo bw : Nat} {whole : Bool} {f : HF} {v : Value} {H K : List HF} {w : World} (h : GSt w bo bw v H) (hH : (H ++ K).length ≤ 1000) (h2 : 2 ≤ n) (hcap : n ≤ cap) (hcm : cap ≤ 9223372036854775807) (hk : halfN n = k) (hm : m ≤ k)
    (h1 : ∀ W, Below w.heap.size w W → GSt W bo bw v H → Calls Try.prog 49 #[.slice (some ⟨b, off, none⟩) k cap, .int .i64 (m : Int), .bool whole, .pointer (some ⟨bo, 0, none⟩), .pointer (some ⟨bw, 0, none⟩)] W (GEnd W bo bw (H ++ K)))
    (h3 : ∀ W, Below bo w W → Calls Try.prog 16 #[.slice (some ⟨b, off + k, none⟩) (n - k) (cap - k)] W fun e w' => e = .returned (hv f) ∧ Below W.heap.size W w') :
    Calls Try.prog 49 #[.slice (some ⟨b, off, none⟩) n cap, .int .i64 (m : Int), .bool whole, .pointer (some ⟨bo, 0, none⟩), .pointer (some ⟨bw, 0, none⟩)] w (GEnd w bo bw (H ++ K ++ [f])) := by
  obtain ⟨k1, k2, k3⟩ := halfN_lt h2
  rw [hk] at k1 k2 k3
  have HK := Lib.hid hk
  have n0 : ((m : Int) == (n : Int)) = false := by simp; omega
  have HS := Lib.hid h
  have hlt := h.lt
  have hsz := h.size
  have hfn := h.fn
  unfold gFn at hfn
  have H1 := Lib.hid h1
  have H3 := Lib.hid h3
  clear hk h1 h3 h
  go_enter Try.func49, Try.ntmps49
  go_wp2_with fail
  refine (half_any h2 (by omega)).mono ?_
  rintro e w1 ⟨rfl, hw⟩
  obtain rfl := hw.symm
  rw [HK.out]
  clear n0 hw
  go_wp2_with fail
  have hfe : ∀ e : Ext w, e.at.cell? ⟨bw, 0, none⟩ = some (.func (.func 49) #[] #[.pointer (some ⟨bo, 0, none⟩), .pointer (some ⟨bw, 0, none⟩)]) := ext_cell hfn
  refine wp_region_ext_tail 6 (by kernel_rfl) (by kernel_rfl) ?_
  simp only [List.take_succ_cons, List.take_zero, List.drop_succ_cons, List.drop_zero]
  repeat (go_big_quiet_step (fail))
  refine wpQuiet_nil ?_
  rintro _ ⟨e, rfl⟩
  have hbe := e.below
  clear hfe hfn
  generalize e.at = w1 at *
  go_wp2_with fail
  refine (H1.out _ hbe (HS.out.below hbe)).mono ?_
  rintro e2 w2 ⟨rfl, hb2, v2, hS2⟩
  have hbo : Below bo w w2 := (hbe.mono (by omega)).trans hb2
  have ho2 := hS2.out
  have HS2 := Lib.hid hS2
  clear hS2 H1 HS hbe hb2
  go_wp2_with fail
  have G1 : Hid (∀ c : Cls w2, ∀ e : c.El, Calls Try.prog 16 #[.slice (some ⟨b, off + k, none⟩) (n - k) (cap - k)] e.at fun x w' => x = .returned (hv f) ∧ Below e.at.heap.size e.at w') := fun c e => H3.out _ (hbo.trans (e.below.mono (by have := HS2.out.size; omega)))
  clear H3
  refine wp_region_facts 6 [(5, [], OneH f)] (by kernel_rfl) (by kernel_rfl) (by kernel_rfl) ?_ ?_
  · intro p hp u
    simp only [List.mem_cons, List.not_mem_nil, or_false] at hp
    subst hp
    exact OneH.stable _ _
  simp only [planOf, wpPlan, bareOp, List.take_succ_cons, List.take_zero, List.drop_succ_cons, List.drop_zero, Option.getD_some]
  intro c
  have hoc : ∀ e : c.El, e.at.cell? ⟨bo, 0, none⟩ = some v2 := cls_cell ho2
  repeat (go_big_quiet_step ((go_at_call 16; with_reducible exact cls_call (G1.out _ _))))
  refine wpQuiet_nil ⟨by rfl, by show (38 : Nat) < _; simp, ?_, ?_⟩
  · intro W hW _
    unfold hv
    go_wp2_with (refine wpList_slice_h rfl _ rfl f rfl ?_)
    exact ⟨⟨_, rfl, row_range (Row.newArr _ _ _ _)⟩, rfl, (Below.refl _ _).alloc (Nat.le_refl _) _⟩
  · intro v3 hv3 c
    refine wpQuiet_nil ?_
    intro w3 hw3 hG
    obtain ⟨g, rfl, hr⟩ : OneH f v3 w3 := hG _ (List.mem_cons_self ..)
    have S3 := HS2.out.below hw3
    have hB3 : bw + 1 ≤ w3.heap.size := S3.size
    go_wp2_with (at_builtin; refine wpList_append_hs rfl _ _ rfl (bw + 1) _ (H ++ K) f rfl S3.own g 0 rfl hr hH hB3 ?_; rintro g4 cap4 w4 hO4 hg4; obtain ⟨S5, hb5⟩ := S3.next hg4 hO4 rfl; have c4 := S3.outAt hg4; have f4 := S3.freeAt hg4)
    go_end0
    rw [List.length_append] at S5 hb5
    exact ⟨rfl, (hbo.trans (hw3.mono (by have := HS2.out.size; omega))).trans hb5, _, S5⟩
set_option maxHeartbeats 4000000 in
set_option maxRecDepth 100000 in
theorem gwalk_hi {n m k b off cap bo bw : Nat} {whole : Bool} {f : HF} {v : Value} {H K : List HF} {w : World} (h : GSt w bo bw v H) (hH : (H ++ K).length ≤ 1000) (h2 : 2 ≤ n) (hcap : n ≤ cap) (hcm : cap ≤ 9223372036854775807) (hk : halfN n = k) (hm : k < m) (hmn : m < n)
    (h1 : ∀ W, Below w.heap.size w W → GSt W bo bw v H → Calls Try.prog 49 #[.slice (some ⟨b, off + k, none⟩) (n - k) (cap - k), .int .i64 ((m : Int) - (k : Int)), .bool false, .pointer (some ⟨bo, 0, none⟩), .pointer (some ⟨bw, 0, none⟩)] W (GEnd W bo bw (H ++ K)))
    (h3 : ∀ W, Below bo w W → Calls Try.prog 16 #[.slice (some ⟨b, off, none⟩) k cap] W fun e w' => e = .returned (hv f) ∧ Below W.heap.size W w') :
    Calls Try.prog 49 #[.slice (some ⟨b, off, none⟩) n cap, .int .i64 (m : Int), .bool whole, .pointer (some ⟨bo, 0, none⟩), .pointer (some ⟨bw, 0, none⟩)] w (GEnd w bo bw (H ++ K ++ [f])) := by
  obtain ⟨k1, k2, k3⟩ := halfN_lt h2
  rw [hk] at k1 k2 k3
  have HK := Lib.hid hk
  have n0 : ((m : Int) == (n : Int)) = false := by simp; omega
  have n4 : decide ((m : Int) ≤ (k : Int)) = false := decide_eq_false (by omega)
  have n5 : decide (m ≤ k) = false := decide_eq_false (by omega)
  have HS := Lib.hid h
  have hlt := h.lt
  have hsz := h.size
  have hfn := h.fn
  unfold gFn at hfn
  have H1 := Lib.hid h1
  have H3 := Lib.hid h3
  clear hk h1 h3 h
  go_enter Try.func49, Try.ntmps49
  go_wp2_with fail
  refine (half_any h2 (by omega)).mono ?_
  rintro e w1 ⟨rfl, hw⟩
  obtain rfl := hw.symm
  rw [HK.out]
  clear n0 hw
  go_wp2_with fail
  have s1 : IntKind.i64.wrap ((m : Int) - (k : Int)) = (m : Int) - (k : Int) := by rw [IntKind.wrap_i64]; omega
  have hfe : ∀ e : Ext w, e.at.cell? ⟨bw, 0, none⟩ = some (.func (.func 49) #[] #[.pointer (some ⟨bo, 0, none⟩), .pointer (some ⟨bw, 0, none⟩)]) := ext_cell hfn
  refine wp_region_ext_tail 7 (by kernel_rfl) (by kernel_rfl) ?_
  simp only [List.take_succ_cons, List.take_zero, List.drop_succ_cons, List.drop_zero]
  repeat (go_big_quiet_step (fail))
  refine wpQuiet_nil ?_
  rintro _ ⟨e, rfl⟩
  have hbe := e.below
  clear hfe hfn
  generalize e.at = w1 at *
  go_wp2_with fail
  refine (H1.out _ hbe (HS.out.below hbe)).mono ?_
  rintro e2 w2 ⟨rfl, hb2, v2, hS2⟩
  have hbo : Below bo w w2 := (hbe.mono (by omega)).trans hb2
  have ho2 := hS2.out
  have HS2 := Lib.hid hS2
  clear hS2 H1 HS hbe hb2
  go_wp2_with fail
  have G1 : Hid (∀ c : Cls w2, ∀ e : c.El, Calls Try.prog 16 #[.slice (some ⟨b, off, none⟩) k cap] e.at fun x w' => x = .returned (hv f) ∧ Below e.at.heap.size e.at w') := fun c e => H3.out _ (hbo.trans (e.below.mono (by have := HS2.out.size; omega)))
  clear H3
  refine wp_region_facts 6 [(5, [], OneH f)] (by kernel_rfl) (by kernel_rfl) (by kernel_rfl) ?_ ?_
  · intro p hp u
    simp only [List.mem_cons, List.not_mem_nil, or_false] at hp
    subst hp
    exact OneH.stable _ _
  simp only [planOf, wpPlan, bareOp, List.take_succ_cons, List.take_zero, List.drop_succ_cons, List.drop_zero, Option.getD_some]
  intro c
  have hoc : ∀ e : c.El, e.at.cell? ⟨bo, 0, none⟩ = some v2 := cls_cell ho2
  repeat (go_big_quiet_step ((go_at_call 16; with_reducible exact cls_call (G1.out _ _))))
  refine wpQuiet_nil ⟨by rfl, by show (53 : Nat) < _; simp, ?_, ?_⟩
  · intro W hW _
    unfold hv
    go_wp2_with (refine wpList_slice_h rfl _ rfl f rfl ?_)
    exact ⟨⟨_, rfl, row_range (Row.newArr _ _ _ _)⟩, rfl, (Below.refl _ _).alloc (Nat.le_refl _) _⟩
  · intro v3 hv3 c
    refine wpQuiet_nil ?_
    intro w3 hw3 hG
    obtain ⟨g, rfl, hr⟩ : OneH f v3 w3 := hG _ (List.mem_cons_self ..)
    have S3 := HS2.out.below hw3
    have hB3 : bw + 1 ≤ w3.heap.size := S3.size
    go_wp2_with (at_builtin; refine wpList_append_hs rfl _ _ rfl (bw + 1) _ (H ++ K) f rfl S3.own g 0 rfl hr hH hB3 ?_; rintro g4 cap4 w4 hO4 hg4; obtain ⟨S5, hb5⟩ := S3.next hg4 hO4 rfl; have c4 := S3.outAt hg4; have f4 := S3.freeAt hg4)
    go_end0
    rw [List.length_append] at S5 hb5
    exact ⟨rfl, (hbo.trans (hw3.mono (by have := HS2.out.size; omega))).trans hb5, _, S5⟩
theorem gwalk_row : ∀ (j : Nat) (L : List (List UInt8)) (m : Nat) (whole : Bool) (_ : L.length ≤ j) (_ : Fits L) (w : World) (b off cap bo bw : Nat) (v : Value) (H : List HF) (_ : GSt w bo bw v H) (_ : b < bo) (_ : H.length + 64 ≤ 900) (_ : SRow w b off L) (_ : L.length ≤ cap) (_ : cap ≤ 9223372036854775807) (_ : 0 < m) (_ : m ≤ L.length),
    Calls Try.prog 49 #[.slice (some ⟨b, off, none⟩) L.length cap, .int .i64 (m : Int), .bool whole, .pointer (some ⟨bo, 0, none⟩), .pointer (some ⟨bw, 0, none⟩)] w (GEnd w bo bw (H ++ growS L m whole))
  | j, L, m, whole, hj, hf, w, b, off, cap, bo, bw, v, H, hS, hb, hH, hc, hcap, hcm, hm0, hm => by
    by_cases he : m = L.length
    · rw [growS_eq he]
      subst he
      exact gwalk_eq hS (by omega) (fun _ W hW => root_row L.length L (Nat.le_refl _) hf W b off cap (hc.below hW) hcap hcm)
    · have h2 : 2 ≤ L.length := by omega
      obtain ⟨k1, k2, k3⟩ := halfN_lt h2
      obtain ⟨j', rfl⟩ : ∃ j', j = j' + 1 := ⟨j - 1, by omega⟩
      have hlt : (L.take (halfN L.length)).length = halfN L.length := by rw [List.length_take]; omega
      have hld : (L.drop (halfN L.length)).length = L.length - halfN L.length := List.length_drop
      by_cases hk : m ≤ halfN L.length
      · rw [growS_lo he h2 hk, ← List.append_assoc]
        have hl := growS_len _ (L.take (halfN L.length)) m whole (Nat.le_refl _)
        have h64 := manyS_64 (m := m) (n := (L.take (halfN L.length)).length) (whole := whole) (by omega)
        refine gwalk_lo hS (by rw [List.length_append]; omega) h2 hcap hcm rfl hk (fun W hW hSW => ?_) (fun W hW => ?_)
        · have h := gwalk_row j' (L.take (halfN L.length)) m whole (by omega) (hf.take _) W b off cap bo bw v H hSW hb hH ((hc.below hW).take _) (by omega) hcm hm0 (by omega)
          rw [hlt] at h
          exact h
        · have h := root_row j' (L.drop (halfN L.length)) (by omega) (hf.drop _) W b (off + halfN L.length) (cap - halfN L.length) ((hc.at_ hW hb).drop _) (by omega) (by omega)
          rw [hld] at h
          exact h
      · rw [growS_hi he h2 hk, ← List.append_assoc]
        have hl := growS_len _ (L.drop (halfN L.length)) (m - halfN L.length) false (Nat.le_refl _)
        have h64 := manyS_64 (m := m - halfN L.length) (n := (L.drop (halfN L.length)).length) (whole := false) (by omega)
        refine gwalk_hi hS (by rw [List.length_append]; omega) h2 hcap hcm rfl (by omega) (by omega) (fun W hW hSW => ?_) (fun W hW => ?_)
        · have h := gwalk_row j' (L.drop (halfN L.length)) (m - halfN L.length) false (by omega) (hf.drop _) W b (off + halfN L.length) (cap - halfN L.length) bo bw v H hSW hb hH ((hc.below hW).drop _) (by omega) (by omega) (by omega) (by omega)
          rw [hld, show ((m - halfN L.length : Nat) : Int) = (m : Int) - (halfN L.length : Nat) by omega] at h
          exact h
        · have h := root_row j' (L.take (halfN L.length)) (by omega) (hf.take _) W b off cap ((hc.at_ hW hb).take _) (by omega) hcm
          rw [hlt] at h
          exact h
set_option maxHeartbeats 1000000 in
theorem growth_bad {a : Option Addr} {len cap : Nat} {m : Int} {w : World} (h : m < 0 ∨ (len : Int) < m) :
    Calls Try.prog 34 #[.slice a len cap, .int .i64 m] w (NoneFalse w) := by
  by_cases h0 : m < 0
  · go_enter Try.func34, Try.ntmps34
    go_wp2_with fail
    go_ret2
    exact ⟨rfl, rfl⟩
  · have h1 : (len : Int) < m := by omega
    go_enter Try.func34, Try.ntmps34
    go_wp2_with fail
    go_ret2
    exact ⟨rfl, rfl⟩
set_option maxHeartbeats 1000000 in
theorem growth_end {a : Option Addr} {len cap m : Nat} {w : World} (h : m = 0 ∨ m = len) :
    Calls Try.prog 34 #[.slice a len cap, .int .i64 (m : Int)] w (ListTrue w []) := by
  have n1 : ((m : Int) < 0) = False := by simp
  have n2 : decide ((m : Int) > (len : Int)) = false := decide_eq_false (by omega)
  have n3 : decide (len < m) = false := decide_eq_false (by omega)
  have n4 : decide ((len : Int) < (m : Int)) = false := decide_eq_false (by omega)
  by_cases h0 : m = 0
  · have t0 : ((m : Int) == 0) = true := by simp; omega
    clear h h0
    go_enter Try.func34, Try.ntmps34
    go_wp2_with fail
    go_ret2
    exact ⟨_, rfl, HOwn.nil _ _, Below.refl _ _⟩
  · have t0 : ((m : Int) == 0) = false := by simp; omega
    have t1 : ((m : Int) == (len : Int)) = true := by simp; omega
    clear h h0
    go_enter Try.func34, Try.ntmps34
    go_wp2_with fail
    go_ret2
    exact ⟨_, rfl, HOwn.nil _ _, Below.refl _ _⟩
set_option maxHeartbeats 2000000 in
set_option maxRecDepth 100000 in
theorem growth_mid {H : List HF} {a : Option Addr} {len cap m : Nat} {w : World} (h0 : 0 < m) (h : m < len)
    (h1 : ∀ W, Below w.heap.size w W → GSt W w.heap.size (w.heap.size + 1) (.slice none 0 0) [] → Calls Try.prog 49 #[.slice a len cap, .int .i64 (m : Int), .bool true, .pointer (some ⟨w.heap.size, 0, none⟩), .pointer (some ⟨w.heap.size + 1, 0, none⟩)] W (GEnd W w.heap.size (w.heap.size + 1) H)) :
    Calls Try.prog 34 #[.slice a len cap, .int .i64 (m : Int)] w (ListTrue w H) := by
  have n1 : ((m : Int) < 0) = False := by simp
  have n2 : decide ((m : Int) > (len : Int)) = false := decide_eq_false (by omega)
  have n3 : decide (len < m) = false := decide_eq_false (by omega)
  have n4 : decide ((len : Int) < (m : Int)) = false := decide_eq_false (by omega)
  have t0 : ((m : Int) == 0) = false := by simp; omega
  have t1 : ((m : Int) == (len : Int)) = false := by simp; omega
  have H1 := Lib.hid h1
  clear h1
  have hmf : ∀ (fn : Fn) (first cap : Array Value) (w : World), (Instr.makeFunc fn first cap).run Try.prog w = .ok (.func fn first cap) w := fun _ _ _ _ => rfl
  go_enter Try.func34, Try.ntmps34
  go_wp2_with fail
  have hb := ((Below.refl w.heap.size w).alloc (Nat.le_refl _) (.cells #[.slice none 0 0] 38)).alloc (by simp) (.cells #[gFn w.heap.size (w.heap.size + 1)] 75)
  have hG : GSt ((w.alloc (.cells #[.slice none 0 0] 38)).alloc (.cells #[gFn w.heap.size (w.heap.size + 1)] 75)) w.heap.size (w.heap.size + 1) (.slice none 0 0) [] := by
    refine ⟨?_, ?_, ?_, World.ownsRow_nil _ _ _ _, by omega, by simp⟩
    · rw [World.cell?_alloc_some _ _ _ (by rw [cell_new1]; rfl), cell_new1]
    · exact frozen_of_row _ w.heap.size 0 #[.slice none 0 0] 38 (by rw [Below.heap_alloc _ _ _ (by simp)]; exact heap_alloc_new w _)
    · simp
  refine (H1.out _ hb hG).mono ?_
  rintro e w2 ⟨rfl, hb2, v2, hS2⟩
  have ho2 := hS2.out
  go_wp2_with fail
  go_ret2
  exact ⟨_, rfl, hS2.own.weaken (by omega), hb.trans hb2⟩
theorem growth_any {L : List (List UInt8)} {v : Value} {m : Int} {w : World} (hf : Fits L) (h : SSlice w v L) :
    Calls Try.prog 34 #[v, .int .i64 m] w (if 0 ≤ m ∧ m ≤ L.length then ListTrue w (growthS L m.toNat) else NoneFalse w) := by
  by_cases hm : 0 ≤ m ∧ m ≤ L.length
  · rw [if_pos hm]
    obtain ⟨k, rfl⟩ : ∃ k : Nat, m = k := ⟨m.toNat, by omega⟩
    rw [Int.toNat_natCast]
    by_cases he : k = 0 ∨ k = L.length
    · have e : growthS L k = [] := by
        unfold growthS
        split
        · rfl
        · rw [growS_eq (by omega)]; rfl
      rw [e]
      rcases h with ⟨⟨ea, ecap, rfl, _⟩, rfl⟩ | ⟨b, off, cap, rfl, h1⟩
      · exact growth_end he
      · exact growth_end he
    · rcases h with ⟨⟨ea, ecap, rfl, _⟩, rfl⟩ | ⟨b, off, cap, rfl, h1, h2, h3⟩
      · exfalso; simp at hm; omega
      · have e : growthS L k = growS L k true := by unfold growthS; rw [if_neg (by omega)]
        rw [e]
        refine growth_mid (by omega) (by omega) (fun W hW hS => ?_)
        have := gwalk_row _ L k true (Nat.le_refl _) hf W b off cap w.heap.size (w.heap.size + 1) _ [] hS (h1.lt (by omega)) (by simp) (h1.below hW) h2 h3 (by omega) (by omega)
        rwa [List.nil_append] at this
  · rw [if_neg hm]
    rcases h with ⟨⟨ea, ecap, rfl, _⟩, rfl⟩ | ⟨b, off, cap, rfl, h1, h2, h3⟩
    · exact growth_bad (len := 0) (by simp at hm; simp; omega)
    · exact growth_bad (by omega)
end Go.Proofs.Ytijhdfllffkfjaa
