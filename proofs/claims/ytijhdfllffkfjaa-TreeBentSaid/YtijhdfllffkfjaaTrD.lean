/- Steps and paths that are checked: the program's. -/
import Derived.Test.YtijhdfllffkfjaaTrP
namespace Go.Proofs.Ytijhdfllffkfjaa
open Go.RowKit

theorem Try.infoStep : (Try.prog.info? 93).map (fun i => (i.zero, i.size, i.bytes)) = some (some (.agg #[.bool false]), 1, 1) := by kernel_rfl
def eB (b : Bool) : List Value := [.bool b]
theorem eB_len (b : Bool) : (eB b).length = 1 := rfl
theorem eB_one (b : Bool) : ∀ v ∈ eB b, v.oneCell' = true := by intro v hv; simp [eB] at hv; subst hv; rfl
/-- a row of steps of the call's own -/
def WOwn (w : World) (B : Nat) (v : Value) (ss : List Bool) : Prop := w.ownsRow B 93 1 v ss.length (ss.flatMap eB)
theorem WOwn.nil (w : World) (B : Nat) : WOwn w B (.slice none 0 0) [] := World.ownsRow_nil _ _ _ _
theorem WOwn.alloc {w : World} {B : Nat} {v : Value} {ss : List Bool} (h : WOwn w B v ss) (o : Obj) : WOwn (w.alloc o) B v ss := World.ownsRow.alloc h o
theorem WOwn.grown_below {a w w' : World} {B : Nat} {v : Value} {ss : List Bool} (h : WOwn w B v ss) (hb : Below B a w) (hB : B ≤ w.heap.size) (hg : w.grownBy w' v.ownBlock) : Below B a w' :=
  hb.grown hg hB (fun k hk => (World.ownsRow.lt h k hk).1)
theorem WOwn.row {w : World} {B : Nat} {v : Value} {ss : List Bool} (h : WOwn w B v ss) : (v = .slice none 0 0 ∧ ss = []) ∨ ∃ g cap : Nat, v = .slice (some ⟨g, 0, none⟩) (ss.length : Nat) cap ∧ B ≤ g ∧ g < w.heap.size ∧ ss.length ≤ cap ∧ cap ≤ 9223372036854775807 ∧ ∀ j, j < ss.length → w.cell? ⟨g, j, none⟩ = some (.bool (ss.getD j false)) := by
  obtain ⟨hl, h⟩ := h
  rcases h with ⟨rfl, h0⟩ | ⟨g, cap, cur, rfl, hb, hg, h1, h2, h3, h4⟩
  · exact .inl ⟨rfl, List.eq_nil_of_length_eq_zero h0⟩
  · refine .inr ⟨g, cap, rfl, hb, (Array.getElem?_eq_some_iff.1 hg).1, h1, by unfold maxLen at h2; omega, fun j hj => ?_⟩
    have e := flat_get (enc := eB) (k := 1) eB_len ss j 0 hj (by decide)
    rw [Nat.mul_one, Nat.add_zero, ← h4, List.getElem?_take_of_lt (by omega), Array.getElem?_toList] at e
    have hx : ss.toArray[j]! = ss.getD j false := by
      rw [getElem!_pos _ j (by simpa using hj), List.getD_eq_getElem?_getD, List.getElem?_eq_getElem hj]; simp
    rw [hx] at e
    simpa [World.cell?, hg, eB] using e
section
variable {ops : Array Oper} {rest : List Oper} {o : Oper} {a : Act} {w : World} {Q : Exit → Act → World → Prop}
theorem wpList_append_w (hgd : o.guard = none) (s x : Operand) (ho : o.op = .call { callee := .builtin .append, args := #[s, x], argTypes := #[90, 90] }) (B : Nat) (v : Value) (ss : List Bool) (y : Bool) (hs : a.eval s = v) (hown : WOwn w B v ss)
    (b off : Nat) (hx : a.eval x = .slice (some ⟨b, off, none⟩) 1 1) (hr : w.cell? ⟨b, off, none⟩ = some (.bool y)) (hb : ss.length + 1 ≤ 1000000000) (hB : B ≤ w.heap.size)
    (h : ∀ v' w', WOwn w' B v' (ss ++ [y]) → w.grownBy w' v.ownBlock → wpList Try.prog ops Q rest (a.put o.dst v') w') : wpList Try.prog ops Q (o :: rest) a w := by
  obtain ⟨i0, hi, hz0, hz1, hz2⟩ := info_parts Try.infoStep
  refine wpList_append_own _ hgd s x 90 ho B 93 i0 _ 1 1 Try.underlying90 hi hz0 hz1 hz2 rfl (by decide) v ss.length (ss.flatMap eB) hs hown ⟨b, off, none⟩ 1 1 [.bool y] hx rfl ?_ ?_ ?_ ?_ hB ?_
  · intro j u hu
    have hj : j = 0 := by
      have := (List.getElem?_eq_some_iff.1 hu).1
      simp at this; exact this
    subst hj
    rw [Addr.add_mid, Nat.add_zero, hr]
    simpa using hu
  · intro u hu; simp at hu; subst hu; rfl
  · unfold maxLen; omega
  · omega
  · intro v' w' h1 h2 _
    refine h v' w' ?_ h2
    unfold WOwn
    rw [List.length_append, List.flatMap_append]
    exact h1
end
/-- a list of steps, in memory of the call's own -/
def Steps (w : World) (ss : List Bool) (e : Ending) (w' : World) : Prop := ∃ v, e = .returned v ∧ WOwn w' w.heap.size v ss ∧ Below w.heap.size w w'
theorem cell_new1 (w : World) (u : Value) (t : TypeId) : (w.alloc (.cells #[u] t)).cell? ⟨w.heap.size, 0, none⟩ = some u := by
  rw [cell_of_row _ _ 0 _ t (0, 0) (heap_alloc_new w _)]; rfl
set_option maxHeartbeats 2000000 in
set_option maxRecDepth 100000 in
theorem way_any {i n : Nat} {w : World} (hn : n ≤ 9223372036854775807) (hi : i ≤ 9223372036854775807) :
    Calls Try.prog 57 #[.int .i64 (i : Int), .int .i64 (n : Int)] w (Steps w (wayS i n)) := by
  have hlen := wayS_63 (i := i) hn
  go_enter Try.func57, Try.ntmps57
  go_wp2_with fail
  go_loopw [0, 1, 5] (fun i' n' v wr => ∃ (j m : Nat) (acc : List Bool), i' = .int .i64 j ∧ n' = .int .i64 m ∧ m ≤ n ∧ j ≤ i ∧
      Hid (wayS j m ++ acc.reverse = wayS i n) ∧ acc.length ≤ 63 ∧ Hid (WOwn wr w.heap.size v acc) ∧ Below w.heap.size w wr) (fun _ n' _ _ => (intOf n').toNat)
  case atStart => exact ⟨i, n, [], rfl, rfl, Nat.le_refl _, Nat.le_refl _, by show _ = _; simp, by simp, World.ownsRow_nil _ _ _ _, Below.refl _ _⟩
  case round =>
    obtain ⟨j, m, acc, rfl, rfl, hm, hj, hR, hA, hO, hb⟩ := hrel
    by_cases hlt : 1 < m
    · obtain ⟨k1, k2, k3⟩ := halfN_lt (n := m) (by omega)
      obtain ⟨k, hk⟩ : ∃ k, halfN m = k := ⟨_, rfl⟩
      rw [hk] at k1 k2 k3
      have HK := Lib.hid hk
      have hO1 := hO.out
      have HO := Lib.hid hO1
      have z1 := hb.size
      have hb0 := hb
      have HL := Lib.hid hlen
      clear hk hO hO1 hlen
      by_cases hmk : j < k
      · have HA2 : Hid (acc.length + 1 ≤ 63) := by
          have h := congrArg List.length hR.out
          rw [wayS_lo (by omega) (by rw [HK.out]; exact hmk)] at h
          have h63 := HL.out
          simp only [List.length_append, List.length_reverse, List.length_singleton] at h
          show _ ≤ _
          omega
        go_wp2_with fail
        refine (half_any (n := m) (by omega) (by omega)).mono ?_
        rintro e w1 ⟨rfl, rfl⟩
        rw [HK.out]
        have hA2 := HA2.out
        have hA3 : acc.length + 1 ≤ 1000000000 := by omega
        go_wp2_with (at_builtin; refine wpList_append_w rfl _ _ rfl w.heap.size _ acc false rfl (HO.out.alloc _) w1.heap.size 0 rfl (cell_new1 _ _ _) hA3 (size_new z1 _) ?_; rintro v' w3 hO3 hg3)
        have hb4 := WOwn.grown_below (HO.out.alloc _) (hb.alloc z1 _) (size_new z1 _) hg3
        clear hg3
        go_roundw
        case rel =>
          refine ⟨j, k, acc ++ [false], rfl, rfl, by omega, hj, ?_, by simp only [List.length_append, List.length_singleton]; exact hA2, hO3, hb4⟩
          have hp := hR.out
          rw [wayS_lo (by omega) (by rw [HK.out]; exact hmk), HK.out] at hp
          show _ = _
          rw [← hp]
          simp
        case measure => simp [intOf]; omega
      · have hmk' : decide ((j : Int) < (k : Int)) = false := decide_eq_false (by omega)
        have hmk2 : decide (j < k) = false := decide_eq_false (by omega)
        have HA2 : Hid (acc.length + 1 ≤ 63) := by
          have h := congrArg List.length hR.out
          rw [wayS_hi (by omega) (by rw [HK.out]; exact hmk)] at h
          have h63 := HL.out
          simp only [List.length_append, List.length_reverse, List.length_singleton] at h
          show _ ≤ _
          omega
        go_wp2_with fail
        refine (half_any (n := m) (by omega) (by omega)).mono ?_
        rintro e w1 ⟨rfl, rfl⟩
        rw [HK.out]
        have hA2 := HA2.out
        have hA3 : acc.length + 1 ≤ 1000000000 := by omega
        go_wp2_with (at_builtin; refine wpList_append_w rfl _ _ rfl w.heap.size _ acc true rfl (HO.out.alloc _) w1.heap.size 0 rfl (cell_new1 _ _ _) hA3 (size_new z1 _) ?_; rintro v' w3 hO3 hg3)
        have hb4 := WOwn.grown_below (HO.out.alloc _) (hb.alloc z1 _) (size_new z1 _) hg3
        clear hg3
        go_roundw
        case rel =>
          refine ⟨j - k, m - k, acc ++ [true], by go_num, by go_num, by omega, by omega, ?_, by simp only [List.length_append, List.length_singleton]; exact hA2, hO3, hb4⟩
          have hp := hR.out
          rw [wayS_hi (by omega) (by rw [HK.out]; exact hmk), HK.out] at hp
          show _ = _
          rw [← hp]
          simp
        case measure => simp [intOf]; omega
    · have t1 : decide (1 < m) = false := decide_eq_false hlt
      have hP : acc.reverse = wayS i n := by
        have hP := hR.out
        rw [wayS_1 (by omega)] at hP
        simpa using hP
      have HP := Lib.hid hP
      have hO' := hO.out
      have HO := Lib.hid hO'
      clear hP hO' hR hO
      go_wp2_with fail
      refine (reverse_ownS eB_len eB_one HO.out).mono ?_
      rintro e w1 ⟨rfl, hO1, hg1⟩
      go_wp2_with fail
      go_ret
      rw [HP.out] at hO1
      exact ⟨_, rfl, hO1, WOwn.grown_below HO.out hb hb.size hg1⟩
end Go.Proofs.Ytijhdfllffkfjaa
