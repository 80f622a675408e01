/- The strings of a law. -/
import Derived.Test.YtijhdfllffkfjaaTrJ
namespace Go.Proofs.Ytijhdfllffkfjaa
open Go.RowKit

/-- a slice of bytes -/
def BSlice (w : World) (v : Value) (l : List UInt8) : Prop := ∃ (a : Option Addr) (cap : Nat), v = .slice a l.length cap ∧ l.length ≤ cap ∧ cap ≤ 9223372036854775807 ∧ (0 < l.length → ∃ b off : Nat, a = some ⟨b, off, none⟩ ∧ b < w.heap.size ∧ ∀ j, j < l.length → w.cell? ⟨b, off + j, none⟩ = some (.int .u8 (ub (l.getD j 0))))
theorem BSlice.below {w w' : World} {v : Value} {l : List UInt8} (h : BSlice w v l) (hb : Below w.heap.size w w') : BSlice w' v l := by
  obtain ⟨a, cap, h1, h2, h3, h4⟩ := h
  refine ⟨a, cap, h1, h2, h3, fun hp => ?_⟩
  obtain ⟨b, off, k1, k2, k3⟩ := h4 hp
  exact ⟨b, off, k1, by have := hb.size; omega, fun j hj => by rw [hb.cell (p := ⟨b, off + j, none⟩) k2]; exact k3 j hj⟩
def eS (s : List UInt8) : List Value := [.string (bs s)]
theorem eS_len (s : List UInt8) : (eS s).length = 1 := rfl
theorem Try.infoStr : (Try.prog.info? 9).map (fun i => (i.zero, i.size, i.bytes)) = some (some (.string ⟨#[]⟩), 1, 16) := by kernel_rfl
/-- a row of strings of the call's own -/
def SOwn (w : World) (B : Nat) (v : Value) (L : List (List UInt8)) : Prop := w.ownsRow B 9 1 v L.length (L.flatMap eS)
theorem SOwn.nil (w : World) (B : Nat) : SOwn w B (.slice none 0 0) [] := World.ownsRow_nil _ _ _ _
theorem SOwn.alloc {w : World} {B : Nat} {v : Value} {L : List (List UInt8)} (h : SOwn w B v L) (o : Obj) : SOwn (w.alloc o) B v L := World.ownsRow.alloc h o
theorem SOwn.below {w w' : World} {B : Nat} {v : Value} {L : List (List UInt8)} (h : SOwn w B v L) (hb : Below w.heap.size w w') : SOwn w' B v L :=
  World.ownsRow.kept h (row := none) (grown_below hb) (by
    rcases h.2 with ⟨rfl, _⟩ | ⟨g, cap, cur, rfl, _⟩
    · exact .inl rfl
    · exact .inr (by simp [Value.ownBlock]))
theorem SOwn.grown_below {a w w' : World} {B : Nat} {v : Value} {L : List (List UInt8)} (h : SOwn w B v L) (hb : Below B a w) (hB : B ≤ w.heap.size) (hg : w.grownBy w' v.ownBlock) : Below B a w' :=
  hb.grown hg hB (fun k hk => (World.ownsRow.lt h k hk).1)
theorem SOwn.slice {w : World} {B : Nat} {v : Value} {L : List (List UInt8)} (h : SOwn w B v L) : SSlice w v L := by
  obtain ⟨hl, h⟩ := h
  rcases h with ⟨rfl, h0⟩ | ⟨g, cap, cur, rfl, hb, hg, h1, h2, h3, h4⟩
  · exact .inl ⟨Empty.nil, List.eq_nil_of_length_eq_zero h0⟩
  · refine .inr ⟨g, 0, cap, rfl, fun i hi => ?_, h1, by unfold maxLen at h2; omega⟩
    have e := flat_get (enc := eS) (k := 1) eS_len L i 0 hi (by decide)
    rw [Nat.mul_one, Nat.add_zero, ← h4, List.getElem?_take_of_lt (by omega), Array.getElem?_toList] at e
    have hx : L.toArray[i]! = L.getD i [] := by
      rw [getElem!_pos _ i (by simpa using hi), List.getD_eq_getElem?_getD, List.getElem?_eq_getElem hi]; simp
    rw [hx] at e
    simpa [World.cell?, hg, eS] using e
section
variable {ops : Array Oper} {rest : List Oper} {o : Oper} {a : Act} {w : World} {Q : Exit → Act → World → Prop}
theorem wpList_append_str (hgd : o.guard = none) (s x : Operand) (ho : o.op = .call { callee := .builtin .append, args := #[s, x], argTypes := #[22, 22] }) (B : Nat) (v : Value) (L : List (List UInt8)) (y : List UInt8) (hs : a.eval s = v) (hown : SOwn w B v L)
    (b off : Nat) (hx : a.eval x = .slice (some ⟨b, off, none⟩) 1 1) (hr : w.cell? ⟨b, off, none⟩ = some (.string (bs y))) (hb : L.length + 1 ≤ 1000000000) (hB : B ≤ w.heap.size)
    (h : ∀ v' w', SOwn w' B v' (L ++ [y]) → w.grownBy w' v.ownBlock → wpList Try.prog ops Q rest (a.put o.dst v') w') : wpList Try.prog ops Q (o :: rest) a w := by
  obtain ⟨i0, hi, hz0, hz1, hz2⟩ := info_parts Try.infoStr
  refine wpList_append_own _ hgd s x 22 ho B 9 i0 _ 1 16 Try.underlying22 hi hz0 hz1 hz2 rfl (by decide) v L.length (L.flatMap eS) hs hown ⟨b, off, none⟩ 1 1 [.string (bs y)] hx rfl ?_ ?_ ?_ ?_ hB ?_
  · intro j u hu
    have hj : j = 0 := by
      have := (List.getElem?_eq_some_iff.1 hu).1
      simp at this; exact this
    subst hj
    rw [Addr.add_mid, Nat.add_zero, hr]
    simpa using hu
  · intro u hu; simp at hu; subst hu; rfl
  · unfold maxLen; omega
  · omega
  · intro v' w' h1 h2 _
    refine h v' w' ?_ h2
    unfold SOwn
    rw [List.length_append, List.flatMap_append]
    exact h1
end
/-- the strings of numbers -/
def strTo (l : List UInt8) (k : Nat) : List (List UInt8) := (List.range k).map fun j => [97 + l.getD j 0 % 5, UInt8.ofNat j]
def strS (l : List UInt8) : List (List UInt8) := strTo l (min l.length 20)
theorem strTo_succ (l : List UInt8) (k : Nat) : strTo l (k + 1) = strTo l k ++ [[97 + l.getD k 0 % 5, UInt8.ofNat k]] := by
  unfold strTo; rw [List.range_succ, List.map_append]; rfl
theorem strTo_length (l : List UInt8) (k : Nat) : (strTo l k).length = k := by simp [strTo]
theorem strS_length (l : List UInt8) : (strS l).length = min l.length 20 := strTo_length _ _
theorem strS_fits (l : List UInt8) : Fits (strS l) := fun s hs => by
  unfold strS strTo at hs
  simp only [List.mem_map] at hs
  obtain ⟨j, _, rfl⟩ := hs
  simp
theorem letter (x : UInt8) : (97 + (ub x).tmod 5) % 256 = ub (97 + x % 5) := by
  have h : ∀ n : Fin 256, (97 + (ub (UInt8.ofNat n.val)).tmod 5) % 256 = ub (97 + UInt8.ofNat n.val % 5) := by decide +kernel
  have := h ⟨x.toNat, x.toNat_lt⟩
  rwa [UInt8.ofNat_toNat] at this
theorem numeral (k : Nat) (h : k < 20) : (k : Int) = ub (UInt8.ofNat k) := by
  unfold ub; simp; omega
theorem conv_two (w : World) (p q : UInt8) : (convert 30 9 (.slice (some ⟨w.heap.size, 0, none⟩) 2 2)).run Try.prog (w.alloc (.cells #[.int .u8 (ub p), .int .u8 (ub q)] 5)) = .ok (.string (bs [p, q])) (w.alloc (.cells #[.int .u8 (ub p), .int .u8 (ub q)] 5)) :=
  run_conv_cells _ _ 5 Try.underlying30 Try.underlying5 Try.underlying9 _ _ 0 2 2 [p, q] rfl (fun j hj => by
    rw [cell_of_row _ _ _ _ 5 (0, 0) (heap_alloc_new w _)]
    have : j = 0 ∨ j = 1 := by simp at hj; omega
    rcases this with rfl | rfl <;> rfl)
/-- a list of strings, in memory of the call's own -/
def OwnStrs (w : World) (L : List (List UInt8)) (e : Ending) (w' : World) : Prop := ∃ v, e = .returned v ∧ SOwn w' w.heap.size v L ∧ Below w.heap.size w w'
set_option maxHeartbeats 2000000 in
set_option maxRecDepth 100000 in
theorem strings_row {a : Option Addr} {n cap : Nat} {l : List UInt8} {w : World} (hn : l.length = n) (_hc : n ≤ cap) (_hcm : cap ≤ 9223372036854775807)
    (h1 : 0 < n → ∃ b off : Nat, a = some ⟨b, off, none⟩ ∧ b < w.heap.size ∧ ∀ j, j < n → w.cell? ⟨b, off + j, none⟩ = some (.int .u8 (ub (l.getD j 0)))) :
    Calls Try.prog 20 #[.slice a n cap] w (OwnStrs w (strS l)) := by
  have HN := Lib.hid hn
  have H1 := Lib.hid h1
  clear hn h1
  go_enter Try.func20, Try.ntmps20
  go_wp2_with fail
  go_loopw [3, 4] (fun v i wr => ∃ k : Nat, k ≤ n ∧ k ≤ 20 ∧ i = .int .i64 k ∧ Hid (SOwn wr w.heap.size v (strTo l k)) ∧ Below w.heap.size w wr) (fun _ i _ => 20 - (intOf i).toNat)
  case atStart => exact ⟨0, by omega, by omega, rfl, SOwn.nil _ _, Below.refl _ _⟩
  case round =>
    obtain ⟨k, hk, hk2, rfl, hO, hB⟩ := hrel
    by_cases hlt : k < n ∧ k < 20
    · obtain ⟨hl1, hl2⟩ := hlt
      obtain ⟨b, off, hpa, hbw, hcell⟩ := H1.out (by omega)
      have hc := hcell k hl1
      rw [← hB.cell (p := ⟨b, off + k, none⟩) hbw] at hc
      obtain ⟨x, hx⟩ : ∃ x, l.getD k 0 = x := ⟨_, rfl⟩
      rw [hx] at hc
      rw [hpa]
      have z1 := hB.size
      have hcv := conv_two wr (97 + x % 5) (UInt8.ofNat k)
      rw [← letter, ← numeral k hl2] at hcv
      have HX := Lib.hid hx
      have HL := Lib.hid (strTo_length l k)
      have hA : (strTo l k).length + 1 ≤ 1000000000 := by rw [strTo_length]; omega
      have hO2 := (hO.out.alloc (.cells #[.int .u8 ((97 + (ub x).tmod 5) % 256), .int .u8 (k : Int)] 5)).alloc (.cells #[.string (bs [97 + x % 5, UInt8.ofNat k])] 9)
      have hB2 := (hB.alloc z1 (.cells #[.int .u8 ((97 + (ub x).tmod 5) % 256), .int .u8 (k : Int)] 5)).alloc (by simp; omega) (.cells #[.string (bs [97 + x % 5, UInt8.ofNat k])] 9)
      have z3 := hB2.size
      have hcl := cell_new1 (wr.alloc (.cells #[.int .u8 ((97 + (ub x).tmod 5) % 256), .int .u8 (k : Int)] 5)) (.string (bs [97 + x % 5, UInt8.ofNat k])) 9
      have e1 : (wr.alloc (.cells #[.int .u8 ((97 + (ub x).tmod 5) % 256), .int .u8 (k : Int)] 5)).heap.size = wr.heap.size + 1 := by simp
      rw [e1] at hcl
      have HA := Lib.hid hA
      clear hcell hpa hx hO hA e1
      go_wp2_with (at_builtin; refine wpList_append_str rfl _ _ rfl w.heap.size _ (strTo l k) [97 + x % 5, UInt8.ofNat k] rfl hO2 (wr.heap.size + 1) 0 rfl hcl HA.out z3 ?_; rintro v' w3 hO3 hg3)
      have hb4 := SOwn.grown_below hO2 hB2 z3 hg3
      go_roundw
      case rel => exact ⟨k + 1, by omega, by omega, by go_num, by show SOwn _ _ _ _; rw [strTo_succ, HX.out]; exact hO3, hb4⟩
      case measure => simp [intOf]; omega
    · have e : strTo l k = strS l := by unfold strS; congr 1; rw [HN.out]; omega
      have hO2 := hO.out
      rw [e] at hO2
      have HO := Lib.hid hO2
      clear hO hO2 e
      by_cases hl1 : k < n
      · have t2 : decide ((k : Int) < 20) = false := decide_eq_false (by omega)
        have t3 : decide (k < 20) = false := decide_eq_false (by omega)
        go_wp2_with fail
        go_ret
        exact ⟨_, rfl, HO.out, hB⟩
      · have t2 : decide (k < n) = false := decide_eq_false (by omega)
        go_wp2_with fail
        go_ret
        exact ⟨_, rfl, HO.out, hB⟩
theorem strings_any {l : List UInt8} {v : Value} {w : World} (h : BSlice w v l) : Calls Try.prog 20 #[v] w (OwnStrs w (strS l)) := by
  obtain ⟨a, cap, rfl, h1, h2, h3⟩ := h
  exact strings_row rfl h1 h2 h3
end Go.Proofs.Ytijhdfllffkfjaa
