/- Heads in memory, remainders of bytes, lengths of paths: what more laws of trees share. -/
import Derived.Test.YtijhdfllffkfjaaTrX
namespace Go.Proofs.Ytijhdfllffkfjaa
open Go.RowKit

theorem load_head {w : World} {b : Nat} {n : Int} {f : HF} (h : HeadAt w b n f) : (Instr.loadAt 36 (.pointer (some ⟨b, 0, none⟩))).run Try.prog w = .ok (.agg (hd n f)) w := by
  obtain ⟨t, h⟩ := h
  simp only [Instr.loadAt, Instr.sureAddr, Sem.run_bind, Sem.run_pure, Result.andThen_ok, run_loadVar_row w b t 36 (hd n f) (0, 0) _ h Try.underlying36 rfl (by rw [hd_size]; kernel_rfl)]
section
variable {ops : Array Oper} {rest : List Oper} {o : Oper} {a : Act} {w : World} {Q : Exit → Act → World → Prop}
theorem wpList_load_head (hgd : o.guard = none) (x : Operand) (ho : o.op = .load 36 x) (b : Nat) (hx : a.eval x = .pointer (some ⟨b, 0, none⟩)) (n : Int) (f : HF) (hr : HeadAt w b n f)
    (h : wpList Try.prog ops Q rest (a.put o.dst (.agg (hd n f))) w) : wpList Try.prog ops Q (o :: rest) a w := by
  refine wpList_plain hgd fun K hK => ?_
  unfold Oper.wp execOp
  simp only [ho, hx, Sem.run_bind, Result.andThen_ok, load_head hr]
  exact hK _ _ h
theorem quiet_load_head {K : Act → Prop} (x : Operand) (ho : o.op = .load 36 x) (b : Nat) (hx : a.eval x = .pointer (some ⟨b, 0, none⟩)) (n : Int) (f : HF) (hr : HeadAt w b n f)
    (h : K (a.put o.dst (.agg (hd n f)))) : o.quiet Try.prog a (fun w' => ∃ e : Ext w, w' = e.at) K := by
  refine ⟨_, ?_, h⟩
  rintro w' ⟨ex, rfl⟩
  unfold Oper.quietAt execOp
  simp only [ho, hx, Sem.run_bind, load_head (hr.at_ ex.below hr.lt), Sem.run_pure]
  exact ⟨rfl, rfl⟩
end
theorem HeadAt.below {w w' : World} {b : Nat} {n : Int} {f : HF} (h : HeadAt w b n f) (hb : Below w.heap.size w w') : HeadAt w' b n f := h.at_ hb h.lt
theorem HeadAt.set {w : World} {b : Nat} {t : TypeId} {n m : Int} {f g : HF} (h : w.heap[b]? = some (.cells (hd m g) t (0, 0))) : HeadAt (w.setRow b (hd n f)) b n f := ⟨t, setRow_heap _ _ _ _ _ _ h⟩
/-- a head's block made and filled -/
theorem head_made (w : World) (n : Int) (f : HF) : ∃ w', (w.alloc (.cells (hd 0 fun _ => 0) 36)).setRow w.heap.size (hd n f) = w' ∧ HeadAt w' w.heap.size n f ∧ Below w.heap.size w w' ∧ w'.heap.size = w.heap.size + 1 :=
  ⟨_, rfl, HeadAt.set (heap_alloc_new w _), Below.setRow ((Below.refl _ _).alloc (Nat.le_refl _) _) (Nat.le_refl _) _, by simp⟩
/-- a byte modulo a positive number -/
theorem ub_mod (x : UInt8) (n : Nat) (hn : 0 < n) : ∃ m : Nat, m < n ∧ ub x % (n : Int) = (m : Int) ∧ (ub x).tmod (n : Int) = (m : Int) :=
  ⟨x.toNat % n, Nat.mod_lt _ hn, by unfold ub; omega, by unfold ub; rw [Int.tmod_eq_emod_of_nonneg (by omega)]; omega⟩
/-- a path in a longer list is no shorter -/
theorem way_mono : ∀ (b i m n : Nat), n ≤ b → i < m → m ≤ n → (wayS i m).length ≤ (wayS i n).length
  | b, i, m, n, hb, hi, hm => by
    by_cases h1 : m ≤ 1
    · rw [wayS_1 h1]; simp
    · obtain ⟨k1, k2, k3⟩ := halfN_lt (n := n) (by omega)
      obtain ⟨b', rfl⟩ : ∃ b', b = b' + 1 := ⟨b - 1, by omega⟩
      by_cases hk : m ≤ halfN n
      · rw [wayS_lo (n := n) (by omega) (by omega), List.length_append, List.length_singleton]
        have := way_mono b' i m (halfN n) (by omega) hi hk
        omega
      · have hs := halfN_same (n := n) (m := m) (by omega) (by omega) hm
        by_cases hik : i < halfN n
        · rw [wayS_lo (n := n) (by omega) hik, wayS_lo (n := m) (by omega) (by rw [hs]; exact hik), hs]
          exact Nat.le_refl _
        · rw [wayS_hi (n := n) (by omega) hik, wayS_hi (n := m) (by omega) (by rw [hs]; exact hik), hs]
          simp only [List.length_append, List.length_singleton]
          have := way_mono b' (i - halfN n) (m - halfN n) (n - halfN n) (by omega) (by omega) (by omega)
          omega
end Go.Proofs.Ytijhdfllffkfjaa
