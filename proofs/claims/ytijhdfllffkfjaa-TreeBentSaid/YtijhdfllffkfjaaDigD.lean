/- slices.Chunk over bytes at 64: the iterator's contract. -/
import Derived.Test.YtijhdfllffkfjaaDigC
import Derived.RangeFuncNested
import Derived.RangeFuncBound
import Derived.RangeFuncCalls
import Derived.RangeFuncLeaves
import Derived.Shelf.Abstract
import Derived.Shelf.RegionOpen
import Derived.OwnWalkIn
import Derived.TacticsInMore
import Derived.LoopNIn
import Derived.LoopIn
import Derived.RegionIn
namespace Go.Proofs.Ytijhdfllffkfjaa
open Go.RowKit Go.Shelf

attribute [local go_sem] Oper.semAt_some

def chunkV (g : Nat) (j : Nat) : Value := .slice (some ⟨g, 64 * j, none⟩) 64 64
/-- blocks x and y lie as they lay -/
def KeepsTwo (x y : Nat) (A B : World) : Prop := B.heap[x]? = A.heap[x]? ∧ B.heap[y]? = A.heap[y]?
theorem KeepsTwo.t {x y : Nat} {A B C : World} (h : KeepsTwo x y A B) (k : KeepsTwo x y B C) : KeepsTwo x y A C := ⟨k.1.trans h.1, k.2.trans h.2⟩

theorem take_fin (nb k : Nat) (h : k < nb) : (List.finRange nb).take (k + 1) = (List.finRange nb).take k ++ [⟨k, h⟩] := by
  rw [List.take_succ_eq_append_getElem (by simpa using h)]
  simp

set_option maxRecDepth 100000 in
set_option maxHeartbeats 2000000 in
theorem chunk1_in (n : Nat) (hn : 1 ≤ n) (l bs bn g nb cap : Nat) (hcap : 64 * nb ≤ cap) (hmax : 64 * nb ≤ 4611686018427387904) (J Jx : List (Fin nb) → World → Prop) (hJd : ∀ s A, J s A → J s A.drew)
    (hY : ∀ pre x W, J pre W → pre.length < nb → YieldAt Fence.wide (n - 1) Try.prog l #[chunkV g x.val] W fun e W' =>
      (e = .returned (.bool true) ∧ J (pre ++ [x]) W' ∧ KeepsTwo bs bn W W') ∨ (e = .returned (.bool false) ∧ Jx (pre ++ [x]) W'))
    (W : World) (hBs : W.cell? ⟨bs, 0, none⟩ = some (.slice (some ⟨g, 0, none⟩) (64 * nb) cap)) (hBn : W.cell? ⟨bn, 0, none⟩ = some (.int .i64 64)) (h0 : J [] W) :
    CallsIn Fence.wide n Try.prog 60 #[.func (.yield l) #[] #[], .pointer (some ⟨bs, 0, none⟩), .pointer (some ⟨bn, 0, none⟩)] W fun e W' => (∃ v, e = .returned v) ∧
      ((∃ ys, ys = List.finRange nb ∧ J ys W') ∨ (∃ pre, Jx pre W')) := by
  refine callsIn_of_wp Try.func60 rfl trivial ?_ rfl
  simp only [Try.ntmps60, List.size_toArray, List.length_cons, List.length_nil, Nat.reduceAdd, Nat.reduceSub, Array.replicate_succ, Array.replicate_zero, List.push_toArray, List.append_toArray, List.nil_append, List.cons_append]
  gi_wp2
  gi_loopw [4] (fun i wr => ∃ k : Nat, k ≤ nb ∧ i = .int .i64 ((64 * k : Nat) : Int) ∧ J ((List.finRange nb).take k) wr ∧ KeepsTwo bs bn W wr)
    (fun i _ => 64 * nb - (intOf i).toNat)
  case atStart => exact ⟨0, Nat.zero_le _, rfl, h0, rfl, rfl⟩
  case round =>
    obtain ⟨k, hk, rfl, hJs, hnx⟩ := hrel
    have hs : wr.cell? ⟨bs, 0, none⟩ = some (.slice (some ⟨g, 0, none⟩) (64 * nb) cap) := (World.cell?_of_block (w := W) hnx.1).trans hBs
    have hm : wr.cell? ⟨bn, 0, none⟩ = some (.int .i64 64) := (World.cell?_of_block (w := W) hnx.2).trans hBn
    by_cases hlt : k < nb
    · have hlt' : ((64 * k : Nat) : Int) < ((64 * nb : Nat) : Int) := by omega
      obtain ⟨fn, tmps, assign, body, hy, hR⟩ := hY _ ⟨k, hlt⟩ wr.drew (hJd _ _ hJs) (by simp; omega)
      dsimp only [chunkV] at hy
      gi_wp2
      gi_region
      gi_wp2
      refine hR.mono ?_
      rintro e W3 (⟨rfl, hJ3, hk3⟩ | ⟨rfl, hJx3⟩)
      · have hm3 : W3.cell? ⟨bn, 0, none⟩ = some (.int .i64 64) := (World.cell?_of_block (w := wr) hk3.2).trans hm
        gi_wp2
        go_roundw
        case rel => exact ⟨k + 1, by omega, by go_num, by rw [take_fin nb k hlt]; exact hJ3, hnx.t hk3⟩
        case measure => simp [intOf]; omega
      · gi_wp2
        refine bodyPost_ret (results_none rfl _ _ _) rfl ?_
        exact ⟨⟨_, rfl⟩, .inr ⟨_, hJx3⟩⟩
    · obtain rfl : k = nb := by omega
      gi_wp2
      go_end0
      exact ⟨⟨_, rfl⟩, .inl ⟨_, rfl, by rw [List.take_of_length_le (by simp)] at hJs; exact hJs⟩⟩

theorem chunk_stops (n : Nat) (hn : 1 ≤ n) (bs bn g nb cap : Nat) (hcap : 64 * nb ≤ cap) (hmax : 64 * nb ≤ 4611686018427387904) (w : World) (hbs : bs < w.heap.size) (hbn : bn < w.heap.size)
    (hBs : w.cell? ⟨bs, 0, none⟩ = some (.slice (some ⟨g, 0, none⟩) (64 * nb) cap)) (hBn : w.cell? ⟨bn, 0, none⟩ = some (.int .i64 64)) :
    SeqStopsK Fence.wide n Try.prog 60 #[.pointer (some ⟨bs, 0, none⟩), .pointer (some ⟨bn, 0, none⟩)] (fun j : Fin nb => #[chunkV g j.val]) (KeepsTwo bs bn) (fun ys => ys = List.finRange nb) (fun _ => True) nb w := fun l J Jx W hW hJ _ hY h0 => by
  refine (chunk1_in n hn l bs bn g nb cap hcap hmax J Jx (fun s A hs => ?_) hY W ((hW.cell (p := ⟨bs, 0, none⟩) hbs).trans hBs) ((hW.cell (p := ⟨bn, 0, none⟩) hbn).trans hBn) h0).mono ?_
  · exact hJ s A A.drew none hs ⟨rfl, rfl, rfl, Nat.le_refl _, fun _ _ _ => rfl⟩ (fun r e => by cases e)
  · rintro e W' ⟨he, ⟨ys, rfl, hj⟩ | ⟨pre, hj⟩⟩
    · exact ⟨he, .inl ⟨_, rfl, hj⟩⟩
    · exact ⟨he, .inr ⟨_, trivial, hj⟩⟩

set_option maxHeartbeats 1000000 in
theorem chunk_any (v : Value) (w : World) (hv : ∃ a n c, v = .slice a n c) :
    Calls Try.prog 53 #[v, .int .i64 64] w fun e w' => e = .returned (.func (.func 60) #[] #[.pointer (some ⟨w.heap.size, 0, none⟩), .pointer (some ⟨w.heap.size + 1, 0, none⟩)]) ∧
      (w.alloc (.cells #[v] 30)).alloc (.cells #[.int .i64 64] 3) = w' := by
  obtain ⟨a, n, c, rfl⟩ := hv
  have hmf : ∀ (fn : Fn) (first cap : Array Value) (w : World), (Instr.makeFunc fn first cap).run Try.prog w = .ok (.func fn first cap) w := fun _ _ _ _ => rfl
  go_enter Try.func53, Try.ntmps53
  go_wp2
  go_ret
  exact ⟨rfl, rfl⟩
end Go.Proofs.Ytijhdfllffkfjaa
