/- A region that draws its order, walked by an invariant that hangs on which operations are done: each operation once, in whatever order. Stores that may come up early, calls of closures: all one. No step of the program here. -/
import Derived.Test.YtijhdfllffkfjaaTail
namespace Go.Proofs.Ytijhdfllffkfjaa
open Go.RowKit
/-- values put into slots, in a fixed order -/
def puts (a : Act) : List Tmp → (Tmp → Value) → Act
  | [], _ => a
  | s :: L, f => (puts a L f).put (some s) (f s)
def updv (f : Tmp → Value) (s : Tmp) (v : Value) : Tmp → Value := fun t => if t = s then v else f t
def updd (δ : Nat → Bool) (i : Nat) : Nat → Bool := fun j => if j = i then true else δ j
theorem put_twice (a : Act) (s : Tmp) (u v : Value) : (a.put (some s) u).put (some s) v = a.put (some s) v := by simp [Act.put]
theorem puts_same (a : Act) : ∀ (L : List Tmp) (f g : Tmp → Value), (∀ s ∈ L, f s = g s) → puts a L f = puts a L g
  | [], _, _, _ => rfl
  | s :: L, f, g, h => by
    unfold puts
    rw [h s (List.mem_cons_self ..), puts_same a L f g fun t ht => h t (List.mem_cons_of_mem _ ht)]
theorem puts_put (a : Act) (s : Tmp) (v : Value) : ∀ (L : List Tmp) (f : Tmp → Value), s ∈ L → (puts a L f).put (some s) v = puts a L (updv f s v)
  | [], _, h => by cases h
  | t :: L, f, h => by
    unfold puts
    by_cases hst : t = s
    · subst hst
      rw [put_twice]
      by_cases hL : t ∈ L
      · rw [puts_put a t v L f hL]
        simp only [updv, if_true]
        rw [← puts_put a t v L f hL, put_twice]
      · rw [puts_same a L f (updv f t v) fun u hu => by
          have : u ≠ t := by rintro rfl; exact hL hu
          simp [updv, this]]
        simp [updv]
    · have hL : s ∈ L := by
        rcases List.mem_cons.1 h with h | h
        · exact absurd h.symm hst
        · exact h
      rw [← puts_put a s v L f hL]
      have : updv f s v t = f t := by simp [updv, hst]
      rw [this, Act.put_comm _ _ _ (by simpa using fun e => hst e.symm)]
theorem put_own (a : Act) (s : Tmp) : a.put (some s) (a.tmps.getD s undef) = a := by
  have e : a.tmps.setIfInBounds s (a.tmps.getD s undef) = a.tmps := by
    refine Array.ext (by simp) fun i h1 h2 => ?_
    rw [Array.getElem_setIfInBounds]
    split
    · rename_i hi
      subst hi
      simp [h2]
    · rfl
  show ({ a with tmps := a.tmps.setIfInBounds s (a.tmps.getD s undef) } : Act) = a
  rw [e]
theorem puts_own (a : Act) : ∀ (L : List Tmp), puts a L (fun s => a.tmps.getD s undef) = a
  | [] => rfl
  | s :: L => by unfold puts; rw [puts_own a L]; exact put_own a s
theorem tmp_put_same {a : Act} {s : Tmp} {v : Value} (hs : s < a.tmps.size) : (a.put (some s) v).tmps.getD s undef = v := by simp [Act.put, hs]
theorem tmp_put_other {a : Act} {s t : Tmp} {v : Value} (hs : t ≠ s) : (a.put (some s) v).tmps.getD t undef = a.tmps.getD t undef := by
  simp only [Act.put, Array.getD_eq_getD_getElem?]
  rw [Array.getElem?_setIfInBounds_ne (Ne.symm hs)]
theorem puts_size (a : Act) : ∀ (L : List Tmp) (f : Tmp → Value), (puts a L f).tmps.size = a.tmps.size
  | [], _ => rfl
  | s :: L, f => by unfold puts; simpa [Act.put] using puts_size a L f
theorem puts_defers (a : Act) : ∀ (L : List Tmp) (f : Tmp → Value), (puts a L f).defers = a.defers
  | [], _ => rfl
  | s :: L, f => by unfold puts; simpa [Act.put] using puts_defers a L f
/-- a slot that the region fills -/
theorem puts_in {a : Act} {s : Tmp} (hs : s < a.tmps.size) : ∀ (L : List Tmp) (f : Tmp → Value), s ∈ L → (puts a L f).tmps.getD s undef = f s
  | [], _, h => by cases h
  | t :: L, f, h => by
    unfold puts
    by_cases hst : s = t
    · subst hst; exact tmp_put_same (by rw [puts_size]; exact hs)
    · rw [tmp_put_other hst]
      exact puts_in hs L f ((List.mem_cons.1 h).resolve_left hst)
/-- a slot that it does not -/
theorem puts_out {a : Act} {s : Tmp} : ∀ (L : List Tmp) (f : Tmp → Value), s ∉ L → (puts a L f).tmps.getD s undef = a.tmps.getD s undef
  | [], _, _ => rfl
  | t :: L, f, h => by
    unfold puts
    rw [tmp_put_other (fun e => h (by rw [e]; exact List.mem_cons_self ..))]
    exact puts_out L f fun e => h (List.mem_cons_of_mem _ e)
/-- the frame forgotten, save what is asked -/
theorem wp_forget {P : Program} {c : Code} {Q : Exit → Act → World → Prop} {a : Act} {w : World} (S : Act → Prop) (hS : S a) (h : ∀ a, S a → c.wp P Q a w) : c.wp P Q a w := h a hS
/-- the frame and what follows forgotten, save what is asked: S of the frame that comes in, T of the one behind -/
theorem wp_forget3 {P : Program} {c : Code} {Q : Exit → Act → World → Prop} {a : Act} {w : World} (L : List Tmp) (S T : Act → Prop) (J : (Tmp → Value) → World → Prop) (hS : S a) (hT : ∀ f, T (puts a L f)) (hQ : ∀ x f w', T x → J f w' → Q .normal x w')
    (h : ∀ act Q', S act → (∀ f w', J f w' → Q' .normal (puts act L f) w') → c.wp P Q' act w) : c.wp P Q a w := h a Q hS fun f w' hJ => hQ _ f w' (hT f) hJ
/-- a store fills no slot -/
theorem puts_none (a : Act) (L : List Tmp) (f : Tmp → Value) (v : Value) : (puts a L f).put none v = puts a L f := rfl
/-- a slot that the region does not fill, its value read off the frame -/
theorem out_of {a : Act} {s : Tmp} {L : List Tmp} {f : Tmp → Value} {v : Value} (hL : s ∉ L) (h : a.tmps.getD s undef = v) : (puts a L f).tmps.getD s undef = v := (puts_out L f hL).trans h
section
variable {P : Program} {ops : Array Oper}
/-- where the values of one operation go -/
def stepf (d : Option Tmp) (f : Tmp → Value) (v : Value) : Tmp → Value :=
  match d with
  | some s => updv f s v
  | none => f
theorem puts_step {a : Act} {L : List Tmp} {d : Option Tmp} (h : ∀ s, d = some s → s ∈ L) (f : Tmp → Value) (v : Value) : (puts a L f).put d v = puts a L (stepf d f v) := by
  cases d with
  | none => rfl
  | some s => exact puts_put a s v L f (h s rfl)
/-- what one operation ends in -/
def InvQ (a : Act) (L : List Tmp) (J : (Tmp → Value) → World → Prop) : Exit → Act → World → Prop
  | .normal, a', w' => ∃ f, a' = puts a L f ∧ J f w'
  | _, _, _ => False
/-- what an operation waits for is done -/
def doneAll (δ : Nat → Bool) : List Edge → Prop
  | [] => True
  | e :: l => (Region.binds .any e = true → δ e.on = true) ∧ doneAll δ l
theorem doneAll_of {δ : Nat → Bool} : ∀ {l : List Edge}, (∀ e ∈ l, Region.binds .any e = true → δ e.on = true) → doneAll δ l
  | [], _ => trivial
  | e :: _, h => ⟨h e (List.mem_cons_self ..), doneAll_of fun x hx => h x (List.mem_cons_of_mem _ hx)⟩
def InvSteps (P : Program) (ops : Array Oper) (a : Act) (L : List Tmp) (J : (Nat → Bool) → (Tmp → Value) → World → Prop) : Nat → List Oper → Prop
  | _, [] => True
  | k, o :: l => (∀ δ f w, J δ f w → δ k = false → doneAll δ o.after.toList → wpList P ops (InvQ a L (J (updd δ k))) [o] (puts a L f) w) ∧ InvSteps P ops a L J (k + 1) l
theorem InvSteps.at {a : Act} {L : List Tmp} {J : (Nat → Bool) → (Tmp → Value) → World → Prop} : ∀ (l : List Oper) (k : Nat), InvSteps P ops a L J k l → ∀ i o, l[i]? = some o →
    ∀ δ f w, J δ f w → δ (k + i) = false → doneAll δ o.after.toList → wpList P ops (InvQ a L (J (updd δ (k + i)))) [o] (puts a L f) w
  | [], _, _, i, o, h => by simp at h
  | x :: l, k, hs, 0, o, h => by
    obtain rfl : x = o := by simpa using h
    exact hs.1
  | x :: l, k, hs, i + 1, o, h => by
    have := InvSteps.at l (k + 1) hs.2 i o (by simpa using h)
    rwa [show k + (i + 1) = k + 1 + i by omega]
/-- every binding edge leads back -/
def backB (l : List Oper) : Bool := (List.range l.length).all fun i => ((l[i]?).map fun o => o.after.all fun e => !Region.binds .any e || decide (e.on < i)).getD true
theorem wpOp_of_one {Q : Exit → Act → World → Prop} {i : Nat} {o : Oper} {a a0 : Act} {w : World} {L : List Tmp} {J : (Tmp → Value) → World → Prop} {K : Act → World → Prop} (ho : ops[i]? = some o) (h : wpList P ops (InvQ a0 L J) [o] a w) (hK : ∀ f w', J f w' → K (puts a0 L f) w') : wpOp P ops Q i K a w := by
  unfold wpOp
  simp only [ho]
  unfold wpList at h
  by_cases hw : Region.wanted o (yielded ops a.tmps) = true
  · rw [if_pos hw] at h ⊢
    rcases h with h | ⟨-, h⟩
    · refine .inl ?_
      unfold Oper.wp at *
      have h : Oper.upon P o a (InvQ a0 L J .normal) (InvQ a0 L J) ((execOp a.eval o).run P w) := h
      have hn : ∀ a' w', InvQ a0 L J .normal a' w' → K a' w' := fun a' w' ⟨f, he, hj⟩ => by rw [he]; exact hK f w' hj
      generalize (execOp a.eval o).run P w = r at *
      cases r with
      | halt x w' => cases x <;> exact h.elim
      | ok nx w' =>
        cases nx <;> simp only [Oper.upon] at h ⊢
        case value u => exact hn _ _ h
        case skip => exact hn _ _ h
        case defer d => exact hn _ _ h
        case row r args => exact h.mono fun v w'' he => hn _ _ he
        case enter f args =>
          refine h.mono fun e w'' he => ?_
          cases e with
          | returned v => exact hn _ _ he
          | panicked ch => exact he.elim
          | outgrown => obtain ⟨_, _, hf⟩ := he; exact hf.elim
        all_goals exact h.elim
    · obtain ⟨_, _, hf⟩ := h; exact hf.elim
  · rw [if_neg hw] at h ⊢
    obtain ⟨f, he, hj⟩ := h
    rw [he]
    exact hK f w hj
/-- as many as are not done -/
def todo (n : Nat) (d : Array Bool) : Nat := ((List.range n).filter fun i => d.getD i true == false).length
theorem todo_zero {n : Nat} {d : Array Bool} (h : todo n d = 0) : ∀ i, i < n → d.getD i true = true := fun i hi => by
  unfold todo at h
  have := List.eq_nil_of_length_eq_zero h
  rw [List.filter_eq_nil_iff] at this
  have := this i (List.mem_range.2 hi)
  simpa using this
theorem filter_drop_one {p q : Nat → Bool} {i : Nat} (hp : p i = true) (hq : q i = false) (h : ∀ j, j ≠ i → p j = q j) : ∀ (l : List Nat), l.Nodup → i ∈ l → (l.filter p).length = (l.filter q).length + 1
  | [], _, hi => by cases hi
  | x :: l, hn, hi => by
    have hn' := List.nodup_cons.1 hn
    by_cases hx : x = i
    · subst hx
      have : l.filter p = l.filter q := List.filter_congr fun j hj => h j (by rintro rfl; exact hn'.1 hj)
      simp [hp, hq, this]
    · have hl : i ∈ l := by
        rcases List.mem_cons.1 hi with h' | h'
        · exact absurd h'.symm hx
        · exact h'
      have ih := filter_drop_one hp hq h l hn'.2 hl
      simp only [List.filter_cons, h x hx]
      split <;> simp [ih]
theorem todo_set {n i : Nat} {d : Array Bool} (hi : i < n) (hd : d.size = n) (h : d.getD i true = false) : todo n d = todo n (d.setIfInBounds i true) + 1 := by
  unfold todo
  refine filter_drop_one (i := i) (by simp [h]) ?_ (fun j hj => ?_) _ List.nodup_range (List.mem_range.2 hi)
  · simp [Array.getD, hd, hi]
  · rw [getD_set_ne true (Ne.symm hj)]
/-- A REGION BY AN INVARIANT. L: the slots that its operations fill; J: what is known, by what is done. -/
theorem wp_region_inv {id : Nat} {Q : Exit → Act → World → Prop} {a : Act} {w : World} {l : List Oper} (L : List Tmp) (J : (Nat → Bool) → (Tmp → Value) → World → Prop) (hm : P.follows .mixedOrders = true) (hb : backB l = true)
    (h0 : J (fun _ => false) (fun s => a.tmps.getD s undef) w.drew) (hs : InvSteps P l.toArray a L J 0 l)
    (he : ∀ δ f w', (∀ i, i < l.length → δ i = true) → J δ f w' → Q .normal (puts a L f) w') : (Code.region id l.toArray true).wp P Q a w := by
  refine wp_region_any hm ?_
  have main : ∀ (n : Nat) (d : Array Bool) (f : Tmp → Value) (w : World), d.size = l.length → todo l.length d = n → J (fun i => d.getD i false) f w → wpAny P .any l.toArray Q n d (puts a L f) w := by
    intro n
    induction n with
    | zero =>
      intro d f w hd ht hJ
      have hall := todo_zero ht
      refine ⟨?_, he _ _ _ (fun i hi => ?_) hJ⟩
      · refine List.eq_nil_iff_forall_not_mem.2 fun j hj => ?_
        obtain ⟨h1, o, h2, -⟩ := mem_ready.1 hj
        have hj' : j < l.length := by simpa using (Array.getElem?_eq_some_iff.1 h2).1
        rw [hall j hj'] at h1
        cases h1
      · have := hall i hi
        rw [Array.getD, dif_pos (by omega)] at this ⊢
        exact this
    | succ n ih =>
      intro d f w hd ht hJ
      refine ⟨fun hr => ?_, fun i hi => ?_⟩
      · exfalso
        have key : ∀ i, i < l.length → d.getD i true = true := by
          intro i
          induction i using Nat.strongRecOn with
          | _ i ihi =>
            intro hi
            cases hdi : d.getD i true with
            | true => rfl
            | false =>
              have : i ∈ Region.ready .any l.toArray d := by
                refine mem_ready.2 ⟨hdi, l[i], by simp [hi], fun e he hbe => ?_⟩
                have h1 := List.all_eq_true.1 hb i (List.mem_range.2 hi)
                simp only [List.getElem?_eq_getElem hi, Option.map_some, Option.getD_some] at h1
                have h2 := Array.all_eq_true_iff_forall_mem.1 h1 e he
                rw [hbe] at h2
                have h3 : e.on < i := by simpa using h2
                have := ihi e.on h3 (by omega)
                rw [Array.getD, dif_pos (by omega)] at this ⊢
                exact this
              rw [hr] at this
              cases this
        have : todo l.length d = 0 := by
          unfold todo
          rw [List.length_eq_zero_iff, List.filter_eq_nil_iff]
          intro i hi
          rw [key i (List.mem_range.1 hi)]
          simp
        omega
      · obtain ⟨h1, o, h2, h3⟩ := mem_ready.1 hi
        have hil : i < l.length := by simpa using (Array.getElem?_eq_some_iff.1 h2).1
        have h2' : l[i]? = some o := by simpa using h2
        have hst := InvSteps.at l 0 hs i o h2' _ f w hJ (by
          have := h1
          rw [Array.getD, dif_pos (by omega)] at this
          simp only [Nat.zero_add]
          rw [Array.getD, dif_pos (by omega)]
          exact this) (doneAll_of fun e he => h3 e (by simpa using he))
        refine wpOp_of_one h2 hst fun f' w' hJ' => ih _ f' w' (by simpa using hd) (by have := todo_set hil hd h1; omega) ?_
        have : updd (fun i => d.getD i false) (0 + i) = fun j => (d.setIfInBounds i true).getD j false := by
          funext j
          rw [Nat.zero_add]
          unfold updd
          by_cases hj : j = i
          · subst hj
            rw [if_pos rfl, Array.getD, dif_pos (by simp; omega)]
            simp
          · rw [if_neg hj]
            exact (getD_set_ne false (Ne.symm hj)).symm
        rw [this] at hJ'
        exact hJ'
  have hsz : todo l.length (Array.replicate l.toArray.size false) = l.toArray.size := by
    unfold todo
    have : (List.range l.length).filter (fun i => (Array.replicate l.toArray.size false).getD i true == false) = List.range l.length := by
      refine List.filter_eq_self.2 fun i hi => ?_
      have hi := List.mem_range.1 hi
      simp [Array.getD, hi]
    rw [this]; simp
  have := main l.toArray.size (Array.replicate l.toArray.size false) (fun s => a.tmps.getD s undef) w.drew (by simp) hsz (by
    have e : (fun i => (Array.replicate l.toArray.size false).getD i false) = fun _ => false := by
      funext i
      simp [Array.getD]
    rw [e]; exact h0)
  rw [puts_own] at this
  exact this
end
end Go.Proofs.Ytijhdfllffkfjaa
