/- A region that draws its order, some of whose operations hand back values that hang on the order (new memory): each such value is met by a fact that later growth leaves alone. One walk in the text's order. No step of the program here. -/
import Derived.Test.YtijhdfllffkfjaaDet
import Derived.Test.YtijhdfllffkfjaaTail
namespace Go.Proofs.Ytijhdfllffkfjaa
open Go.RowKit

section
variable {P : Program} {ops : Array Oper} {md : Region.Mode} {w0 : World}
abbrev Fact := Value → World → Prop
/-- one value, and all of w stands -/
def rAt (P : Program) (o : Oper) (a : Act) (w : World) (v : Value) : Prop :=
  match (execOp a.eval o).run P w with
  | .ok (.value u) w' => w' = w ∧ u = v
  | .ok .skip w' => w' = w ∧ v = undef
  | .ok (.enter f args) w' => w' = w ∧ Calls P f args w (fun e w'' => e = .returned v ∧ Below w.heap.size w w'')
  | _ => False
/-- some value that meets the fact, and all of w stands -/
def relAt (P : Program) (o : Oper) (a : Act) (φ : Fact) (w : World) : Prop :=
  match (execOp a.eval o).run P w with
  | .ok (.value u) w' => φ u w' ∧ Below w.heap.size w w'
  | .ok .skip w' => φ undef w' ∧ Below w.heap.size w w'
  | .ok (.enter f args) w' => Calls P f args w' (fun e w'' => ∃ v, e = .returned v ∧ φ v w'' ∧ Below w.heap.size w w'')
  | .ok (.row r args) w' => Rows P r args w' (fun v w'' => φ v w'' ∧ Below w.heap.size w w'')
  | _ => False
def upd2 (F : Nat → World → Prop) (i : Nat) (g : World → Prop) : Nat → World → Prop := fun j => if j = i then (fun w => F j w ∧ g w) else F j
def rOpAt (P : Program) (ops : Array Oper) (w0 : World) (D : Nat → List Nat) (Φ : Nat → Option Fact) (o : Oper) (i : Nat) (K : (Nat → World → Prop) → Act → Prop) (F : Nat → World → Prop) (a : Act) : Prop :=
  if Region.wanted o (yielded ops a.tmps) then
    (match Φ i with
     | none => ∃ v, (∀ w, Below w0.heap.size w0 w → rAt P o a w v) ∧ K F (a.put o.dst v)
     | some φ => (∀ w, Below w0.heap.size w0 w → (∀ d ∈ D i, F d w) → relAt P o a φ w) ∧ ∀ v, (∃ w, Below w0.heap.size w0 w ∧ (∀ j, F j w) ∧ φ v w) → K (upd2 F i (φ v)) (a.put o.dst v))
  else K F (a.put o.dst undef)
def rOp (P : Program) (ops : Array Oper) (w0 : World) (D : Nat → List Nat) (Φ : Nat → Option Fact) (i : Nat) (K : (Nat → World → Prop) → Act → Prop) (F : Nat → World → Prop) (a : Act) : Prop :=
  match ops[i]? with
  | none => K F a
  | some o => rOpAt P ops w0 D Φ o i K F a
/-- what the facts are behind an operation -/
def updB (Φ : Nat → Option Fact) (i : Nat) (b : Bool) (v : Value) (F : Nat → World → Prop) : Nat → World → Prop :=
  if b then (match Φ i with | some φ => upd2 F i (φ v) | none => F) else F
theorem updB_comm (Φ : Nat → Option Fact) {i j : Nat} (h : i ≠ j) (b c : Bool) (v u : Value) (F : Nat → World → Prop) : updB Φ i b v (updB Φ j c u F) = updB Φ j c u (updB Φ i b v F) := by
  unfold updB
  cases b <;> cases c <;> simp
  cases Φ i <;> cases Φ j <;> simp
  funext k
  unfold upd2
  by_cases h1 : k = i
  · subst h1; simp [h]
  · by_cases h2 : k = j
    · subst h2; simp [h1]
    · simp [h1, h2]
theorem updB_old {Φ : Nat → Option Fact} {i : Nat} {b : Bool} {v : Value} {F : Nat → World → Prop} {k : Nat} {w : World} (h : updB Φ i b v F k w) : F k w := by
  unfold updB at h
  cases b with
  | false => exact h
  | true =>
    cases hΦ : Φ i with
    | none => simpa [hΦ] using h
    | some φ =>
      simp only [hΦ, if_true, upd2] at h
      split at h
      · exact h.1
      · exact h
theorem updB_ne {Φ : Nat → Option Fact} {i : Nat} {b : Bool} {v : Value} {F : Nat → World → Prop} {k : Nat} (h : k ≠ i) : updB Φ i b v F k = F k := by
  unfold updB
  cases b with
  | false => rfl
  | true =>
    cases hΦ : Φ i with
    | none => rfl
    | some φ => simp only [if_true, upd2, if_neg h]
/-- the values that an operation may hand back, the facts being F -/
def TR (w0 : World) (Φ : Nat → Option Fact) (i : Nat) (b : Bool) (v0 : Value) (F : Nat → World → Prop) (v : Value) : Prop :=
  if b then (match Φ i with
    | none => v = v0
    | some φ => ∃ w, Below w0.heap.size w0 w ∧ (∀ j, F j w) ∧ φ v w)
  else v = undef
def YR (P : Program) (ops : Array Oper) (w0 : World) (D : Nat → List Nat) (Φ : Nat → Option Fact) (o : Oper) (i : Nat) (a : Act) (F : Nat → World → Prop) (b : Bool) (v0 : Value) : Prop :=
  Region.wanted o (yielded ops a.tmps) = b ∧
    (b = true → match Φ i with
      | none => ∀ w, Below w0.heap.size w0 w → rAt P o a w v0
      | some φ => ∀ w, Below w0.heap.size w0 w → (∀ d ∈ D i, F d w) → relAt P o a φ w)
theorem YR.of {D : Nat → List Nat} {Φ : Nat → Option Fact} {o : Oper} {i : Nat} {K : (Nat → World → Prop) → Act → Prop} {F : Nat → World → Prop} {a : Act} (h : rOpAt P ops w0 D Φ o i K F a) :
    ∃ b v0, YR P ops w0 D Φ o i a F b v0 ∧ ∀ v, TR w0 Φ i b v0 F v → K (updB Φ i b v F) (a.put o.dst v) := by
  unfold rOpAt at h
  by_cases hw : Region.wanted o (yielded ops a.tmps) = true
  · rw [if_pos hw] at h
    cases hΦ : Φ i with
    | none =>
      simp only [hΦ] at h
      obtain ⟨v, h1, h2⟩ := h
      refine ⟨true, v, ⟨hw, fun _ => by simp only [hΦ]; exact h1⟩, fun u hu => ?_⟩
      simp only [TR, hΦ, if_true] at hu
      subst hu
      simpa [updB, hΦ] using h2
    | some φ =>
      simp only [hΦ] at h
      obtain ⟨h1, h2⟩ := h
      refine ⟨true, undef, ⟨hw, fun _ => by simp only [hΦ]; exact h1⟩, fun v hv => ?_⟩
      simp only [TR, hΦ, if_true] at hv
      simpa [updB, hΦ] using h2 v hv
  · rw [if_neg hw] at h
    refine ⟨false, undef, ⟨by simpa using hw, fun h => (by cases h)⟩, fun u hu => ?_⟩
    simp only [TR, Bool.false_eq_true, if_false] at hu
    subst hu
    simpa [updB] using h
theorem YR.rOpAt {D : Nat → List Nat} {Φ : Nat → Option Fact} {o : Oper} {i : Nat} {K : (Nat → World → Prop) → Act → Prop} {F : Nat → World → Prop} {a : Act} {b : Bool} {v0 : Value} (hy : YR P ops w0 D Φ o i a F b v0) (h : ∀ v, TR w0 Φ i b v0 F v → K (updB Φ i b v F) (a.put o.dst v)) : rOpAt P ops w0 D Φ o i K F a := by
  unfold Go.Proofs.Ytijhdfllffkfjaa.rOpAt
  obtain ⟨hw, h1⟩ := hy
  cases b with
  | false =>
    rw [if_neg (by simp [hw])]
    have := h undef (by simp [TR])
    simpa [updB] using this
  | true =>
    rw [if_pos hw]
    have h1 := h1 rfl
    cases hΦ : Φ i with
    | none =>
      simp only [hΦ] at h1 ⊢
      exact ⟨v0, h1, by simpa [updB, hΦ] using h v0 (by simp [TR, hΦ])⟩
    | some φ =>
      simp only [hΦ] at h1 ⊢
      exact ⟨h1, fun v hv => by simpa [updB, hΦ] using h v (by simp only [TR, hΦ, if_true]; exact hv)⟩
theorem YR.same {D : Nat → List Nat} {Φ : Nat → Option Fact} {o : Oper} {i : Nat} {a a' : Act} {F : Nat → World → Prop} {b : Bool} {v0 : Value} (hy : YR P ops w0 D Φ o i a F b v0) (he : execOp a'.eval o = execOp a.eval o)
    (hw : Region.wanted o (yielded ops a'.tmps) = Region.wanted o (yielded ops a.tmps)) : YR P ops w0 D Φ o i a' F b v0 := by
  unfold YR rAt relAt at *
  rw [he, hw]
  exact hy
/-- the facts of others make no difference -/
theorem YR.facts {D : Nat → List Nat} {Φ : Nat → Option Fact} {o : Oper} {i : Nat} {a : Act} {F G : Nat → World → Prop} {b : Bool} {v0 : Value} (hy : YR P ops w0 D Φ o i a F b v0) (h : ∀ d ∈ D i, F d = G d) : YR P ops w0 D Φ o i a G b v0 := by
  obtain ⟨hw, h1⟩ := hy
  refine ⟨hw, fun hb => ?_⟩
  have h1 := h1 hb
  cases hΦ : Φ i with
  | none => simp only [hΦ] at h1 ⊢; exact h1
  | some φ => simp only [hΦ] at h1 ⊢; exact fun w hw' hd => h1 w hw' fun d hd' => by rw [h d hd']; exact hd d hd'
theorem relAt.some {o : Oper} {a : Act} {φ : Fact} {w : World} (h : relAt P o a φ w) : ∃ v w', φ v w' ∧ Below w.heap.size w w' := by
  unfold relAt at h
  split at h
  · exact ⟨_, _, h⟩
  · exact ⟨_, _, h⟩
  · obtain ⟨e, w', fr, ⟨v, rfl, hv⟩, -⟩ := h []
    exact ⟨v, w', hv⟩
  · obtain ⟨v, w', hv, -⟩ := h default []
    exact ⟨v, w', hv⟩
  · exact h.elim
def Stable (g : World → Prop) : Prop := ∀ w w', g w → Below w.heap.size w w' → g w'
theorem Below.both {w w' : World} (h : Below w0.heap.size w0 w) (k : Below w.heap.size w w') : Below w0.heap.size w0 w' := h.trans (k.mono h.size)
/-- all facts at once are met somewhere, and stay -/
def Met (w0 : World) (F : Nat → World → Prop) : Prop := (∃ w, Below w0.heap.size w0 w ∧ ∀ j, F j w) ∧ ∀ j, Stable (F j)
theorem YR.ne {D : Nat → List Nat} {Φ : Nat → Option Fact} {o : Oper} {i : Nat} {a : Act} {F : Nat → World → Prop} {b : Bool} {v0 : Value} (hF : Met w0 F) (hy : YR P ops w0 D Φ o i a F b v0) : ∃ v, TR w0 Φ i b v0 F v := by
  obtain ⟨hw, h1⟩ := hy
  cases b with
  | false => exact ⟨undef, by simp [TR]⟩
  | true =>
    have h1 := h1 rfl
    cases hΦ : Φ i with
    | none => exact ⟨v0, by simp [TR, hΦ]⟩
    | some φ =>
      simp only [hΦ] at h1
      obtain ⟨⟨w, hw1, hw2⟩, hS⟩ := hF
      obtain ⟨v, w', hv, hb⟩ := (h1 w hw1 (fun d _ => hw2 d)).some
      exact ⟨v, by simp only [TR, hΦ, if_true]; exact ⟨w', Below.both hw1 hb, fun j => hS j _ _ (hw2 j) hb, hv⟩⟩
theorem Met.next {Φ : Nat → Option Fact} (hΦ : ∀ i φ, Φ i = some φ → ∀ v, Stable (φ v)) {i : Nat} {b : Bool} {v0 v : Value} {F : Nat → World → Prop} (hF : Met w0 F) (hv : TR w0 Φ i b v0 F v) : Met w0 (updB Φ i b v F) := by
  unfold TR at hv
  unfold updB
  cases b with
  | false => exact hF
  | true =>
    simp only [if_true] at hv ⊢
    cases h : Φ i with
    | none => simpa [h] using hF
    | some φ =>
      simp only [h] at hv ⊢
      obtain ⟨w, h1, h2, h3⟩ := hv
      refine ⟨⟨w, h1, fun j => ?_⟩, fun j => ?_⟩
      · unfold upd2
        split
        · exact ⟨h2 j, h3⟩
        · exact h2 j
      · unfold upd2
        split
        · exact fun w w' hw hb => ⟨hF.2 j _ _ hw.1 hb, hΦ i φ h v _ _ hw.2 hb⟩
        · exact hF.2 j
theorem rAt.one {o : Oper} {a : Act} {w : World} {v u : Value} (h : rAt P o a w v) (k : rAt P o a w u) : v = u := by
  unfold rAt at h k
  generalize (execOp a.eval o).run P w = r at *
  cases r with
  | halt x w' => exact h.elim
  | ok nx w' =>
    cases nx <;> simp only at h k
    case value x => rw [← h.2, ← k.2]
    case skip => rw [h.2, k.2]
    case enter f args => exact Calls.one h.2 k.2
/-- what one may hand back, it may hand back behind the other as well -/
theorem TR.swap {Φ : Nat → Option Fact} {i j : Nat} {b c : Bool} {v0 u0 v u : Value} {F : Nat → World → Prop} (hu : TR w0 Φ j c u0 F u) (hv : TR w0 Φ i b v0 (updB Φ j c u F) v) : TR w0 Φ i b v0 F v ∧ TR w0 Φ j c u0 (updB Φ i b v F) u := by
  constructor
  · unfold TR at hv ⊢
    cases b with
    | false => exact hv
    | true =>
      simp only [if_true] at hv ⊢
      cases h : Φ i with
      | none => simpa [h] using hv
      | some φ =>
        simp only [h] at hv ⊢
        obtain ⟨w, h1, h2, h3⟩ := hv
        exact ⟨w, h1, fun k => updB_old (h2 k), h3⟩
  · unfold TR at hu ⊢
    cases c with
    | false => exact hu
    | true =>
      simp only [if_true] at hu ⊢
      cases h : Φ j with
      | none => simpa [h] using hu
      | some ψ =>
        simp only [h] at hu ⊢
        unfold TR at hv
        cases b with
        | false => obtain ⟨w, h1, h2, h3⟩ := hu; exact ⟨w, h1, fun k => by simpa [updB] using h2 k, h3⟩
        | true =>
          simp only [if_true] at hv
          cases h' : Φ i with
          | none => obtain ⟨w, h1, h2, h3⟩ := hu; exact ⟨w, h1, fun k => by simpa [updB, h'] using h2 k, h3⟩
          | some φ =>
            simp only [h'] at hv
            obtain ⟨w, h1, h2, h3⟩ := hv
            have hj := h2 j
            simp only [updB, h, if_true, upd2] at hj
            refine ⟨w, h1, fun k => ?_, hj.2⟩
            simp only [updB, h', if_true, upd2]
            have hk := updB_old (h2 k)
            split
            · exact ⟨hk, h3⟩
            · exact hk
theorem rOp_put {D : Nat → List Nat} {Φ : Nat → Option Fact} {i j : Nat} {oi oj : Oper} (hij : i ≠ j) (hDj : i ∉ D j) (hDi : j ∉ D i) (hap : oi.apart ops oj = true)
    (hsi : ∀ cs b, oi.op ≠ .select cs b) (hsj : ∀ cs b, oj.op ≠ .select cs b) {K : (Nat → World → Prop) → Act → Prop} {F : Nat → World → Prop} {a : Act} {b : Bool} {v0 : Value} (hF : Met w0 F)
    (hy : YR P ops w0 D Φ oi i a F b v0) (h : ∀ v, TR w0 Φ i b v0 F v → rOpAt P ops w0 D Φ oj j K (updB Φ i b v F) (a.put oi.dst v)) :
    rOpAt P ops w0 D Φ oj j (fun F' a' => (∃ c u0 u, TR w0 Φ j c u0 F u ∧ F' = updB Φ j c u F) ∧ YR P ops w0 D Φ oi i a' F' b v0 ∧ ∀ v, TR w0 Φ i b v0 F' v → K (updB Φ i b v F') (a'.put oi.dst v)) F a := by
  obtain ⟨h1, h2, h3⟩ := Oper.apart_spec hap
  have back : ∀ {v c u0}, YR P ops w0 D Φ oj j (a.put oi.dst v) (updB Φ i b v F) c u0 → YR P ops w0 D Φ oj j a F c u0 := fun {v c u0} hz =>
    (hz.same (execOp_put oj hsj a oi.dst v h1).symm (wanted_put oj a oi.dst v h1).symm).facts (fun d hd => updB_ne (by rintro rfl; exact hDj hd))
  obtain ⟨v1, hv1⟩ := hy.ne hF
  obtain ⟨c, u0, hz0, -⟩ := YR.of (h v1 hv1)
  have hz := back hz0
  refine hz.rOpAt fun u hu => ⟨⟨c, u0, u, hu, rfl⟩, (hy.same (execOp_put oi hsi a oj.dst u h3) (wanted_put oi a oj.dst u h3)).facts (fun d hd => (updB_ne (by rintro rfl; exact hDi hd)).symm), fun v hv => ?_⟩
  obtain ⟨hv', hu'⟩ := TR.swap hu hv
  obtain ⟨c', u0', hz', hk⟩ := YR.of (h v hv')
  have hzb := back hz'
  obtain rfl : c = c' := hz.1.symm.trans hzb.1
  have hu2 : TR w0 Φ j c u0' (updB Φ i b v F) u := by
    unfold TR at hu' ⊢
    cases hc : c with
    | false => subst hc; exact hu'
    | true =>
      subst hc
      simp only [if_true] at hu' ⊢
      cases hΦ : Φ j with
      | some φ => simpa [hΦ] using hu'
      | none =>
        have e1 := hz.2 rfl
        have e2 := hzb.2 rfl
        simp only [hΦ] at hu' e1 e2 ⊢
        rw [hu', (e1 w0 (Below.refl _ _)).one (e2 w0 (Below.refl _ _))]
  have := hk u hu2
  rw [← updB_comm Φ hij, Act.put_comm a v u h2] at this
  exact this
theorem rOpAt_mono {D : Nat → List Nat} {Φ : Nat → Option Fact} {o : Oper} {i : Nat} {K K' : (Nat → World → Prop) → Act → Prop} {F : Nat → World → Prop} {a : Act} (h : ∀ F a, K F a → K' F a) (hh : rOpAt P ops w0 D Φ o i K F a) : rOpAt P ops w0 D Φ o i K' F a := by
  obtain ⟨b, v0, hy, hk⟩ := YR.of hh
  exact hy.rOpAt fun v hv => h _ _ (hk v hv)
/-- the head's operations in whatever order -/
def HeadR (P : Program) (md : Region.Mode) (ops : Array Oper) (w0 : World) (D : Nat → List Nat) (Φ : Nat → Option Fact) (n : Nat) (L : Array Bool → (Nat → World → Prop) → Act → Prop) : Nat → Array Bool → (Nat → World → Prop) → Act → Prop
  | 0, done, F, a => L done F a
  | f + 1, done, F, a => Region.ready md ops done ≠ [] ∧ ∀ i ∈ Region.ready md ops done, i < n ∧ rOp P ops w0 D Φ i (HeadR P md ops w0 D Φ n L f (done.setIfInBounds i true)) F a
theorem HeadR.any {D : Nat → List Nat} {Φ : Nat → Option Fact} (hΦ : ∀ i φ, Φ i = some φ → ∀ v, Stable (φ v)) {n g : Nat} {L : Array Bool → (Nat → World → Prop) → Act → Prop} {Q : Exit → Act → World → Prop}
    (hL : ∀ done F a w, Below w0.heap.size w0 w → (∀ j, F j w) → L done F a → wpAny P md ops Q g done a w) :
    ∀ (f : Nat) (done : Array Bool) (F : Nat → World → Prop) (a : Act) (w : World), (∀ j, Stable (F j)) → Below w0.heap.size w0 w → (∀ j, F j w) → HeadR P md ops w0 D Φ n L f done F a → wpAny P md ops Q (f + g) done a w := by
  intro f
  induction f with
  | zero => intro done F a w _ hw hF h; rw [Nat.zero_add]; exact hL done F a w hw hF h
  | succ f ih =>
    intro done F a w hS hw hF h
    rw [Nat.succ_add]
    refine ⟨fun e => absurd e h.1, fun i hi => ?_⟩
    have h2 := (h.2 i hi).2
    unfold rOp at h2
    unfold wpOp
    cases ho : ops[i]? with
    | none => simp only [ho] at h2; exact ih _ _ _ _ hS hw hF h2
    | some o =>
      simp only [ho] at h2
      unfold rOpAt at h2
      by_cases hwt : Region.wanted o (yielded ops a.tmps) = true
      · simp only [hwt, if_true] at h2 ⊢
        refine .inl ?_
        unfold Oper.wp
        cases hφ : Φ i with
        | none =>
          simp only [hφ] at h2
          obtain ⟨v, hv, hK⟩ := h2
          have h3 := hv w hw
          unfold rAt at h3
          generalize (execOp a.eval o).run P w = r at *
          cases r with
          | halt x w' => exact h3.elim
          | ok nx w' =>
            cases nx <;> simp only at h3 <;> simp only [Oper.upon]
            case value u => obtain ⟨rfl, rfl⟩ := h3; exact ih _ _ _ _ hS hw hF hK
            case skip => obtain ⟨rfl, rfl⟩ := h3; exact ih _ _ _ _ hS hw hF hK
            case enter f' args =>
              obtain ⟨rfl, hc⟩ := h3
              exact hc.mono fun e w'' ⟨he, hb⟩ => by subst he; exact ih _ _ _ _ hS (Below.both hw hb) (fun j => hS j _ _ (hF j) hb) hK
        | some φ =>
          simp only [hφ] at h2
          obtain ⟨hv, hK⟩ := h2
          have h3 := hv w hw (fun d _ => hF d)
          have hS2 : ∀ v j, Stable (upd2 F i (φ v) j) := fun v j => by
            unfold upd2
            split
            · exact fun w w' hw hb => ⟨hS j _ _ hw.1 hb, hΦ i φ hφ v _ _ hw.2 hb⟩
            · exact hS j
          have hF2 : ∀ v w', φ v w' → Below w.heap.size w w' → ∀ j, upd2 F i (φ v) j w' := fun v w' h1 h2 j => by
            unfold upd2
            split
            · exact ⟨hS j _ _ (hF j) h2, h1⟩
            · exact hS j _ _ (hF j) h2
          have hK2 : ∀ v w', φ v w' → Below w.heap.size w w' → HeadR P md ops w0 D Φ n L f (done.setIfInBounds i true) (upd2 F i (φ v)) (a.put o.dst v) := fun v w' h1 h2 =>
            hK v ⟨w', Below.both hw h2, fun j => hS j _ _ (hF j) h2, h1⟩
          unfold relAt at h3
          generalize (execOp a.eval o).run P w = r at *
          cases r with
          | halt x w' => exact h3.elim
          | ok nx w' =>
            cases nx <;> simp only at h3 <;> simp only [Oper.upon]
            case value u => exact ih _ _ _ _ (hS2 _) (Below.both hw h3.2) (hF2 _ _ h3.1 h3.2) (hK2 u _ h3.1 h3.2)
            case skip => exact ih _ _ _ _ (hS2 _) (Below.both hw h3.2) (hF2 _ _ h3.1 h3.2) (hK2 undef _ h3.1 h3.2)
            case enter f' args =>
              exact h3.mono fun e w'' ⟨v, he, hv', hb⟩ => by subst he; exact ih _ _ _ _ (hS2 _) (Below.both hw hb) (hF2 _ _ hv' hb) (hK2 v _ hv' hb)
            case row r args => exact h3.mono fun v w'' ⟨hv', hb⟩ => ih _ _ _ _ (hS2 _) (Below.both hw hb) (hF2 _ _ hv' hb) (hK2 v _ hv' hb)
      · simp only [hwt] at h2 ⊢
        exact ih _ _ _ _ hS hw hF h2
theorem HeadR.below {n i : Nat} {done : Array Bool} (hs : Region.sinkB md ops n = true) (hc : Region.chainB md ops n = true) (hn : n < ops.size) (inv : HeadInv md ops n done) (hin : i < n) (hun : done.getD i true = false) {j : Nat} (hj : j ∈ Region.ready md ops done) : j < n :=
  HeadQ.below hs hc hn inv hin hun hj
/-- an operation leans on those alone that it waits for -/
def Leans (md : Region.Mode) (ops : Array Oper) (D : Nat → List Nat) : Prop := ∀ j d, d ∈ D j → Region.waitsFor md ops j d = true
theorem Leans.not {D : Nat → List Nat} (hD : Leans md ops D) {i j : Nat} {oj : Oper} (hoj : ops[j]? = some oj) (hnot : ∀ e ∈ oj.after, Region.binds md e = true → e.on ≠ i) : i ∉ D j := fun h => by
  obtain ⟨o', ho', e, he, hb, hon⟩ := Region.waitsFor_spec (hD j i h)
  obtain rfl : o' = oj := Option.some.inj (ho'.symm.trans hoj)
  exact hnot e he hb hon
theorem Leans.notReady {D : Nat → List Nat} (hD : Leans md ops D) {i j : Nat} {done : Array Bool} (hr : i ∈ Region.ready md ops done) (hj : done.getD j true = false) : j ∉ D i := fun h => by
  obtain ⟨o', ho', e, he, hb, hon⟩ := Region.waitsFor_spec (hD i j h)
  obtain ⟨_, oi, hoi, hall⟩ := mem_ready.1 hr
  obtain rfl : o' = oi := Option.some.inj (ho'.symm.trans hoi)
  have := hall e he hb
  rw [hon, getD_both hj] at this
  cases this
/-- what may come up now may come up first -/
theorem HeadR.first {D : Nat → List Nat} {Φ : Nat → Option Fact} (hΦ : ∀ i φ, Φ i = some φ → ∀ v, Stable (φ v)) (hD : Leans md ops D) {n i : Nat} {oi : Oper} {L : Array Bool → (Nat → World → Prop) → Act → Prop} (hi : ops[i]? = some oi) (hsel : ∀ (j : Nat) (o : Oper) cs b, ops[j]? = some o → o.op ≠ .select cs b)
    (hs : Region.sinkB md ops n = true) (hc : Region.chainB md ops n = true) (hn : n < ops.size) (hin : i < n) (hend : ∀ done F a, L done F a → ∀ j ∈ Region.ready md ops done, n ≤ j) :
    ∀ (f : Nat) (done : Array Bool) (F : Nat → World → Prop) (a : Act) (b : Bool) (v0 : Value), HeadInv md ops n done →
      (∀ j oj, ops[j]? = some oj → j ≠ i → done.getD j true = false → (∀ e ∈ oj.after, Region.binds md e = true → e.on ≠ i) → oi.apart ops oj = true) →
      i ∈ Region.ready md ops done → Met w0 F → YR P ops w0 D Φ oi i a F b v0 → (∀ v, TR w0 Φ i b v0 F v → HeadR P md ops w0 D Φ n L f (done.setIfInBounds i true) (updB Φ i b v F) (a.put oi.dst v)) → HeadR P md ops w0 D Φ n L (f + 1) done F a := by
  intro f
  induction f with
  | zero =>
    intro done F a b v0 inv _ hr hF hy H
    have hun := (mem_ready.1 hr).1
    refine ⟨fun e => (by rw [e] at hr; cases hr), fun j hj => ⟨HeadR.below hs hc hn inv hin hun hj, ?_⟩⟩
    by_cases hji : j = i
    · subst hji
      unfold rOp
      simp only [hi]
      exact hy.rOpAt H
    · obtain ⟨v, hv⟩ := hy.ne hF
      have := hend _ _ _ (H v hv) j (ready_mono hj hji)
      have := HeadR.below hs hc hn inv hin hun hj
      omega
  | succ f ih =>
    intro done F a b v0 inv hfree hr hF hy H
    have hun := (mem_ready.1 hr).1
    refine ⟨fun e => (by rw [e] at hr; cases hr), fun j hj => ?_⟩
    have hjn := HeadR.below hs hc hn inv hin hun hj
    refine ⟨hjn, ?_⟩
    by_cases hji : j = i
    · subst hji
      unfold rOp
      simp only [hi]
      exact hy.rOpAt H
    · obtain ⟨hjun, oj, hoj, hall⟩ := mem_ready.1 hj
      have hnot : ∀ e ∈ oj.after, Region.binds md e = true → e.on ≠ i := fun e he hb heq => by
        have h1 := hall e he hb
        rw [heq, getD_both hun] at h1
        cases h1
      unfold rOp
      simp only [hoj]
      have h2 := rOp_put (Ne.symm hji) (hD.not hoj hnot) (hD.notReady hr hjun) (hfree j oj hoj hji hjun hnot) (fun cs b => hsel i oi cs b hi) (fun cs b => hsel j oj cs b hoj) hF hy (fun v hv => by
        have := ((H v hv).2 j (ready_mono hj hji)).2
        unfold rOp at this
        simpa only [hoj] using this)
      refine rOpAt_mono (fun F' a' h3 => ?_) h2
      obtain ⟨⟨c, u0, u, hu, rfl⟩, h4, h5⟩ := h3
      refine ih (done.setIfInBounds j true) _ a' b v0 (inv.set hj hjn) (fun k ok hk hki hku hno => hfree k ok hk hki ?_ hno) (ready_mono hr (Ne.symm hji)) (hF.next hΦ hu) h4 (fun v hv => ?_)
      · by_cases hjk : j = k
        · subst hjk; exact hjun
        · rw [getD_set_ne true hjk] at hku; exact hku
      · rw [Array.setIfInBounds_comm _ _ hji]
        exact h5 v hv
/-- the walk in the text's order -/
def lexR (P : Program) (ops : Array Oper) (w0 : World) (D : Nat → List Nat) (Φ : Nat → Option Fact) (Lq : (Nat → World → Prop) → Act → Prop) : List Oper → Nat → (Nat → World → Prop) → Act → Prop
  | [], _, F, a => Lq F a
  | o :: l, k, F, a => rOpAt P ops w0 D Φ o k (lexR P ops w0 D Φ Lq l (k + 1)) F a
theorem HeadR.lex {D : Nat → List Nat} {Φ : Nat → Option Fact} (hΦ : ∀ i φ, Φ i = some φ → ∀ v, Stable (φ v)) (hD : Leans md ops D) {n g : Nat} {Lq : (Nat → World → Prop) → Act → Prop} (hsel : Region.noSelect ops = true) (hs : Region.sinkB md ops n = true) (hc : Region.chainB md ops n = true) (hn : n < ops.size) :
    ∀ (l : List Oper) (k : Nat) (done : Array Bool) (F : Nat → World → Prop) (a : Act), (∀ j, j < l.length → l[j]? = ops[k + j]?) → k + l.length = n → HeadInv md ops n done → Met w0 F →
    Region.lexHead md ops g l.length k done = true → lexR P ops w0 D Φ Lq l k F a → HeadR P md ops w0 D Φ n (fun d F' a' => Region.seqB md ops g n d = true ∧ Lq F' a') l.length done F a := by
  intro l
  induction l with
  | nil =>
    intro k done F a _ hk _ _ hB h
    obtain rfl : k = n := by simpa using hk
    exact ⟨by simpa [Region.lexHead] using hB, h⟩
  | cons o l ih =>
    intro k done F a hl hk inv hF hB h
    have h0 : ops[k]? = some o := by simpa using (hl 0 (by simp)).symm
    simp only [List.length_cons, Region.lexHead, Bool.and_eq_true] at hB
    have hkn : k < n := by simp only [List.length_cons] at hk; omega
    have hr : k ∈ Region.ready md ops done := by simpa using hB.1.1
    obtain ⟨b, v0, hy, hK⟩ := YR.of h
    refine HeadR.first hΦ hD h0 (Region.noSelect_spec hsel) hs hc hn hkn (fun d F' a' hL => seqB_ready hL.1) l.length done F a b v0 inv (Region.free_spec h0 hB.1.2) hr hF hy (fun v hv => ?_)
    refine ih (k + 1) _ _ _ (fun j hj => ?_) (by simp only [List.length_cons] at hk; omega) (inv.set hr hkn) (hF.next hΦ hv) hB.2 (hK v hv)
    have := hl (j + 1) (by simp; omega)
    simpa [Nat.add_assoc, Nat.add_comm 1 j] using this
/-- a class of worlds that all stand over w0, closed under growth -/
structure Cls (w0 : World) where
  C : World → Prop
  sub : ∀ w, C w → Below w0.heap.size w0 w
  up : ∀ w w', C w → Below w.heap.size w w' → C w'
  ne : ∃ w, C w
def Cls.El (c : Cls w0) : Type := { w : World // c.C w }
def Cls.El.at {c : Cls w0} (e : c.El) : World := e.val
def Cls.In (c : Cls w0) : World → Prop := fun w' => ∃ e : c.El, w' = e.at
theorem Cls.El.below {c : Cls w0} (e : c.El) : Below w0.heap.size w0 e.at := c.sub _ e.property
instance (c : Cls w0) : Nonempty c.El := let ⟨w, h⟩ := c.ne; ⟨⟨w, h⟩⟩
theorem cls_call {c : Cls w0} {f : FuncId} {args : Array Value} {e : c.El} {v : Value} (h : Calls P f args e.at fun x w' => x = .returned v ∧ Below e.at.heap.size e.at w') :
    Calls P f args e.at fun x w'' => x = .returned v ∧ ∃ e2 : c.El, w'' = e2.at :=
  h.mono fun _ _ ⟨hx, hb⟩ => ⟨hx, ⟨⟨_, c.up _ _ e.property hb⟩, rfl⟩⟩
theorem cls_same {c : Cls w0} {f : FuncId} {args : Array Value} {e : c.El} {v : Value} (h : Calls P f args e.at fun x w' => x = .returned v ∧ w' = e.at) :
    Calls P f args e.at fun x w'' => x = .returned v ∧ ∃ e2 : c.El, w'' = e2.at :=
  h.mono fun _ _ ⟨hx, hb⟩ => ⟨hx, ⟨e, hb⟩⟩
theorem cls_cell {c : Cls w0} {p : Addr} {v : Value} (h : w0.cell? p = some v) (e : c.El) : e.at.cell? p = some v := by
  have hlt : p.block < w0.heap.size := by
    rcases Nat.lt_or_ge p.block w0.heap.size with h' | h'
    · exact h'
    · simp [World.cell?, Array.getElem?_eq_none h'] at h
  exact (e.below.cell hlt).trans h
/-- the class above one world -/
def upOf (w : World) (h : Below w0.heap.size w0 w) : Cls w0 := ⟨fun w' => Below w.heap.size w w', fun _ h' => Below.both h h', fun _ _ h1 h2 => h1.trans (h2.mono h1.size), ⟨w, Below.refl _ _⟩⟩
theorem rAt_of {o : Oper} {a : Act} {w : World} {v : Value} (hw : Below w0.heap.size w0 w) (h : o.quietAt P a (upOf w hw).In w v) : rAt P o a w v := by
  unfold Oper.quietAt Oper.quietUpon at h
  unfold rAt
  generalize (execOp a.eval o).run P w = r at *
  cases r with
  | halt x w' => exact h
  | ok nx w' =>
    cases nx <;> simp only at h ⊢
    case value u => exact h
    case skip => exact h
    case enter f args =>
      refine ⟨h.1, h.2.mono fun e w'' ⟨h1, e2, h2⟩ => ⟨h1, ?_⟩⟩
      rw [h2]
      exact e2.property
theorem rAt_weak {C C' : World → Prop} {o : Oper} {a : Act} {w : World} {v u : Value} (h : o.quietAt P a C w v) (h' : o.quietAt P a C' w u) : v = u := by
  unfold Oper.quietAt Oper.quietUpon at h h'
  generalize (execOp a.eval o).run P w = r at *
  cases r with
  | halt x w' => exact h.elim
  | ok nx w' =>
    cases nx <;> simp only at h h'
    case value u => rw [← h.2, ← h'.2]
    case skip => rw [h.2, h'.2]
    case enter f args => exact Calls.one h.2 h'.2
theorem lexR_seg {D : Nat → List Nat} {Φ : Nat → Option Fact} {Lq : (Nat → World → Prop) → Act → Prop} {X : Act → Prop} {l : List Oper} : ∀ (seg : List Oper) (k : Nat) (F : Nat → World → Prop) (a : Act), (∀ i, k ≤ i → i < k + seg.length → Φ i = none) →
    (∀ c : Cls w0, wpQuiet P ops c.In X seg a) → (∀ a', X a' → lexR P ops w0 D Φ Lq l (k + seg.length) F a') → lexR P ops w0 D Φ Lq (seg ++ l) k F a
  | [], k, F, a, _, h, hX => hX a (h (upOf w0 (Below.refl _ _)))
  | o :: seg, k, F, a, hΦ, h, hX => by
    have hk := hΦ k (Nat.le_refl _) (by simp)
    show rOpAt P ops w0 D Φ o k (lexR P ops w0 D Φ Lq (seg ++ l) (k + 1)) F a
    unfold rOpAt
    have rest : ∀ a', (∀ c : Cls w0, wpQuiet P ops c.In X seg a') → lexR P ops w0 D Φ Lq (seg ++ l) (k + 1) F a' := fun a' h' =>
      lexR_seg seg (k + 1) F a' (fun i h1 h2 => hΦ i (by omega) (by simp; omega)) h' (fun a'' hx => by
        have := hX a'' hx
        rwa [List.length_cons, show k + (seg.length + 1) = k + 1 + seg.length by omega] at this)
    by_cases hw : Region.wanted o (yielded ops a.tmps) = true
    · rw [if_pos hw]
      simp only [hk]
      have h' : ∀ c : Cls w0, o.quiet P a c.In (wpQuiet P ops c.In X seg) := fun c => by
        have := h c
        unfold wpQuiet at this
        rwa [if_pos hw] at this
      obtain ⟨v, hv, -⟩ := h' (upOf w0 (Below.refl _ _))
      have hone : ∀ c : Cls w0, ∀ u, (∀ w, c.In w → o.quietAt P a c.In w u) → u = v := fun c u hu => by
        obtain ⟨w, hcw⟩ := c.ne
        exact rAt_weak (hu w ⟨⟨w, hcw⟩, rfl⟩) (hv w ⟨⟨w, c.sub w hcw⟩, rfl⟩)
      refine ⟨v, fun w hw0 => ?_, rest _ fun c => ?_⟩
      · obtain ⟨u, hu, -⟩ := h' (upOf w hw0)
        obtain rfl := hone _ u hu
        exact rAt_of hw0 (hu w ⟨⟨w, Below.refl _ _⟩, rfl⟩)
      · obtain ⟨u, hu, hr⟩ := h' c
        obtain rfl := hone _ u hu
        exact hr
    · rw [if_neg hw]
      refine rest _ fun c => ?_
      have := h c
      unfold wpQuiet at this
      rwa [if_neg hw] at this
/-- an operation without its guard -/
def bareOp (o : Oper) : Oper := ⟨o.dst, o.op, o.type, o.pos, o.after, none⟩
/-- what is asked at the end of one operation whose value hangs on the order -/
def RelQ (d : Nat) (φ : Fact) (ds : List Deferred) (w : World) : Exit → Act → World → Prop
  | .normal, a', w' => φ (a'.tmps.getD d undef) w' ∧ a'.defers = ds ∧ Below w.heap.size w w'
  | _, _, _ => False
theorem relAt_of {o : Oper} {a : Act} {w : World} {φ : Fact} {d : Nat} (hd : o.dst = some d) (hlt : d < a.tmps.size) (h : wpList P ops (RelQ d φ a.defers w) [bareOp o] a w) : relAt P o a φ w := by
  have put : ∀ u, (a.put o.dst u).tmps.getD d undef = u := fun u => by rw [hd]; simp [Act.put, hlt]
  unfold wpList at h
  rw [if_pos (by rfl)] at h
  rcases h with h | ⟨-, h⟩
  · unfold Oper.wp at h
    have h : Oper.upon P o a (RelQ d φ a.defers w .normal) (RelQ d φ a.defers w) ((execOp a.eval o).run P w) := h
    unfold relAt
    generalize (execOp a.eval o).run P w = r at *
    cases r with
    | halt x w' => cases x <;> exact h.elim
    | ok nx w' =>
      cases nx <;> simp only [Oper.upon] at h ⊢
      case value u => simp only [RelQ, put] at h; exact ⟨h.1, h.2.2⟩
      case skip => simp only [RelQ, put] at h; exact ⟨h.1, h.2.2⟩
      case enter f args =>
        refine h.mono fun e w'' he => ?_
        cases e with
        | returned v => simp only [RelQ, put] at he; exact ⟨v, rfl, he.1, he.2.2⟩
        | panicked ch => exact he.elim
        | outgrown => obtain ⟨_, _, hf⟩ := he; exact hf.elim
      case defer d' =>
        simp only [RelQ] at h
        have := h.2.1
        rw [hd] at this
        simp [Act.put] at this
      case row r args => exact h.mono fun v w'' he => by simp only [RelQ, put] at he; exact ⟨he.1, he.2.2⟩
      all_goals exact h.elim
  · obtain ⟨_, _, hf⟩ := h; exact hf.elim
/-- a plan: a piece that is quiet, then an operation that is not, what it leans on, and its fact; and so on -/
abbrev Plan := List (List Oper × Oper × List Nat × Fact)
def planFacts : Plan → Nat → Nat → Option Fact
  | [], _, _ => none
  | (seg, _, _, φ) :: more, k, i => if i = k + seg.length then some φ else planFacts more (k + seg.length + 1) i
def planLeans : Plan → Nat → Nat → List Nat
  | [], _, _ => []
  | (seg, _, D, _) :: more, k, i => if i = k + seg.length then D else planLeans more (k + seg.length + 1) i
theorem planFacts_none : ∀ (plan : Plan) (k i : Nat), i < k → planFacts plan k i = none
  | [], _, _, _ => rfl
  | (seg, o, D, φ) :: more, k, i, h => by
    rw [planFacts, if_neg (by omega)]
    exact planFacts_none more _ _ (by omega)
def planOps : Plan → List Oper → List Oper
  | [], last => last
  | (seg, o, _, _) :: more, last => seg ++ o :: planOps more last
/-- the walk by a plan; the facts so far, by the operations' numbers -/
def wpPlan (P : Program) (ops : Array Oper) (w0 : World) (Lq : List (Nat × (World → Prop)) → Act → Prop) : Plan → List Oper → Nat → List (Nat × (World → Prop)) → Act → Prop
  | [], last, _, G, a => ∀ c : Cls w0, wpQuiet P ops (fun w' => ∃ e : c.El, w' = e.at) (Lq G) last a
  | (seg, o, D, φ) :: more, last, k, G, a => ∀ c : Cls w0, wpQuiet P ops (fun w' => ∃ e : c.El, w' = e.at) (fun a1 => Region.wanted o (yielded ops a1.tmps) = true ∧ o.dst.getD 0 < a1.tmps.size ∧
      (∀ w, Below w0.heap.size w0 w → (∀ p ∈ G, p.1 ∈ D → p.2 w) → wpList P ops (RelQ (o.dst.getD 0) φ a1.defers w) [bareOp o] a1 w) ∧
      ∀ v, (∃ w, φ v w) → wpPlan P ops w0 Lq more last (k + seg.length + 1) ((k + seg.length, φ v) :: G) (a1.put o.dst v)) seg a
theorem lexR_plan {D : Nat → List Nat} {Φ : Nat → Option Fact} {Lq : List (Nat × (World → Prop)) → Act → Prop} : ∀ (plan : Plan) (last : List Oper) (k : Nat) (F : Nat → World → Prop) (G : List (Nat × (World → Prop))) (a : Act),
    (∀ i, k ≤ i → i < k + (planOps plan last).length → Φ i = planFacts plan k i) → (∀ i, k ≤ i → i < k + (planOps plan last).length → D i = planLeans plan k i) → (∀ x ∈ plan, x.2.1.dst.isSome = true) → (∀ p ∈ G, ∀ w, F p.1 w → p.2 w) →
    wpPlan P ops w0 Lq plan last k G a → lexR P ops w0 D Φ (fun F a' => ∃ G' : List (Nat × (World → Prop)), (∀ p ∈ G', ∀ w, F p.1 w → p.2 w) ∧ Lq G' a') (planOps plan last) k F a
  | [], last, k, F, G, a, hΦ, _, _, hG, h => by
    have := lexR_seg (D := D) (Φ := Φ) (Lq := fun F a' => ∃ G' : List (Nat × (World → Prop)), (∀ p ∈ G', ∀ w, F p.1 w → p.2 w) ∧ Lq G' a') (l := []) last k F a (fun i h1 h2 => hΦ i h1 h2) h (fun a' hx => ⟨G, hG, hx⟩)
    simpa [planOps] using this
  | (seg, o, D0, φ) :: more, last, k, F, G, a, hΦ, hD, hx, hG, h => by
    have hlen : (planOps ((seg, o, D0, φ) :: more) last).length = seg.length + (planOps more last).length + 1 := by simp [planOps]; omega
    refine lexR_seg seg k F a (fun i h1 h2 => ?_) h (fun a1 ⟨hwt, hlt, h1, h2⟩ => ?_)
    · rw [hΦ i h1 (by omega), planFacts, if_neg (by omega)]
      exact planFacts_none _ _ _ (by omega)
    · have hk : Φ (k + seg.length) = some φ := by rw [hΦ _ (by omega) (by omega), planFacts, if_pos rfl]
      have hDk : D (k + seg.length) = D0 := by rw [hD _ (by omega) (by omega), planLeans, if_pos rfl]
      obtain ⟨d, hd0⟩ := Option.isSome_iff_exists.1 (hx _ (List.mem_cons_self ..))
      have hd : o.dst = some d := hd0
      simp only [hd, Option.getD_some] at h1 hlt
      show rOpAt P ops w0 D Φ o (k + seg.length) _ F a1
      unfold rOpAt
      rw [if_pos hwt]
      simp only [hk]
      refine ⟨fun w hw hfs => relAt_of hd hlt (h1 w hw (fun p hp hpD => hG p hp w (hfs p.1 (by rw [hDk]; exact hpD)))), fun v hv => ?_⟩
      refine lexR_plan more last (k + seg.length + 1) (upd2 F (k + seg.length) (φ v)) ((k + seg.length, φ v) :: G) (a1.put o.dst v) (fun i h3 h4 => ?_) (fun i h3 h4 => ?_) (fun x hx' => hx x (List.mem_cons_of_mem _ hx')) (fun p hp w hw => ?_) (h2 v ⟨_, hv.choose_spec.2.2⟩)
      · rw [hΦ i (by omega) (by omega), planFacts, if_neg (by omega)]
      · rw [hD i (by omega) (by omega), planLeans, if_neg (by omega)]
      · unfold upd2 at hw
        rcases List.mem_cons.1 hp with rfl | hp
        · simp only [if_true] at hw
          exact hw.2
        · split at hw
          · exact hG p hp w hw.1
          · exact hG p hp w hw
def planLeansOk (md : Region.Mode) (ops : Array Oper) : Plan → Nat → Bool
  | [], _ => true
  | (seg, _, D, _) :: more, k => D.all (fun d => Region.waitsFor md ops (k + seg.length) d) && planLeansOk md ops more (k + seg.length + 1)
theorem planLeansOk_spec : ∀ (plan : Plan) (k : Nat), planLeansOk md ops plan k = true → Leans md ops (planLeans plan k)
  | [], k, _, j, d, h => by cases h
  | (seg, o, D, φ) :: more, k, hB, j, d, h => by
    simp only [planLeansOk, Bool.and_eq_true] at hB
    unfold planLeans at h
    split at h
    · rename_i e
      subst e
      exact List.all_eq_true.1 hB.1 d h
    · exact planLeansOk_spec more _ hB.2 j d h
/-- A REGION BY A PLAN: pieces that are quiet, between them operations whose values hang on the order, each met by a fact; then a chain. -/
theorem wp_region_plan {id : Nat} {Q : Exit → Act → World → Prop} {a : Act} {w : World} {l : List Oper} (plan : Plan) (last : List Oper) (n : Nat) (hm : P.follows .mixedOrders = true) (hB : Region.lexTailB .any l.toArray n = true)
    (hl : l.take n = planOps plan last) (hx : ∀ x ∈ plan, x.2.1.dst.isSome = true) (hD : planLeansOk .any l.toArray plan 0 = true) (hS : ∀ x ∈ plan, ∀ v, Stable (x.2.2.2 v))
    (h : wpPlan P l.toArray w (fun G a' => ∀ w', Below w.heap.size w w' → (∀ p ∈ G, p.2 w') → wpList P l.toArray Q (l.drop n) a' w') plan last 0 [] a) : (Code.region id l.toArray true).wp P Q a w := by
  simp only [Region.lexTailB, Bool.and_eq_true, decide_eq_true_eq] at hB
  obtain ⟨⟨⟨⟨hsel, hn⟩, hs⟩, hc⟩, hlex⟩ := hB
  have hn' : n < l.length := by simpa using hn
  have htl : (l.take n).length = n := by simp; omega
  have hdl : (l.drop n).length = l.toArray.size - n := by simp
  have inv0 : HeadInv .any l.toArray n (Array.replicate l.toArray.size false) :=
    ⟨by simp, fun j oj _ hl => (by rw [getD_replicate_false] at hl; cases hl), fun t _ ht => getD_in (by simpa using ht) (getD_replicate_false _ _)⟩
  have hΦ : ∀ i φ, planFacts plan 0 i = some φ → ∀ v, Stable (φ v) := by
    have : ∀ (plan : Plan) (k i : Nat) (φ : Fact), (∀ x ∈ plan, ∀ v, Stable (x.2.2.2 v)) → planFacts plan k i = some φ → ∀ v, Stable (φ v) := by
      intro plan
      induction plan with
      | nil => intro k i φ _ h; cases h
      | cons x more ih =>
        obtain ⟨seg, o, D, ψ⟩ := x
        intro k i φ hS h
        rw [planFacts] at h
        split at h
        · injection h with h; subst h; exact hS _ (List.mem_cons_self ..)
        · exact ih _ _ _ (fun x hx => hS x (List.mem_cons_of_mem _ hx)) h
    exact fun i φ h => this plan 0 i φ hS h
  have h1 := lexR_plan (D := planLeans plan 0) (Φ := planFacts plan 0) plan last 0 (fun _ _ => True) [] a (fun _ _ _ => rfl) (fun _ _ _ => rfl) hx (fun p hp => by cases hp) h
  rw [← hl] at h1
  have hM : Met w (fun _ _ => True) := ⟨⟨w, Below.refl _ _, fun _ => trivial⟩, fun _ _ _ _ _ => trivial⟩
  have H := HeadR.lex (md := .any) hΦ (planLeansOk_spec plan 0 hD) (g := l.toArray.size - n) hsel hs hc hn (l.take n) 0 _ _ a (fun j hj => by
    have hj' : j < n := by rw [htl] at hj; exact hj
    simp [hj']) (by simpa using htl) inv0 hM (by rw [htl]; exact hlex) h1
  refine wp_region_any hm ?_
  have := HeadR.any (Q := Q) hΦ (g := l.toArray.size - n) (fun d F a' w' hw' hF hL => by
    obtain ⟨hB1, G', hG', hq⟩ := hL
    have := wpAny_of_seq (md := .any) (Q' := Q) (l.drop n) n d a' w' (fun j => by simp [List.getElem?_drop]) (by rw [hdl]; exact hB1) (hq w' hw' (fun p hp => hG' p hp w' (hF p.1)))
    rwa [hdl] at this) _ _ _ _ w.drew (fun _ _ _ _ _ => trivial) (Below.refl _ w).drew (fun _ => trivial) H
  rw [htl, show n + (l.toArray.size - n) = l.toArray.size by omega] at this
  exact this
/-- a plan by numbers: how many operations stand before the next that is not quiet -/
def planOf : List (Nat × List Nat × Fact) → List Oper → Plan × List Oper
  | [], l => ([], l)
  | (k, D, φ) :: more, l =>
    match l.drop k with
    | [] => ([], l)
    | o :: r => ((l.take k, o, D, φ) :: (planOf more r).1, (planOf more r).2)
theorem planOf_ops : ∀ (idx : List (Nat × List Nat × Fact)) (l : List Oper), planOps (planOf idx l).1 (planOf idx l).2 = l
  | [], l => rfl
  | (k, D, φ) :: more, l => by
    unfold planOf
    split
    · rfl
    · rename_i o r h
      show l.take k ++ o :: planOps (planOf more r).1 (planOf more r).2 = l
      rw [planOf_ops more r, ← h, List.take_append_drop]
theorem planOf_facts {Z : Fact → Prop} : ∀ (idx : List (Nat × List Nat × Fact)) (l : List Oper), (∀ p ∈ idx, Z p.2.2) → ∀ x ∈ (planOf idx l).1, Z x.2.2.2
  | [], l, _, x, hx => by cases hx
  | (k, D, φ) :: more, l, h, x, hx => by
    unfold planOf at hx
    split at hx
    · cases hx
    · rcases List.mem_cons.1 hx with rfl | hx
      · exact h _ (List.mem_cons_self ..)
      · exact planOf_facts more _ (fun p hp => h p (List.mem_cons_of_mem _ hp)) x hx
def planOk (md : Region.Mode) (ops : Array Oper) (p : Plan) : Bool := (p.all fun x => x.2.1.dst.isSome) && planLeansOk md ops p 0
/-- A REGION BY A PLAN IN NUMBERS. idx: how many quiet operations, then one that is not: the numbers of the operations whose facts it leans on, and its own fact. n: how many operations stand before the chain. -/
theorem wp_region_facts {id : Nat} {Q : Exit → Act → World → Prop} {a : Act} {w : World} {l : List Oper} (n : Nat) (idx : List (Nat × List Nat × Fact)) (hm : P.follows .mixedOrders = true) (hB : Region.lexTailB .any l.toArray n = true)
    (hx : planOk .any l.toArray (planOf idx (l.take n)).1 = true) (hS : ∀ p ∈ idx, ∀ v, Stable (p.2.2 v))
    (h : wpPlan P l.toArray w (fun G a' => ∀ w', Below w.heap.size w w' → (∀ p ∈ G, p.2 w') → wpList P l.toArray Q (l.drop n) a' w') (planOf idx (l.take n)).1 (planOf idx (l.take n)).2 0 [] a) : (Code.region id l.toArray true).wp P Q a w := by
  simp only [planOk, Bool.and_eq_true] at hx
  exact wp_region_plan _ _ n hm hB (planOf_ops _ _).symm (fun x hx' => by simpa using List.all_eq_true.1 hx.1 x hx') hx.2 (fun x hx' v => planOf_facts (Z := fun φ => ∀ v, Stable (φ v)) idx _ hS x hx' v) h
end
end Go.Proofs.Ytijhdfllffkfjaa
