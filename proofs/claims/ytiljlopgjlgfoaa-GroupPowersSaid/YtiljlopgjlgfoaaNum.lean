/- Numbers: primes by Lucas' test, Fermat's law for them. Plain: no step of the program here. -/
namespace Go.Proofs.Ytiljlopgjlgfoaa.Num

def Pr (p : Nat) : Prop := 2 ≤ p ∧ ∀ d, d ∣ p → d = 1 ∨ d = p

/-- powers, fast, each half once -/
def qpow (a m : Nat) : Nat → Nat → Nat → Nat
  | 0, _, acc => acc
  | f + 1, n, acc => qpow a m f n (if n / 2 ^ f % 2 = 1 then acc * acc % m * a % m else acc * acc % m)
theorem qpow_eq (a m : Nat) : ∀ (f n acc e : Nat), acc = a ^ e % m → qpow a m f n acc = a ^ (e * 2 ^ f + n % 2 ^ f) % m
  | 0, n, acc, e, h => by
    rw [qpow, h]
    simp [Nat.mod_one]
  | f + 1, n, acc, e, h => by
    rw [qpow]
    have hbit : n % 2 ^ (f + 1) = 2 ^ f * (n / 2 ^ f % 2) + n % 2 ^ f := by
      rw [Nat.pow_succ, Nat.mod_mul]
      omega
    have hsq : acc * acc % m = a ^ (2 * e) % m := by rw [h, ← Nat.mul_mod, ← Nat.pow_add, Nat.two_mul]
    by_cases hb : n / 2 ^ f % 2 = 1
    · rw [if_pos hb, qpow_eq a m f n _ (2 * e + 1) (by rw [hsq, Nat.mod_mul_mod, ← Nat.pow_succ]), hbit, hb]
      congr 2
      have h3 : (2 * e + 1) * 2 ^ f = e * (2 ^ f * 2) + 2 ^ f := by rw [Nat.add_mul, Nat.one_mul, Nat.mul_comm 2 e, Nat.mul_assoc, Nat.mul_comm 2]
      rw [h3, Nat.pow_succ]
      omega
    · rw [if_neg hb, qpow_eq a m f n _ (2 * e) hsq, hbit, show n / 2 ^ f % 2 = 0 by omega]
      congr 2
      rw [Nat.pow_succ]
      have : 2 * e * 2 ^ f = e * (2 ^ f * 2) := by rw [Nat.mul_comm 2 e, Nat.mul_assoc, Nat.mul_comm 2]
      omega
theorem pow_of {a m n r : Nat} (f : Nat) (hn : n < 2 ^ f) (h : qpow a m f n (1 % m) = r) : a ^ n % m = r := by
  rw [← h, qpow_eq a m f n (1 % m) 0 (by rw [Nat.pow_zero]), Nat.zero_mul, Nat.zero_add, Nat.mod_eq_of_lt hn]

theorem exists_prime_dvd : ∀ (fs : List Nat) (e : Nat), (∀ f ∈ fs, Pr f) → 1 < e → e ∣ fs.prod → ∃ f ∈ fs, f ∣ e
  | [], e, _, h1, hd => by
    have := Nat.le_of_dvd (by decide) hd
    simp at this
    omega
  | f :: r, e, hp, h1, hd => by
    rw [List.prod_cons] at hd
    rcases (hp f (List.mem_cons_self)).2 (Nat.gcd e f) (Nat.gcd_dvd_right e f) with h | h
    · obtain ⟨q, hq, hqe⟩ := exists_prime_dvd r e (fun g hg => hp g (List.mem_cons_of_mem _ hg)) h1 (Nat.Coprime.dvd_of_dvd_mul_left h hd)
      exact ⟨q, List.mem_cons_of_mem _ hq, hqe⟩
    · exact ⟨f, List.mem_cons_self, by rw [← h]; exact Nat.gcd_dvd_left e f⟩

theorem one_pow_mod {g n d k : Nat} (hn : 2 ≤ n) (h : g ^ d % n = 1) : g ^ (d * k) % n = 1 := by
  rw [Nat.pow_mul, Nat.pow_mod, h, Nat.one_pow]
  exact Nat.mod_eq_of_lt (by omega)
/-- the order of g: where no smaller power is 1 -/
theorem order_of {g n : Nat} (hn : 2 ≤ n) (fs : List Nat) (hfs : ∀ f ∈ fs, Pr f) (hprod : fs.prod = n - 1) (h1 : g ^ (n - 1) % n = 1) (hq : ∀ f ∈ fs, g ^ ((n - 1) / f) % n ≠ 1) (d : Nat) (hd0 : 0 < d) (hd : g ^ d % n = 1) : n - 1 ≤ d := by
  -- the least exponent
  obtain ⟨m, hm0, hm1, hmin⟩ : ∃ m, 0 < m ∧ g ^ m % n = 1 ∧ ∀ k, 0 < k → g ^ k % n = 1 → m ≤ k := by
    have key : ∀ b, ∀ e, e ≤ b → 0 < e → g ^ e % n = 1 → ∃ m, 0 < m ∧ g ^ m % n = 1 ∧ ∀ k, 0 < k → g ^ k % n = 1 → m ≤ k := by
      intro b
      induction b with
      | zero => intro e h0 h1; omega
      | succ b ih =>
        intro e he h0 hx
        by_cases hs : ∃ k, 0 < k ∧ k < e ∧ g ^ k % n = 1
        · obtain ⟨k, k0, k1, k2⟩ := hs
          exact ih k (by omega) k0 k2
        · refine ⟨e, h0, hx, fun k k0 k2 => ?_⟩
          by_cases hlt : k < e
          · exact absurd ⟨k, k0, hlt, k2⟩ hs
          · omega
    exact key d d (Nat.le_refl _) hd0 hd
  have hdiv : m ∣ n - 1 := by
    have hdm := Nat.div_add_mod (n - 1) m
    have hr : g ^ ((n - 1) % m) % n = 1 := by
      have h2 : g ^ (m * ((n - 1) / m) + (n - 1) % m) % n = 1 := by rw [hdm]; exact h1
      rw [Nat.pow_add, Nat.mul_mod, one_pow_mod hn hm1, Nat.one_mul, Nat.mod_mod] at h2
      exact h2
    by_cases hz : (n - 1) % m = 0
    · exact Nat.dvd_of_mod_eq_zero hz
    · have := hmin _ (by omega) hr
      have := Nat.mod_lt (n - 1) hm0
      omega
  refine Nat.le_trans ?_ (hmin d hd0 hd)
  obtain ⟨e, he⟩ := hdiv
  by_cases he1 : e ≤ 1
  · have : e = 1 := by
      rcases Nat.le_one_iff_eq_zero_or_eq_one.1 he1 with rfl | rfl
      · omega
      · rfl
    rw [he, this]; omega
  · exfalso
    obtain ⟨f, hf, hfe⟩ := exists_prime_dvd fs e hfs (by omega) (by rw [hprod, he]; exact Nat.dvd_mul_left _ _)
    obtain ⟨c, rfl⟩ := hfe
    have hf0 : 0 < f := by have := (hfs f hf).1; omega
    refine hq f hf ?_
    rw [he, ← Nat.mul_assoc, Nat.mul_right_comm, Nat.mul_div_cancel _ hf0]
    exact one_pow_mod hn hm1

theorem nodup_le : ∀ (l k : List Nat), l.Nodup → (∀ x ∈ l, x ∈ k) → l.length ≤ k.length
  | [], _, _, _ => by simp
  | x :: r, k, hn, hs => by
    have hx : x ∈ k := hs x List.mem_cons_self
    have hn2 := List.nodup_cons.1 hn
    have h := nodup_le r (k.erase x) hn2.2 (fun y hy => by
      have hne : y ≠ x := fun e => hn2.1 (e ▸ hy)
      exact (List.mem_erase_of_ne hne).2 (hs y (List.mem_cons_of_mem _ hy)))
    rw [List.length_erase_of_mem hx] at h
    have : 0 < k.length := List.length_pos_of_mem hx
    simp only [List.length_cons]
    omega
/-- as many different values as places: all are met -/
theorem onto (N : Nat) (f : Nat → Nat) (hr : ∀ i, i < N → 1 ≤ f i ∧ f i ≤ N) (hi : ∀ i j, i < j → j < N → f i ≠ f j) (x : Nat) (h1 : 1 ≤ x) (h2 : x ≤ N) : ∃ i, i < N ∧ f i = x := by
  by_cases h : ∃ i, i < N ∧ f i = x
  · exact h
  · exfalso
    have hnd : ((List.range N).map f).Nodup := by
      unfold List.Nodup
      rw [List.pairwise_map]
      refine (List.pairwise_lt_range (n := N)).imp_of_mem ?_
      intro a b ha hb hlt
      exact hi a b hlt (List.mem_range.1 hb)
    have hle := nodup_le ((List.range N).map f) ((List.range' 1 N).erase x) hnd (by
      intro y hy
      obtain ⟨i, hi, rfl⟩ := List.mem_map.1 hy
      have hiN := List.mem_range.1 hi
      have hne : f i ≠ x := fun e => h ⟨i, hiN, e⟩
      refine (List.mem_erase_of_ne hne).2 ?_
      have := hr i hiN
      rw [List.mem_range'_1]
      omega)
    rw [List.length_erase_of_mem (by rw [List.mem_range'_1]; omega)] at hle
    simp at hle
    omega

/-- Lucas: a number with an element of full order: each residue but 0 is a power of it -/
theorem lucas_onto {g n : Nat} (hn : 2 ≤ n) (fs : List Nat) (hfs : ∀ f ∈ fs, Pr f) (hprod : fs.prod = n - 1) (h1 : g ^ (n - 1) % n = 1) (hq : ∀ f ∈ fs, g ^ ((n - 1) / f) % n ≠ 1) (x : Nat) (hx : 1 ≤ x) (hx2 : x < n) : ∃ k, k < n - 1 ∧ g ^ k % n = x := by
  refine onto (n - 1) (fun k => g ^ k % n) ?_ ?_ x hx (by omega)
  · intro i hi
    have hlt := Nat.mod_lt (g ^ i) (show n > 0 by omega)
    refine ⟨?_, by show g ^ i % n ≤ n - 1; omega⟩
    show 1 ≤ g ^ i % n
    by_cases hz : g ^ i % n = 0
    · exfalso
      have h2 : g ^ (i + (n - 1 - i)) % n = 1 := by rw [show i + (n - 1 - i) = n - 1 by omega]; exact h1
      rw [Nat.pow_add, Nat.mul_mod, hz, Nat.zero_mul, Nat.zero_mod] at h2
      omega
    · omega
  · intro i j hij hj e
    have e : g ^ i % n = g ^ j % n := e
    have h2 : g ^ (i + (n - 1 - i)) % n = 1 := by rw [show i + (n - 1 - i) = n - 1 by omega]; exact h1
    rw [Nat.pow_add, Nat.mul_mod, e, ← Nat.mul_mod, ← Nat.pow_add, show j + (n - 1 - i) = (n - 1) * 1 + (j - i) by omega, Nat.pow_add, Nat.mul_mod, one_pow_mod hn h1, Nat.one_mul, Nat.mod_mod] at h2
    have := order_of hn fs hfs hprod h1 hq (j - i) (by omega) h2
    omega
theorem lucas {g n : Nat} (hn : 2 ≤ n) (fs : List Nat) (hfs : ∀ f ∈ fs, Pr f) (hprod : fs.prod = n - 1) (h1 : g ^ (n - 1) % n = 1) (hq : ∀ f ∈ fs, g ^ ((n - 1) / f) % n ≠ 1) : Pr n := by
  refine ⟨hn, fun d hd => ?_⟩
  by_cases hdn : d = n
  · exact Or.inr hdn
  · left
    have hd0 : d ≠ 0 := by rintro rfl; have := Nat.eq_zero_of_zero_dvd hd; omega
    have hdlt : d < n := by have := Nat.le_of_dvd (by omega) hd; omega
    obtain ⟨k, hk, hkx⟩ := lucas_onto hn fs hfs hprod h1 hq d (by omega) hdlt
    have h2 : g ^ (k + (n - 1 - k)) % n = 1 := by rw [show k + (n - 1 - k) = n - 1 by omega]; exact h1
    rw [Nat.pow_add, Nat.mul_mod, hkx, ← Nat.mod_mod_of_dvd _ (Nat.dvd_refl n)] at h2
    have h3 : d ∣ d * (g ^ (n - 1 - k) % n) := Nat.dvd_mul_right _ _
    have hdm := Nat.div_add_mod (d * (g ^ (n - 1 - k) % n)) n
    rw [Nat.mod_mod] at h2
    rw [h2] at hdm
    have h4 : d ∣ n * (d * (g ^ (n - 1 - k) % n) / n) := Nat.dvd_trans hd (Nat.dvd_mul_right _ _)
    have h5 : d ∣ 1 := (Nat.dvd_add_right h4).1 (by rw [hdm]; exact h3)
    exact Nat.dvd_one.1 h5
theorem lucas_fermat {g n : Nat} (hn : 2 ≤ n) (fs : List Nat) (hfs : ∀ f ∈ fs, Pr f) (hprod : fs.prod = n - 1) (h1 : g ^ (n - 1) % n = 1) (hq : ∀ f ∈ fs, g ^ ((n - 1) / f) % n ≠ 1) (x : Nat) (hx : x % n ≠ 0) : x ^ (n - 1) % n = 1 := by
  obtain ⟨k, hk, hkx⟩ := lucas_onto hn fs hfs hprod h1 hq (x % n) (by omega) (Nat.mod_lt _ (by omega))
  rw [Nat.pow_mod, ← hkx, ← Nat.pow_mod, ← Nat.pow_mul, Nat.mul_comm]
  exact one_pow_mod hn h1

theorem small_prime (p : Nat) (h : 2 ≤ p ∧ (List.range p).all (fun d => d ≤ 1 || p % d != 0) = true) : Pr p := by
  refine ⟨h.1, fun d hd => ?_⟩
  by_cases hp : d = p
  · exact Or.inr hp
  · left
    have hle := Nat.le_of_dvd (by omega) hd
    have h2 := List.all_eq_true.1 h.2 d (List.mem_range.2 (by omega))
    have hz : p % d = 0 := Nat.mod_eq_zero_of_dvd hd
    simp [hz] at h2
    have hd0 : d ≠ 0 := by rintro rfl; have := Nat.eq_zero_of_zero_dvd hd; omega
    omega
theorem prime_2 : Pr 2 := small_prime 2 (by decide)
theorem prime_3 : Pr 3 := small_prime 3 (by decide)
theorem prime_7 : Pr 7 := small_prime 7 (by decide)
theorem prime_19 : Pr 19 := small_prime 19 (by decide)
theorem prime_53 : Pr 53 := small_prime 53 (by decide +kernel)
theorem prime_449 : Pr 449 := small_prime 449 (by decide +kernel)
theorem prime_751 : Pr 751 := small_prime 751 (by decide +kernel)
theorem prime_5639 : Pr 5639 := small_prime 5639 (by decide +kernel)
theorem all_of {P : Nat → Prop} (a : Nat) (r : List Nat) (h : P a) (hr : ∀ f ∈ r, P f) : ∀ f ∈ a :: r, P f := fun f hf => by
  rcases List.mem_cons.1 hf with rfl | hf
  · exact h
  · exact hr f hf
theorem none_of {P : Nat → Prop} : ∀ f ∈ ([] : List Nat), P f := fun f hf => by simp at hf
def cert (g n : Nat) (fs : List Nat) : Bool := decide (2 ≤ n) && decide (n < 2 ^ 64) && decide (fs.prod = n - 1) && (qpow g n 64 (n - 1) (1 % n) == 1) && fs.all fun f => qpow g n 64 ((n - 1) / f) (1 % n) != 1
theorem cert_parts {g n : Nat} {fs : List Nat} (h : cert g n fs = true) : 2 ≤ n ∧ fs.prod = n - 1 ∧ g ^ (n - 1) % n = 1 ∧ ∀ f ∈ fs, g ^ ((n - 1) / f) % n ≠ 1 := by
  unfold cert at h
  simp only [Bool.and_eq_true, decide_eq_true_eq, beq_iff_eq, List.all_eq_true, bne_iff_ne] at h
  obtain ⟨⟨⟨⟨h1, h2⟩, h3⟩, h4⟩, h5⟩ := h
  refine ⟨h1, h3, pow_of 64 (by omega) h4, fun f hf => ?_⟩
  rw [pow_of 64 (Nat.lt_of_le_of_lt (Nat.div_le_self _ _) (by omega)) rfl]
  exact h5 f hf
theorem cert_prime {g n : Nat} {fs : List Nat} (h : cert g n fs = true) (hfs : ∀ f ∈ fs, Pr f) : Pr n := by
  obtain ⟨h1, h2, h3, h4⟩ := cert_parts h
  exact lucas h1 fs hfs h2 h3 h4
theorem cert_fermat {g n : Nat} {fs : List Nat} (h : cert g n fs = true) (hfs : ∀ f ∈ fs, Pr f) (x : Nat) (hx : x % n ≠ 0) : x ^ (n - 1) % n = 1 := by
  obtain ⟨h1, h2, h3, h4⟩ := cert_parts h
  exact lucas_fermat h1 fs hfs h2 h3 h4 x hx
theorem prime_95189 : Pr 95189 := cert_prime (g := 2) (fs := [2, 2, 53, 449]) (by decide +kernel) (all_of _ _ prime_2 (all_of _ _ prime_2 (all_of _ _ prime_53 (all_of _ _ prime_449 none_of))))
theorem prime_b : Pr 2835870689 := cert_prime (g := 6) (fs := [2, 2, 2, 2, 2, 7, 7, 19, 95189]) (by decide +kernel)
  (all_of _ _ prime_2 (all_of _ _ prime_2 (all_of _ _ prime_2 (all_of _ _ prime_2 (all_of _ _ prime_2 (all_of _ _ prime_7 (all_of _ _ prime_7 (all_of _ _ prime_19 (all_of _ _ prime_95189 none_of)))))))))
theorem prime_c : Pr 5671741379 := cert_prime (g := 2) (fs := [2, 2835870689]) (by decide +kernel) (all_of _ _ prime_2 (all_of _ _ prime_b none_of))
theorem prime_d : Pr 8469779 := cert_prime (g := 2) (fs := [2, 751, 5639]) (by decide +kernel) (all_of _ _ prime_2 (all_of _ _ prime_751 (all_of _ _ prime_5639 none_of)))
theorem prime_e : Pr 288230376151711447 := cert_prime (g := 6) (fs := [2, 3, 8469779, 5671741379]) (by decide +kernel) (all_of _ _ prime_2 (all_of _ _ prime_3 (all_of _ _ prime_d (all_of _ _ prime_c none_of))))
theorem cert_Q : cert 2 1152921504606845789 [2, 2, 288230376151711447] = true := by decide +kernel
theorem prime_Q : Pr 1152921504606845789 := cert_prime cert_Q (all_of _ _ prime_2 (all_of _ _ prime_2 (all_of _ _ prime_e none_of)))
theorem cert_P : cert 2 2305843009213691579 [2, 1152921504606845789] = true := by decide +kernel
theorem primes_P : ∀ f ∈ [2, 1152921504606845789], Pr f := all_of _ _ prime_2 (all_of _ _ prime_Q none_of)
theorem prime_P : Pr 2305843009213691579 := cert_prime cert_P primes_P
theorem fermat_P (x e : Nat) (he : 2305843009213691579 - 1 = e) (hx : x % 2305843009213691579 ≠ 0) : x ^ e % 2305843009213691579 = 1 := he ▸ cert_fermat cert_P primes_P x hx
end Go.Proofs.Ytiljlopgjlgfoaa.Num
