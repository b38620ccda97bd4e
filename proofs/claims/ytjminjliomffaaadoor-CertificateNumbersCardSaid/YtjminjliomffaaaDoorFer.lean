/- Plain facts on primes: Euclid's lemma, Fermat's little theorem, and that primes pass the strong test. No program in sight. -/
import Derived.Test.YtjminjliomffaaaDoorPr
namespace Go.Proofs.YtjminjliomffaaaDoor.Num

/-- a prime -/
def IsP (p : Nat) : Prop := 2 ≤ p ∧ ∀ d, d ∣ p → d = 1 ∨ d = p
theorem IsP.gcd {p a : Nat} (h : IsP p) (ha : ¬ p ∣ a) : Nat.gcd p a = 1 := by
  rcases h.2 _ (Nat.gcd_dvd_left p a) with e | e
  · exact e
  · exact absurd (by rw [← e]; exact Nat.gcd_dvd_right p a) ha
theorem IsP.dvd_mul {p a b : Nat} (h : IsP p) (hd : p ∣ a * b) : p ∣ a ∨ p ∣ b := by
  by_cases ha : p ∣ a
  · exact .inl ha
  · exact .inr (Nat.Coprime.dvd_of_dvd_mul_left (h.gcd ha) hd)
theorem IsP.dvd_pow {p a : Nat} (h : IsP p) : ∀ {k : Nat}, p ∣ a ^ k → p ∣ a
  | 0, hd => by have h1 := Nat.le_of_dvd (by simp) hd; have h2 := h.1; rw [Nat.pow_zero] at h1; omega
  | k + 1, hd => by
    rw [Nat.pow_succ] at hd
    rcases h.dvd_mul hd with h' | h'
    · exact h.dvd_pow h'
    · exact h'

/-- binomial coefficients -/
def ch : Nat → Nat → Nat
  | _, 0 => 1
  | 0, _ + 1 => 0
  | n + 1, k + 1 => ch n k + ch n (k + 1)
theorem ch_zero (n : Nat) : ch n 0 = 1 := by cases n <;> rfl
theorem ch_big : ∀ n k, n < k → ch n k = 0
  | 0, k + 1, _ => rfl
  | n + 1, k + 1, h => by
    show ch n k + ch n (k + 1) = 0
    rw [ch_big n k (by omega), ch_big n (k + 1) (by omega)]
theorem ch_self : ∀ n, ch n n = 1
  | 0 => rfl
  | n + 1 => by
    show ch n n + ch n (n + 1) = 1
    rw [ch_self n, ch_big n (n + 1) (by omega)]
theorem ch_absorb : ∀ n k, (k + 1) * ch (n + 1) (k + 1) = (n + 1) * ch n k
  | 0, 0 => rfl
  | 0, k + 1 => by
    show (k + 1 + 1) * (ch 0 (k + 1) + ch 0 (k + 1 + 1)) = (0 + 1) * ch 0 (k + 1)
    rfl
  | n + 1, 0 => by
    have h1 := ch_absorb n 0
    have e : ch (n + 1 + 1) (0 + 1) = ch (n + 1) 0 + ch (n + 1) (0 + 1) := rfl
    rw [e, ch_zero]
    rw [ch_zero] at h1
    omega
  | n + 1, k + 1 => by
    have h1 := ch_absorb n k
    have h2 := ch_absorb n (k + 1)
    have e : ch (n + 1 + 1) (k + 1 + 1) = ch (n + 1) (k + 1) + ch (n + 1) (k + 1 + 1) := rfl
    have e2 : ch (n + 1) (k + 1) = ch n k + ch n (k + 1) := rfl
    have a1 : (k + 1 + 1) * ch (n + 1) (k + 1) = (k + 1) * ch (n + 1) (k + 1) + ch (n + 1) (k + 1) := by rw [Nat.add_mul (k + 1) 1, Nat.one_mul]
    have a2 : (n + 1 + 1) * ch (n + 1) (k + 1) = (n + 1) * ch (n + 1) (k + 1) + ch (n + 1) (k + 1) := by rw [Nat.add_mul (n + 1) 1, Nat.one_mul]
    have a3 : (n + 1) * ch (n + 1) (k + 1) = (n + 1) * ch n k + (n + 1) * ch n (k + 1) := by rw [e2, Nat.mul_add]
    rw [e, Nat.mul_add, h2, a1, h1, a2, a3]; omega
/-- the sum of the first k terms of a power of a sum -/
def bsum (n x : Nat) : Nat → Nat
  | 0 => 0
  | k + 1 => bsum n x k + ch n k * x ^ k
theorem bsum_succ (n x : Nat) : ∀ k, bsum (n + 1) x (k + 1) = bsum n x (k + 1) + x * bsum n x k
  | 0 => by simp [bsum, ch_zero]
  | k + 1 => by
    have ih := bsum_succ n x k
    have e : ch (n + 1) (k + 1) = ch n k + ch n (k + 1) := rfl
    rw [bsum, ih, e]
    show _ = bsum n x (k + 1) + ch n (k + 1) * x ^ (k + 1) + x * (bsum n x k + ch n k * x ^ k)
    rw [Nat.add_mul, Nat.mul_add, Nat.pow_succ]
    have : ch n k * (x ^ k * x) = x * (ch n k * x ^ k) := by rw [← Nat.mul_assoc, Nat.mul_comm]
    omega
theorem bsum_pow (x : Nat) : ∀ n, bsum n x (n + 1) = (x + 1) ^ n
  | 0 => by simp [bsum, ch]
  | n + 1 => by
    rw [bsum_succ, bsum, ch_big n (n + 1) (by omega), bsum_pow x n, Nat.zero_mul, Nat.pow_succ, Nat.mul_add, Nat.mul_comm x]; omega
theorem IsP.ch_dvd {p : Nat} (h : IsP p) {k : Nat} (h0 : 0 < k) (hk : k < p) : p ∣ ch p k := by
  obtain ⟨q, rfl⟩ : ∃ q, p = q + 1 := ⟨p - 1, by have := h.1; omega⟩
  obtain ⟨j, rfl⟩ : ∃ j, k = j + 1 := ⟨k - 1, by omega⟩
  have e := ch_absorb q j
  have hd : q + 1 ∣ (j + 1) * ch (q + 1) (j + 1) := ⟨_, e⟩
  rcases h.dvd_mul hd with h' | h'
  · have := Nat.le_of_dvd (by omega) h'; omega
  · exact h'
theorem IsP.bsum_mod {p : Nat} (h : IsP p) (x : Nat) : ∀ k, k < p → bsum p x (k + 1) % p = 1 % p
  | 0, _ => by simp [bsum, ch_zero]
  | k + 1, hk => by
    have ih := h.bsum_mod x k (by omega)
    rw [bsum, Nat.add_mod, ih]
    have : ch p (k + 1) * x ^ (k + 1) % p = 0 := Nat.mod_eq_zero_of_dvd (Nat.dvd_trans (h.ch_dvd (by omega) hk) (Nat.dvd_mul_right _ _))
    rw [this]; simp
theorem IsP.add_one_pow {p : Nat} (h : IsP p) (x : Nat) : (x + 1) ^ p % p = (x ^ p + 1) % p := by
  have h1 := bsum_pow x p
  obtain ⟨q, hq⟩ : ∃ q, p = q + 1 := ⟨p - 1, by have := h.1; omega⟩
  have h2 := h.bsum_mod x q (by omega)
  rw [← h1, bsum, ch_self, Nat.one_mul, Nat.add_mod, hq, ← hq, show bsum p x p % p = 1 % p from by rw [← h2, ← hq], ← Nat.add_mod, Nat.add_comm]
/-- Fermat's little theorem -/
theorem IsP.fermat {p : Nat} (h : IsP p) : ∀ x, x ^ p % p = x % p
  | 0 => by rw [Nat.zero_pow (by have := h.1; omega)]
  | x + 1 => by rw [h.add_one_pow, Nat.add_mod, h.fermat x, ← Nat.add_mod]
theorem IsP.fermat1 {p : Nat} (h : IsP p) {x : Nat} (hx : ¬ p ∣ x) : x ^ (p - 1) % p = 1 := by
  have h2 := h.1
  have e := h.fermat x
  have e3 : x ^ p = x ^ (p - 1) * x := by rw [← Nat.pow_succ]; congr 1; omega
  rw [e3] at e
  have hp : 1 ≤ x ^ (p - 1) := by
    have : 0 < x := by rcases Nat.eq_zero_or_pos x with h0 | h0
                       · exact absurd (by rw [h0]; exact Nat.dvd_zero p) hx
                       · exact h0
    exact Nat.pow_pos this
  have hd : p ∣ (x ^ (p - 1) - 1) * x := by
    rw [Nat.sub_mul, Nat.one_mul]
    exact Nat.dvd_of_mod_eq_zero (Nat.sub_mod_eq_zero_of_mod_eq e)
  rcases h.dvd_mul hd with h' | h'
  · obtain ⟨c, hc⟩ := h'
    have : x ^ (p - 1) = 1 + p * c := by omega
    rw [this, Nat.add_mul_mod_self_left, Nat.mod_eq_of_lt (by omega)]
  · exact absurd h' hx
theorem IsP.sqrt_one {p : Nat} (h : IsP p) {y : Nat} (hy : y < p) (h1 : y * y % p = 1) : y = 1 ∨ y = p - 1 := by
  have h2 := h.1
  rcases Nat.eq_zero_or_pos y with h0 | h0
  · subst h0; simp at h1
  · have hd : p ∣ (y - 1) * (y + 1) := by
      have e : (y - 1) * (y + 1) = y * y - 1 := by
        obtain ⟨z, rfl⟩ : ∃ z, y = z + 1 := ⟨y - 1, by omega⟩
        simp only [Nat.add_sub_cancel, Nat.mul_add, Nat.add_mul]; omega
      rw [e]
      have hle : 1 ≤ y * y := Nat.mul_pos h0 h0
      exact Nat.dvd_of_mod_eq_zero (Nat.sub_mod_eq_zero_of_mod_eq (by rw [h1, Nat.mod_eq_of_lt (by omega)]))
    rcases h.dvd_mul hd with h' | h'
    · rcases Nat.eq_zero_or_pos (y - 1) with h3 | h3
      · exact .inl (by omega)
      · have := Nat.le_of_dvd h3 h'; omega
    · have := Nat.le_of_dvd (by omega) h'; exact .inr (by omega)
/-- a prime passes the strong test to every base that it does not divide -/
theorem IsP.strong {p : Nat} (h : IsP p) {a : Nat} (ha : ¬ p ∣ a) : strongB p a = true := by
  have h2 := h.1
  obtain ⟨e, eo⟩ := tz_spec (p - 1) (by omega)
  have hf := h.fermat1 ha
  rw [e] at hf
  have key : ∀ i, i ≤ tz (p - 1) → a ^ (odp (p - 1) * 2 ^ i) % p = 1 → strongB p a = true := by
    intro i
    induction i with
    | zero => intro _ h1; exact strong_one (by simpa using h1)
    | succ i ih =>
      intro hi h1
      rw [← sq_next] at h1
      rcases h.sqrt_one (Nat.mod_lt _ (by omega)) h1 with h3 | h3
      · exact ih (by omega) h3
      · exact strong_hit (i := i) (by omega) (by unfold hit; rw [h3]; simp)
  exact key _ (Nat.le_refl _) hf
theorem IsP.isB {p : Nat} (h : IsP p) : isB p = true := by
  have h2 := h.1
  by_cases hb : ∃ j : Nat, j < 12 ∧ p % bases[j]! = 0
  · have hpr : ∀ j : Nat, j < 12 → 2 ≤ bases[j]! := by decide
    have : ∀ k : Nat, (∀ j : Nat, j < k → p % bases[j]! ≠ 0) ∨ ∃ i, i < k ∧ (∀ j, j < i → p % bases[j]! ≠ 0) ∧ p % bases[i]! = 0 := by
      intro k
      induction k with
      | zero => exact .inl (fun j hj => by omega)
      | succ k ih =>
        rcases ih with ih | ⟨i, hi, h3, h4⟩
        · by_cases hk : p % bases[k]! = 0
          · exact .inr ⟨k, by omega, ih, hk⟩
          · exact .inl (fun j hj => by
              by_cases e : j = k
              · subst e; exact hk
              · exact ih j (by omega))
        · exact .inr ⟨i, by omega, h3, h4⟩
    rcases this 12 with h3 | ⟨i, hi, h3, h4⟩
    · obtain ⟨j, hj, hd⟩ := hb; exact absurd hd (h3 j hj)
    · rw [isB_div h2 hi h3 h4]
      rcases h.2 _ (Nat.dvd_of_mod_eq_zero h4) with h5 | h5
      · have := hpr i hi; omega
      · simp [h5]
  · have hno : ∀ j, j < 12 → p % bases[j]! ≠ 0 := fun j hj e => hb ⟨j, hj, e⟩
    obtain ⟨h37, _⟩ := no_base h2 hno
    refine isB_yes h2 hno (fun i hi => h.strong (fun hd => ?_))
    have hle : bases[i]! ≤ 37 ∧ 0 < bases[i]! := by
      have : ∀ i : Nat, i < 12 → bases[i]! ≤ 37 ∧ 0 < bases[i]! := by decide
      exact this i hi
    have := Nat.le_of_dvd hle.2 hd
    omega
end Go.Proofs.YtjminjliomffaaaDoor.Num
