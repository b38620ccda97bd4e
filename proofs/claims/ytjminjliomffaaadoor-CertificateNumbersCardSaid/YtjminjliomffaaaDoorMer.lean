/- Plain facts: Pocklington's criterion, and the Mersenne primes of up to 127 bits. No program in sight. -/
import Derived.Test.YtjminjliomffaaaDoorFacQ
namespace Go.Proofs.YtjminjliomffaaaDoor
namespace Num
theorem least (Q : Nat → Prop) : ∀ n, Q n → ∃ m, Q m ∧ m ≤ n ∧ ∀ k, k < m → ¬ Q k := by
  intro n
  induction n using Nat.strongRecOn with
  | _ n ih =>
    intro h
    by_cases hk : ∃ k, k < n ∧ Q k
    · obtain ⟨k, hkn, hq⟩ := hk
      obtain ⟨m, h1, h2, h3⟩ := ih k hkn hq
      exact ⟨m, h1, by omega, h3⟩
    · exact ⟨n, h, Nat.le_refl _, fun k hkn hq => hk ⟨k, hkn, hq⟩⟩
theorem minFac {n : Nat} (hn : 2 ≤ n) : ∃ p, IsP p ∧ p ∣ n ∧ (IsP n ∨ p * p ≤ n) := by
  obtain ⟨p, ⟨h1, h2⟩, _, h3⟩ := least (fun d => 2 ≤ d ∧ d ∣ n) n ⟨hn, Nat.dvd_refl n⟩
  have hp : IsP p := ⟨h1, fun d hd => by
    have hd0 : d ≠ 0 := by rintro rfl; have := Nat.eq_zero_of_zero_dvd hd; omega
    have hle := Nat.le_of_dvd (by omega) hd
    rcases Nat.lt_or_ge d 2 with h | h
    · left; omega
    · right
      rcases Nat.lt_or_ge d p with h' | h'
      · exact absurd ⟨h, Nat.dvd_trans hd h2⟩ (h3 d h')
      · omega⟩
  refine ⟨p, hp, h2, ?_⟩
  obtain ⟨e, he⟩ := h2
  by_cases he1 : e = 1
  · left; rw [he, he1, Nat.mul_one]; exact hp
  · right
    have he0 : e ≠ 0 := by rintro rfl; simp at he; omega
    have : p ≤ e := by
      rcases Nat.lt_or_ge e p with h' | h'
      · exact absurd ⟨by omega, ⟨p, by rw [he, Nat.mul_comm]⟩⟩ (h3 e h')
      · exact h'
    rw [he]
    exact Nat.mul_le_mul_left p this
theorem pow_mod1 {a d p : Nat} (hp : 2 ≤ p) (h : a ^ d % p = 1) (m : Nat) : a ^ (d * m) % p = 1 := by
  rw [Nat.pow_mul, Nat.pow_mod, h, Nat.one_pow, Nat.mod_eq_of_lt (by omega)]
theorem ord_dvd {a d p k : Nat} (hp : 2 ≤ p) (hd0 : 0 < d) (h : a ^ d % p = 1) (hmin : ∀ j, j < d → ¬ (0 < j ∧ a ^ j % p = 1)) (hk : a ^ k % p = 1) : d ∣ k := by
  have hr : k % d = 0 := by
    rcases Nat.eq_zero_or_pos (k % d) with h0 | h0
    · exact h0
    · refine absurd ⟨h0, ?_⟩ (hmin (k % d) (Nat.mod_lt _ hd0))
      have e : a ^ k = a ^ (d * (k / d)) * a ^ (k % d) := by rw [← Nat.pow_add, Nat.div_add_mod]
      rw [e, Nat.mul_mod, pow_mod1 hp h, Nat.one_mul, Nat.mod_mod] at hk
      exact hk
  exact Nat.dvd_of_mod_eq_zero hr
theorem cop_lprod {m : Nat} : ∀ {qs : List Nat}, (∀ q ∈ qs, IsP q ∧ ¬ q ∣ m) → Nat.Coprime (lprod qs) m
  | [], _ => by simp [lprod, Nat.Coprime]
  | q :: qs, h => Nat.Coprime.mul_left ((h q (by simp)).1.gcd (h q (by simp)).2) (cop_lprod fun x hx => h x (by simp [hx]))
/-- Pocklington's criterion -/
theorem pock {n a : Nat} {qs : List Nat} (hn : 2 ≤ n) (hF : lprod qs ∣ n - 1) (hq : ∀ q ∈ qs, IsP q) (h1 : a ^ (n - 1) % n = 1)
    (h2 : ∀ q ∈ qs, Nat.gcd (a ^ ((n - 1) / q) % n + (n - 1)) n = 1) (hbig : n < lprod qs * lprod qs) : IsP n := by
  obtain ⟨p, hp, hpn, h⟩ := minFac hn
  rcases h with h | h
  · exact h
  exfalso
  have hp2 := hp.1
  have e1 : a ^ (n - 1) % p = 1 := by rw [← Nat.mod_mod_of_dvd _ hpn, h1, Nat.mod_eq_of_lt (by omega)]
  obtain ⟨d, ⟨hd0, hd1⟩, _, hmin⟩ := least (fun j => 0 < j ∧ a ^ j % p = 1) (n - 1) ⟨by omega, e1⟩
  have hpa : ¬ p ∣ a := by
    intro hd
    have : p ∣ a ^ (n - 1) := Nat.dvd_trans hd (Nat.dvd_of_mod_eq_zero (by
      rw [show n - 1 = (n - 2) + 1 by omega, Nat.pow_succ]; exact Nat.mul_mod_left _ _))
    rw [Nat.mod_eq_zero_of_dvd this] at e1
    omega
  have hdp : d ∣ p - 1 := ord_dvd (by omega) hd0 hd1 hmin (hp.fermat1 hpa)
  obtain ⟨m, hm⟩ := ord_dvd (by omega) hd0 hd1 hmin e1
  have hqm : ∀ q ∈ qs, IsP q ∧ ¬ q ∣ m := by
    refine fun q hqs => ⟨hq q hqs, ?_⟩
    rintro ⟨m', hm'⟩
    have hq0 := (hq q hqs).1
    have e2 : (n - 1) / q = d * m' := by
      rw [hm, hm', Nat.mul_left_comm]
      exact Nat.mul_div_cancel_left _ (by omega)
    have e3 : a ^ ((n - 1) / q) % p = 1 := by rw [e2]; exact pow_mod1 (by omega) hd1 _
    have hg := h2 q hqs
    obtain ⟨x, hx⟩ : ∃ x, a ^ ((n - 1) / q) % n = x := ⟨_, rfl⟩
    have e4 : x % p = 1 := by rw [← hx, Nat.mod_mod_of_dvd _ hpn, e3]
    rw [hx] at hg
    have hd : p ∣ x + (n - 1) := by
      obtain ⟨c, hc⟩ := hpn
      have h5 := Nat.div_add_mod x p
      rw [e4] at h5
      exact ⟨x / p + c, by rw [Nat.mul_add]; omega⟩
    have := Nat.dvd_gcd hd hpn
    rw [hg] at this
    have := Nat.le_of_dvd (by omega) this
    omega
  have hFd : lprod qs ∣ d := Nat.Coprime.dvd_of_dvd_mul_right (cop_lprod hqm) (by rw [← hm]; exact hF)
  have hle := Nat.le_of_dvd (by omega) (Nat.dvd_trans hFd hdp)
  have : lprod qs * lprod qs ≤ p * p := Nat.mul_le_mul (by omega) (by omega)
  omega
/-- a power modulo n, by squaring -/
def pmA : Nat → Nat → Nat → Nat → Nat → Nat
  | 0, r, _, _, _ => r
  | f + 1, r, b, e, n => pmA f (if e % 2 = 1 then r * b % n else r) (b * b % n) (e / 2) n
theorem pmA_eq : ∀ (f r b e n : Nat), e < 2 ^ f → pmA f r b e n % n = r * b ^ e % n
  | 0, r, b, e, n, h => by
    obtain rfl : e = 0 := by simp at h; omega
    simp [pmA]
  | f + 1, r, b, e, n, h => by
    have he : e / 2 < 2 ^ f := by rw [Nat.pow_succ] at h; omega
    show pmA f _ _ _ n % n = _
    rw [pmA_eq f _ _ _ n he, Nat.mul_mod, Nat.pow_mod, Nat.mod_mod, ← Nat.pow_mod, ← Nat.mul_mod, ← Nat.pow_two, ← Nat.pow_mul]
    have h2 := Nat.div_add_mod e 2
    by_cases ho : e % 2 = 1
    · rw [if_pos ho, Nat.mul_mod, Nat.mod_mod, ← Nat.mul_mod, Nat.mul_assoc, ← Nat.pow_succ', show (2 * (e / 2)).succ = e by omega]
    · rw [if_neg ho, show 2 * (e / 2) = e by omega]
def pmod (a e n : Nat) : Nat := pmA 128 1 a e n % n
theorem pmod_eq {a e n : Nat} (h : e < 340282366920938463463374607431768211456) : pmod a e n = a ^ e % n := by
  unfold pmod
  rw [pmA_eq 128 1 a e n h, Nat.one_mul]
/-- trial division -/
def triF : Nat → Nat → Nat → Bool
  | 0, _, _ => false
  | f + 1, n, d => if n < d * d then true else if n % d = 0 then false else triF f n (d + 1)
theorem triF_spec : ∀ (f n d : Nat), triF f n d = true → ∀ e, d ≤ e → e * e ≤ n → n % e ≠ 0
  | 0, n, d, h => by cases h
  | f + 1, n, d, h => by
    intro e he hen
    unfold triF at h
    by_cases h1 : n < d * d
    · have := Nat.mul_le_mul he he; omega
    · rw [if_neg h1] at h
      by_cases h2 : n % d = 0
      · rw [if_pos h2] at h; cases h
      · rw [if_neg h2] at h
        rcases Nat.lt_or_ge d e with h' | h'
        · exact triF_spec f n (d + 1) h e h' hen
        · obtain rfl : e = d := by omega
          exact h2
theorem isP_tri {n f : Nat} (hn : 2 ≤ n) (h : triF f n 2 = true) : IsP n := by
  obtain ⟨p, hp, hpn, h'⟩ := minFac hn
  rcases h' with h' | h'
  · exact h'
  · exact absurd (Nat.mod_eq_zero_of_dvd hpn) (triF_spec f n 2 h p hp.1 h')
/-- the criterion, as one that is reckoned -/
def pockB (n a : Nat) (qs : List Nat) : Bool :=
  decide (2 ≤ n) && (decide (n < 340282366920938463463374607431768211456) && (decide ((n - 1) % lprod qs = 0) && (decide (pmod a (n - 1) n = 1) && (qs.all (fun q => decide (Nat.gcd (pmod a ((n - 1) / q) n + (n - 1)) n = 1)) && decide (n < lprod qs * lprod qs)))))
theorem isP_pock {n a : Nat} {qs : List Nat} (h : pockB n a qs = true) (hq : ∀ q ∈ qs, IsP q) : IsP n := by
  simp only [pockB, Bool.and_eq_true, decide_eq_true_eq, List.all_eq_true] at h
  obtain ⟨h1, h2, h3, h4, h5, h6⟩ := h
  refine pock h1 (Nat.dvd_of_mod_eq_zero h3) hq (by rw [← pmod_eq (by omega)]; exact h4) (fun q hqs => ?_) h6
  have := h5 q hqs
  rw [pmod_eq (Nat.lt_of_le_of_lt (Nat.div_le_self _ _) (by omega))] at this
  exact this
theorem isP2 : IsP 2 := isP_tri (f := 3) (by omega) (by decide +kernel)
theorem isP3 : IsP 3 := isP_tri (f := 3) (by omega) (by decide +kernel)
theorem isP5 : IsP 5 := isP_tri (f := 4) (by omega) (by decide +kernel)
theorem isP7 : IsP 7 := isP_tri (f := 4) (by omega) (by decide +kernel)
theorem isP11 : IsP 11 := isP_tri (f := 5) (by omega) (by decide +kernel)
theorem isP13 : IsP 13 := isP_tri (f := 5) (by omega) (by decide +kernel)
theorem isP17 : IsP 17 := isP_tri (f := 6) (by omega) (by decide +kernel)
theorem isP19 : IsP 19 := isP_tri (f := 6) (by omega) (by decide +kernel)
theorem isP23 : IsP 23 := isP_tri (f := 6) (by omega) (by decide +kernel)
theorem isP31 : IsP 31 := isP_tri (f := 7) (by omega) (by decide +kernel)
theorem isP41 : IsP 41 := isP_tri (f := 8) (by omega) (by decide +kernel)
theorem isP43 : IsP 43 := isP_tri (f := 8) (by omega) (by decide +kernel)
theorem isP61 : IsP 61 := isP_tri (f := 9) (by omega) (by decide +kernel)
theorem isP73 : IsP 73 := isP_tri (f := 10) (by omega) (by decide +kernel)
theorem isP89 : IsP 89 := isP_tri (f := 11) (by omega) (by decide +kernel)
theorem isP107 : IsP 107 := isP_tri (f := 12) (by omega) (by decide +kernel)
theorem isP127 : IsP 127 := isP_tri (f := 13) (by omega) (by decide +kernel)
theorem isP151 : IsP 151 := isP_tri (f := 14) (by omega) (by decide +kernel)
theorem isP337 : IsP 337 := isP_tri (f := 20) (by omega) (by decide +kernel)
theorem isP353 : IsP 353 := isP_tri (f := 20) (by omega) (by decide +kernel)
theorem isP397 : IsP 397 := isP_tri (f := 21) (by omega) (by decide +kernel)
theorem isP683 : IsP 683 := isP_tri (f := 28) (by omega) (by decide +kernel)
theorem isP5419 : IsP 5419 := isP_tri (f := 75) (by omega) (by decide +kernel)
theorem isP6361 : IsP 6361 := isP_tri (f := 81) (by omega) (by decide +kernel)
theorem isP8191 : IsP 8191 := isP_tri (f := 92) (by omega) (by decide +kernel)
theorem isP69431 : IsP 69431 := isP_tri (f := 265) (by omega) (by decide +kernel)
theorem isP92737 : IsP 92737 := isP_tri (f := 306) (by omega) (by decide +kernel)
theorem isP131071 : IsP 131071 := isP_tri (f := 364) (by omega) (by decide +kernel)
theorem isP524287 : IsP 524287 := isP_tri (f := 726) (by omega) (by decide +kernel)
theorem isP20394401 : IsP 20394401 := isP_tri (f := 4518) (by omega) (by decide +kernel)
theorem isM31 : IsP 2147483647 := by
  refine isP_pock (a := 7) (qs := [2, 3, 3, 7, 11, 31, 151]) (by decide +kernel) ?_
  intro q hq
  simp only [List.mem_cons, List.not_mem_nil, or_false] at hq
  rcases hq with rfl | rfl | rfl | rfl | rfl | rfl | rfl
  · exact isP2
  · exact isP3
  · exact isP3
  · exact isP7
  · exact isP11
  · exact isP31
  · exact isP151
theorem isM61 : IsP 2305843009213693951 := by
  refine isP_pock (a := 29) (qs := [2, 3, 3, 5, 5, 7, 11, 13, 31, 41, 61]) (by decide +kernel) ?_
  intro q hq
  simp only [List.mem_cons, List.not_mem_nil, or_false] at hq
  rcases hq with rfl | rfl | rfl | rfl | rfl | rfl | rfl | rfl | rfl | rfl | rfl
  · exact isP2
  · exact isP3
  · exact isP3
  · exact isP5
  · exact isP5
  · exact isP7
  · exact isP11
  · exact isP13
  · exact isP31
  · exact isP41
  · exact isP61
theorem isM89 : IsP 618970019642690137449562111 := by
  refine isP_pock (a := 3) (qs := [2, 3, 5, 17, 23, 89, 353, 397, 683]) (by decide +kernel) ?_
  intro q hq
  simp only [List.mem_cons, List.not_mem_nil, or_false] at hq
  rcases hq with rfl | rfl | rfl | rfl | rfl | rfl | rfl | rfl | rfl
  · exact isP2
  · exact isP3
  · exact isP5
  · exact isP17
  · exact isP23
  · exact isP89
  · exact isP353
  · exact isP397
  · exact isP683
theorem isM107 : IsP 162259276829213363391578010288127 := by
  refine isP_pock (a := 3) (qs := [2, 3, 107, 6361, 69431, 20394401]) (by decide +kernel) ?_
  intro q hq
  simp only [List.mem_cons, List.not_mem_nil, or_false] at hq
  rcases hq with rfl | rfl | rfl | rfl | rfl | rfl
  · exact isP2
  · exact isP3
  · exact isP107
  · exact isP6361
  · exact isP69431
  · exact isP20394401
theorem isM127 : IsP 170141183460469231731687303715884105727 := by
  refine isP_pock (a := 43) (qs := [2, 3, 3, 3, 7, 7, 19, 43, 73, 127, 337, 5419, 92737]) (by decide +kernel) ?_
  intro q hq
  simp only [List.mem_cons, List.not_mem_nil, or_false] at hq
  rcases hq with rfl | rfl | rfl | rfl | rfl | rfl | rfl | rfl | rfl | rfl | rfl | rfl | rfl
  · exact isP2
  · exact isP3
  · exact isP3
  · exact isP3
  · exact isP7
  · exact isP7
  · exact isP19
  · exact isP43
  · exact isP73
  · exact isP127
  · exact isP337
  · exact isP5419
  · exact isP92737
end Num
end Go.Proofs.YtjminjliomffaaaDoor
