/- Plain facts on primes: what the tests of the package prime compute, and Fermat's little theorem. No program in sight. -/
import Derived.Test.YtjminjliomffaaaDoorBl
import Derived.Lib.TrailingZeros
namespace Go.Proofs.YtjminjliomffaaaDoor.Num

/-- how often 2 divides a number -/
def tzF : Nat → Nat → Nat
  | 0, _ => 0
  | f + 1, n => if n % 2 = 0 then tzF f (n / 2) + 1 else 0
def tz (n : Nat) : Nat := tzF (bl n) n
/-- the odd part -/
def odp (n : Nat) : Nat := n / 2 ^ tz n
theorem tz_even {n : Nat} (h0 : n ≠ 0) (h : n % 2 = 0) : tz n = tz (n / 2) + 1 := by
  unfold tz
  rw [bl_half n h0]
  show (if n % 2 = 0 then _ else _) = _
  rw [if_pos h]
theorem tz_odd {n : Nat} (h : n % 2 = 1) : tz n = 0 := by
  unfold tz
  rw [bl_half n (by omega)]
  show (if n % 2 = 0 then _ else _) = _
  rw [if_neg (by omega)]
theorem odp_even {n : Nat} (h0 : n ≠ 0) (h : n % 2 = 0) : odp n = odp (n / 2) := by
  unfold odp
  rw [tz_even h0 h, Nat.pow_succ, Nat.mul_comm, ← Nat.div_div_eq_div_mul]
theorem odp_odd {n : Nat} (h : n % 2 = 1) : odp n = n := by unfold odp; rw [tz_odd h]; simp
theorem tz_spec (n : Nat) (h0 : n ≠ 0) : n = odp n * 2 ^ tz n ∧ odp n % 2 = 1 := by
  induction n using Nat.strongRecOn with
  | ind n ih =>
    by_cases h : n % 2 = 0
    · obtain ⟨h1, h2⟩ := ih (n / 2) (by omega) (by omega)
      rw [odp_even h0 h, tz_even h0 h]
      refine ⟨?_, h2⟩
      rw [Nat.pow_succ, ← Nat.mul_assoc, ← h1]; omega
    · rw [odp_odd (by omega), tz_odd (by omega)]
      exact ⟨by simp, by omega⟩
theorem tz_lt {n : Nat} (h0 : n ≠ 0) (k : Nat) (h : n < 2 ^ k) : tz n < k := by
  obtain ⟨h1, h2⟩ := tz_spec n h0
  have h3 : 1 ≤ odp n := by omega
  have h4 : 2 ^ tz n ≤ n := by
    calc 2 ^ tz n = 1 * 2 ^ tz n := by omega
      _ ≤ odp n * 2 ^ tz n := Nat.mul_le_mul_right _ h3
      _ = n := h1.symm
  exact (Nat.pow_lt_pow_iff_right (by omega)).1 (Nat.lt_of_le_of_lt h4 h)
theorem ctz_tz (n : Nat) (h0 : n ≠ 0) (h : n < 2 ^ 64) : Lib.ctz 64 n = tz n := by
  have key : ∀ f n, n ≠ 0 → n < 2 ^ f → Lib.ctzFrom f n = tz n := by
    intro f
    induction f with
    | zero => intro n h0 h; simp at h; omega
    | succ f ih =>
      intro n h0 h
      unfold Lib.ctzFrom
      by_cases h2 : n % 2 = 1
      · rw [if_pos h2, tz_odd h2]
      · rw [if_neg h2, tz_even h0 (by omega), ih (n / 2) (by omega) (by rw [Nat.pow_succ] at h; omega)]; omega
  unfold Lib.ctz
  rw [if_neg h0]; exact key 64 n h0 h

/-- is the i-th square -1? -/
def hit (n a i : Nat) : Bool := a ^ (odp (n - 1) * 2 ^ i) % n == n - 1
/-- strong probable prime, of an odd number from 3 on -/
def strongB (n a : Nat) : Bool := (a ^ odp (n - 1) % n == 1) || (List.range (tz (n - 1))).any (hit n a)
theorem strong_one {n a : Nat} (h : a ^ odp (n - 1) % n = 1) : strongB n a = true := by unfold strongB; rw [h]; rfl
theorem strong_hit {n a i : Nat} (hi : i < tz (n - 1)) (h : hit n a i = true) : strongB n a = true := by
  unfold strongB
  rw [Bool.or_eq_true, List.any_eq_true]
  exact .inr ⟨i, List.mem_range.2 hi, h⟩
theorem strong_no {n a : Nat} (h1 : a ^ odp (n - 1) % n ≠ 1) (h : ∀ i, i < tz (n - 1) → hit n a i = false) : strongB n a = false := by
  unfold strongB
  rw [Bool.or_eq_false_iff]
  refine ⟨by rw [beq_eq_false_iff_ne]; exact h1, ?_⟩
  rw [List.any_eq_false]
  intro i hi
  rw [h i (List.mem_range.1 hi)]; simp
theorem sq_next (n a d i : Nat) : a ^ (d * 2 ^ i) % n * (a ^ (d * 2 ^ i) % n) % n = a ^ (d * 2 ^ (i + 1)) % n := by
  rw [← Nat.mul_mod, ← Nat.pow_add, Nat.pow_succ, ← Nat.mul_assoc]
  congr 2; omega
theorem strong_mod (n a : Nat) : strongB n (a % n) = strongB n a := by
  have e : ∀ k, (a % n) ^ k % n = a ^ k % n := fun k => by rw [← Nat.pow_mod]
  have e2 : hit n (a % n) = hit n a := by
    funext i; unfold hit; rw [e]
  unfold strongB
  rw [e, e2]
def bases : List Nat := [2, 3, 5, 7, 11, 13, 17, 19, 23, 29, 31, 37]
/-- is a number below 2^64 prime? -/
def isB (n : Nat) : Bool := decide (2 ≤ n) && (match bases.find? (fun p => n % p == 0) with | some p => n == p | none => bases.all (strongB n))
theorem isB_small {n : Nat} (h : n < 2) : isB n = false := by unfold isB; rw [decide_eq_false (by omega)]; rfl
theorem isB_div {n i : Nat} (h : 2 ≤ n) (hi : i < 12) (hno : ∀ j, j < i → n % bases[j]! ≠ 0) (hd : n % bases[i]! = 0) : isB n = (n == bases[i]!) := by
  have hf : bases.find? (fun p => n % p == 0) = some bases[i]! := by
    rw [List.find?_eq_some_iff_getElem]
    refine ⟨by simpa using hd, i, hi, ?_, ?_⟩
    · rw [getElem!_pos bases i hi]
    · intro j hj
      have := hno j hj
      rw [getElem!_pos bases j (by have : bases.length = 12 := rfl; omega)] at this
      simpa using this
  unfold isB
  rw [decide_eq_true h, hf]; simp
theorem isB_strong {n : Nat} (h : 2 ≤ n) (hno : ∀ j, j < 12 → n % bases[j]! ≠ 0) : isB n = bases.all (strongB n) := by
  have hf : bases.find? (fun p => n % p == 0) = none := by
    rw [List.find?_eq_none]
    intro p hp
    obtain ⟨j, hj, rfl⟩ := List.mem_iff_getElem.1 hp
    have := hno j hj
    rw [getElem!_pos bases j hj] at this
    simpa using this
  unfold isB
  rw [decide_eq_true h, hf]; simp
theorem isB_no {n i : Nat} (h : 2 ≤ n) (hno : ∀ j, j < 12 → n % bases[j]! ≠ 0) (hi : i < 12) (hs : strongB n bases[i]! = false) : isB n = false := by
  rw [isB_strong h hno, List.all_eq_false]
  exact ⟨bases[i]!, by rw [getElem!_pos bases i hi]; exact List.getElem_mem _, by rw [hs]; simp⟩
theorem isB_yes {n : Nat} (h : 2 ≤ n) (hno : ∀ j, j < 12 → n % bases[j]! ≠ 0) (hs : ∀ i, i < 12 → strongB n bases[i]! = true) : isB n = true := by
  rw [isB_strong h hno, List.all_eq_true]
  intro p hp
  obtain ⟨j, hj, rfl⟩ := List.mem_iff_getElem.1 hp
  have := hs j hj
  rw [getElem!_pos bases j hj] at this
  exact this
/-- what no base divides is odd and greater than every base -/
theorem no_base {n : Nat} (h : 2 ≤ n) (hno : ∀ j, j < 12 → n % bases[j]! ≠ 0) : 37 < n ∧ n % 2 = 1 := by
  have h2 : n % 2 ≠ 0 := hno 0 (by omega)
  refine ⟨?_, by omega⟩
  rcases Nat.lt_or_ge 37 n with h' | h'
  · exact h'
  · exfalso
    have key : ∀ n : Nat, n < 38 → 2 ≤ n → ∃ j : Nat, j < 12 ∧ n % bases[j]! = 0 := by decide +kernel
    obtain ⟨j, hj, hd⟩ := key n (by omega) h
    exact hno j hj hd
end Go.Proofs.YtjminjliomffaaaDoor.Num
