/- The length in bits of a number: plain facts. -/
import Derived.Lib.BitFns
import Derived.Test.YtdlbnioidfhhcaaGreatNum
namespace Go.Proofs.YtdlbnioidfhhcaaGreat.Num
theorem bitLen_bounds : ∀ (x : Nat), x ≠ 0 → x < 2 ^ 64 → 1 ≤ Lib.bitLen x ∧ 2 ^ (Lib.bitLen x - 1) ≤ x ∧ x < 2 ^ Lib.bitLen x := by
  intro x
  induction x using Nat.strongRecOn with
  | ind x ih =>
    intro h0 h
    have e := Lib.bitLen_half x h0 h
    by_cases h1 : x / 2 = 0
    · have hx : x = 1 := by omega
      subst hx
      decide
    · have := ih (x / 2) (by omega) h1 (by omega)
      obtain ⟨a, b, c⟩ := this
      rw [e]
      generalize Lib.bitLen (x / 2) = k at *
      obtain ⟨k, rfl⟩ : ∃ m, k = m + 1 := ⟨k - 1, by omega⟩
      refine ⟨by omega, ?_, ?_⟩
      · rw [show 1 + (k + 1) - 1 = k + 1 from by omega, Nat.pow_succ]
        rw [show k + 1 - 1 = k from by omega] at b; omega
      · rw [Nat.add_comm 1 (k + 1), Nat.pow_succ]; omega
/-- the shift that makes the first byte at least 128 -/
theorem shift8 (x : Nat) (h0 : 1 ≤ x) (h1 : x ≤ 255) : ∃ s : Nat, (8 - (Lib.bitLen x : Int)) = (s : Int) ∧ s ≤ 7 ∧ 128 ≤ x * 2 ^ s ∧ x * 2 ^ s ≤ 255 := by
  obtain ⟨a, b, c⟩ := bitLen_bounds x (by omega) (by omega)
  have hl := Lib.bitLen_le x 8 (by omega) (by omega)
  generalize Lib.bitLen x = k at *
  refine ⟨8 - k, by omega, by omega, ?_⟩
  rcases (by omega : k = 1 ∨ k = 2 ∨ k = 3 ∨ k = 4 ∨ k = 5 ∨ k = 6 ∨ k = 7 ∨ k = 8) with h | h | h | h | h | h | h | h <;> subst h <;> simp at * <;> omega
theorem shift32 (x : Nat) (h0 : 1 ≤ x) (h1 : x < 4294967296) : ∃ s : Nat, (32 - (Lib.bitLen x : Int)) = (s : Int) ∧ s ≤ 31 ∧ 2147483648 ≤ x * 2 ^ s ∧ x * 2 ^ s < 4294967296 := by
  obtain ⟨a, b, c⟩ := bitLen_bounds x (by omega) (by omega)
  have hl := Lib.bitLen_le x 32 (by omega) (by omega)
  generalize Lib.bitLen x = k at *
  refine ⟨32 - k, by omega, by omega, ?_, ?_⟩
  · have h2 : 2 ^ (k - 1) * 2 ^ (32 - k) ≤ x * 2 ^ (32 - k) := Nat.mul_le_mul_right _ b
    rw [← Nat.pow_add, show k - 1 + (32 - k) = 31 from by omega] at h2; omega
  · have h2 : x * 2 ^ (32 - k) < 2 ^ k * 2 ^ (32 - k) := (Nat.mul_lt_mul_right (Nat.two_pow_pos _)).2 c
    rw [← Nat.pow_add, show k + (32 - k) = 32 from by omega] at h2; omega
theorem shift64 (x : Nat) (h0 : 1 ≤ x) (h1 : x < 18446744073709551616) : ∃ s : Nat, (64 - (Lib.bitLen x : Int)) = (s : Int) ∧ s ≤ 63 ∧ 9223372036854775808 ≤ x * 2 ^ s ∧ x * 2 ^ s < 18446744073709551616 := by
  obtain ⟨a, b, c⟩ := bitLen_bounds x (by omega) (by omega)
  have hl := Lib.bitLen_le x 64 (by omega) (by omega)
  generalize Lib.bitLen x = k at *
  refine ⟨64 - k, by omega, by omega, ?_, ?_⟩
  · have h2 : 2 ^ (k - 1) * 2 ^ (64 - k) ≤ x * 2 ^ (64 - k) := Nat.mul_le_mul_right _ b
    rw [← Nat.pow_add, show k - 1 + (64 - k) = 63 from by omega] at h2; omega
  · have h2 : x * 2 ^ (64 - k) < 2 ^ k * 2 ^ (64 - k) := (Nat.mul_lt_mul_right (Nat.two_pow_pos _)).2 c
    rw [← Nat.pow_add, show k + (64 - k) = 64 from by omega] at h2; omega
end Go.Proofs.YtdlbnioidfhhcaaGreat.Num
