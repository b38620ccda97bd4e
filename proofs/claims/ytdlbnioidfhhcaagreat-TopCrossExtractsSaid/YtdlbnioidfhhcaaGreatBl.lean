/- Plain facts on binary digits of numbers, and the division bit by bit. -/
import Derived.Test.YtdlbnioidfhhcaaGreatNum
import Derived.Lib.BitFns
namespace Go.Proofs.YtdlbnioidfhhcaaGreat.Num

/-- how many binary digits a number has -/
def bl (n : Nat) : Nat := if n = 0 then 0 else n.log2 + 1
theorem bl_zero : bl 0 = 0 := rfl
theorem lt_bl (n : Nat) : n < 2 ^ bl n := by
  unfold bl
  split
  · subst_vars; simp
  · exact Nat.lt_log2_self
theorem pow_le_of_bl (n k : Nat) (h : k < bl n) : 2 ^ k ≤ n := by
  unfold bl at h
  split at h
  · omega
  · rename_i h0
    exact Nat.le_trans (Nat.pow_le_pow_right (by omega) (by omega)) (Nat.log2_self_le h0)
theorem bl_le_iff (n k : Nat) : bl n ≤ k ↔ n < 2 ^ k := by
  constructor
  · intro h; exact Nat.lt_of_lt_of_le (lt_bl n) (Nat.pow_le_pow_right (by omega) h)
  · intro h
    rcases Nat.lt_or_ge k (bl n) with h' | h'
    · have := pow_le_of_bl n k h'; omega
    · exact h'
theorem bl_eq_zero (n : Nat) : bl n = 0 ↔ n = 0 := by
  have := bl_le_iff n 0; simp at this; omega
theorem bl_uniq {n k : Nat} (h1 : 2 ^ k ≤ n) (h2 : n < 2 ^ (k + 1)) : bl n = k + 1 := by
  have a := (bl_le_iff n (k + 1)).2 h2
  have b : ¬ bl n ≤ k := by rw [bl_le_iff]; omega
  omega
theorem bl_half (n : Nat) (h : n ≠ 0) : bl n = bl (n / 2) + 1 := by
  rcases Nat.eq_zero_or_pos (n / 2) with h2 | h2
  · rw [h2, bl_zero]
    exact bl_uniq (by simp; omega) (by simp; omega)
  · have h3 : bl (n / 2) ≠ 0 := by rw [Ne, bl_eq_zero]; omega
    obtain ⟨k, hk⟩ : ∃ k, bl (n / 2) = k + 1 := ⟨bl (n / 2) - 1, by omega⟩
    have a := pow_le_of_bl (n / 2) k (by omega)
    have b := lt_bl (n / 2)
    rw [hk] at b ⊢
    refine bl_uniq ?_ ?_
    · rw [Nat.pow_succ]; omega
    · rw [Nat.pow_succ (n := 2) (m := k + 1)]; omega
theorem bl_mono {a b : Nat} (h : a ≤ b) : bl a ≤ bl b := by
  rw [bl_le_iff]; exact Nat.lt_of_le_of_lt h (lt_bl b)
/-- a number times 256 to the k, and less than that -/
theorem bl_shift (x k r : Nat) (h : x ≠ 0) (hr : r < 2 ^ k) : bl (x * 2 ^ k + r) = bl x + k := by
  have h3 : bl x ≠ 0 := by rw [Ne, bl_eq_zero]; exact h
  obtain ⟨m, hm⟩ : ∃ m, bl x = m + 1 := ⟨bl x - 1, by omega⟩
  have a := pow_le_of_bl x m (by omega)
  have b := lt_bl x
  rw [hm] at b ⊢
  rw [show m + 1 + k = m + k + 1 from by omega]
  refine bl_uniq ?_ ?_
  · rw [Nat.pow_add]
    exact Nat.le_trans (Nat.mul_le_mul_right _ a) (by omega)
  · rw [show m + k + 1 = m + 1 + k from by omega, Nat.pow_add]
    have : (x + 1) * 2 ^ k ≤ 2 ^ (m + 1) * 2 ^ k := Nat.mul_le_mul_right _ b
    rw [Nat.add_mul] at this
    omega
/-- the digits of a canonical string -/
theorem bl_cons (b : UInt8) (l : List UInt8) (h : b ≠ 0) : bl (nvL (b :: l)) = 8 * l.length + bl b.toNat := by
  have hb : b.toNat ≠ 0 := fun e => h (UInt8.toNat_inj.1 (by simpa using e))
  rw [nvL_cons]
  have e : (256 : Nat) ^ l.length = 2 ^ (8 * l.length) := by rw [Nat.pow_mul]
  rw [e, bl_shift _ _ _ hb (by rw [← e]; exact nvL_lt l)]
  omega
theorem bitLen_bl (x : Nat) (h : x < 2 ^ 64) : Lib.bitLen x = bl x := by
  have key : ∀ (k x : Nat), x < 2 ^ k → k ≤ 64 → Lib.bitLen x = bl x := by
    intro k
    induction k with
    | zero => intro x hx _; have : x = 0 := by simpa using hx
              subst this; rfl
    | succ k ih =>
      intro x hx hk
      rcases Nat.eq_zero_or_pos x with h0 | h0
      · subst h0; rfl
      · have hx64 : x < 2 ^ 64 := Nat.lt_of_lt_of_le hx (Nat.pow_le_pow_right (by omega) hk)
        rw [Lib.bitLen_half x (by omega) hx64, bl_half x (by omega), ih (x / 2) (by rw [Nat.pow_succ] at hx; omega) (by omega)]
        omega
  exact key 64 x h (by omega)

/-- a binary digit -/
def tb (n i : Nat) : Bool := decide (n / 2 ^ i % 2 = 1)
theorem dg_bit (n i : Nat) : dg n (i / 8) / 2 ^ (i % 8) % 2 = ((n / 2 ^ i % 2 : Nat) : Int) := by
  unfold dg
  have e : n / 2 ^ i = n / 256 ^ (i / 8) / 2 ^ (i % 8) := by
    rw [Nat.div_div_eq_div_mul]
    congr 1
    rw [show (256 : Nat) = 2 ^ 8 from rfl, ← Nat.pow_mul, ← Nat.pow_add]
    congr 1; omega
  rw [e]
  generalize n / 256 ^ (i / 8) = x
  have hm : i % 8 < 8 := Nat.mod_lt _ (by omega)
  rcases (by omega : i % 8 = 0 ∨ i % 8 = 1 ∨ i % 8 = 2 ∨ i % 8 = 3 ∨ i % 8 = 4 ∨ i % 8 = 5 ∨ i % 8 = 6 ∨ i % 8 = 7) with h | h | h | h | h | h | h | h <;> rw [h] <;> simp <;> omega
theorem tb_bl (n i : Nat) (h : bl n ≤ i) : tb n i = false := by
  have := (bl_le_iff n i).1 h
  unfold tb
  rw [Nat.div_eq_of_lt this]; rfl
theorem half_bit (a i : Nat) : a / 2 ^ i = 2 * (a / 2 ^ (i + 1)) + a / 2 ^ i % 2 := by
  rw [Nat.pow_succ, ← Nat.div_div_eq_div_mul]; omega
theorem tb_val (a i : Nat) : a / 2 ^ i % 2 = if tb a i then 1 else 0 := by
  unfold tb
  by_cases h : a / 2 ^ i % 2 = 1
  · simp [h]
  · simp [h]; omega

/-- a division by one more bit -/
theorem div_bit (z b d : Nat) (hd : d ≤ 1) (hb : 0 < b) :
    (2 * (z % b) + d < b → (2 * z + d) / b = 2 * (z / b) ∧ (2 * z + d) % b = 2 * (z % b) + d) ∧
    (b ≤ 2 * (z % b) + d → (2 * z + d) / b = 2 * (z / b) + 1 ∧ (2 * z + d) % b = 2 * (z % b) + d - b) := by
  have h1 := Nat.div_add_mod z b
  have h2 := Nat.mod_lt z hb
  have e : 2 * z + d = b * (2 * (z / b)) + (2 * (z % b) + d) := by
    have : 2 * z = 2 * (b * (z / b) + z % b) := by rw [h1]
    rw [this, Nat.mul_add, Nat.mul_left_comm]; omega
  refine ⟨fun h => ?_, fun h => ?_⟩
  · rw [e, Nat.mul_add_div hb, Nat.mul_add_mod, Nat.div_eq_of_lt h, Nat.mod_eq_of_lt h]; exact ⟨by omega, rfl⟩
  · have e3 : 2 * z + d = b * (2 * (z / b) + 1) + (2 * (z % b) + d - b) := by rw [e, Nat.mul_add]; omega
    have h4 : 2 * (z % b) + d - b < b := by omega
    rw [e3, Nat.mul_add_div hb, Nat.mul_add_mod, Nat.div_eq_of_lt h4, Nat.mod_eq_of_lt h4]; exact ⟨by omega, rfl⟩

/-- a power of 2 added to a number that is a multiple of the next one: one digit changes -/
theorem dg_addp (y i j : Nat) : dg (y * 2 ^ (i + 1) + 2 ^ i) j = if j = i / 8 then dg (y * 2 ^ (i + 1)) j + 2 ^ (i % 8) else dg (y * 2 ^ (i + 1)) j := by
  have p8 : ∀ m, (256 : Nat) ^ m = 2 ^ (8 * m) := fun m => by rw [Nat.pow_mul]
  unfold dg
  rw [p8]
  by_cases h1 : 8 * j + 8 ≤ i
  · rw [if_neg (by omega)]
    obtain ⟨d, rfl⟩ : ∃ d, i = 8 * j + 8 + d := ⟨i - (8 * j + 8), by omega⟩
    have e1 : y * 2 ^ (8 * j + 8 + d + 1) + 2 ^ (8 * j + 8 + d) = 2 ^ (8 * j) * (256 * (y * 2 ^ (d + 1) + 2 ^ d)) := by
      rw [show 8 * j + 8 + d + 1 = 8 * j + (8 + (d + 1)) from by omega, show 8 * j + 8 + d = 8 * j + (8 + d) from by omega, Nat.pow_add, Nat.pow_add 2 8 (d + 1), Nat.pow_add 2 (8 * j) (8 + d), Nat.pow_add 2 8 d]
      rw [Nat.mul_add, Nat.mul_add]
      congr 1
      · rw [Nat.mul_left_comm, Nat.mul_left_comm y]
    have e2 : y * 2 ^ (8 * j + 8 + d + 1) = 2 ^ (8 * j) * (256 * (y * 2 ^ (d + 1))) := by
      rw [show 8 * j + 8 + d + 1 = 8 * j + (8 + (d + 1)) from by omega, Nat.pow_add, Nat.pow_add 2 8 (d + 1)]
      rw [Nat.mul_left_comm, Nat.mul_left_comm y]
    rw [e1, e2, Nat.mul_div_cancel_left _ (Nat.two_pow_pos _), Nat.mul_div_cancel_left _ (Nat.two_pow_pos _), Nat.mul_mod_right, Nat.mul_mod_right]
  · obtain ⟨q, r, hq, hr⟩ : ∃ q r, i = 8 * q + r ∧ r < 8 := ⟨i / 8, i % 8, by omega, by omega⟩
    have hq1 : i / 8 = q := by omega
    have hr1 : i % 8 = r := by omega
    rw [hq1, hr1]
    have e1 : y * 2 ^ (i + 1) + 2 ^ i = 2 ^ (8 * q) * (y * 2 ^ (r + 1) + 2 ^ r) := by
      rw [hq, Nat.add_assoc, Nat.pow_add, Nat.pow_add 2 (8 * q) r, Nat.mul_add, Nat.mul_left_comm]
    have e2 : y * 2 ^ (i + 1) = 2 ^ (8 * q) * (y * 2 ^ (r + 1)) := by
      rw [hq, Nat.add_assoc, Nat.pow_add, Nat.mul_left_comm]
    obtain ⟨m, rfl⟩ : ∃ m, j = q + m := ⟨j - q, by omega⟩
    have e3 : ∀ v : Nat, 2 ^ (8 * q) * v / 2 ^ (8 * (q + m)) = v / 256 ^ m := fun v => by
      rw [Nat.mul_add, Nat.pow_add, ← Nat.div_div_eq_div_mul, Nat.mul_div_cancel_left _ (Nat.two_pow_pos _), p8]
    rw [e1, e2, e3, e3]
    have hr2 : r = 0 ∨ r = 1 ∨ r = 2 ∨ r = 3 ∨ r = 4 ∨ r = 5 ∨ r = 6 ∨ r = 7 := by omega
    by_cases hm : m = 0
    · subst hm
      rw [if_pos (by omega)]
      rcases hr2 with h | h | h | h | h | h | h | h <;> subst h <;> simp <;> omega
    · rw [if_neg (by omega)]
      obtain ⟨m, rfl⟩ : ∃ k, m = k + 1 := ⟨m - 1, by omega⟩
      have e4 : ∀ v : Nat, v / 256 ^ (m + 1) = v / 256 / 256 ^ m := fun v => by rw [Nat.pow_succ, Nat.mul_comm, ← Nat.div_div_eq_div_mul]
      have e5 : (y * 2 ^ (r + 1) + 2 ^ r) / 256 = y * 2 ^ (r + 1) / 256 := by
        rcases hr2 with h | h | h | h | h | h | h | h <;> subst h <;> simp <;> omega
      rw [e4, e4, e5]
/-- .. and it fits -/
theorem dg_mulp (y i : Nat) : dg (y * 2 ^ (i + 1)) (i / 8) + 2 ^ (i % 8) ≤ 255 := by
  have h1 := dg_addp y i (i / 8)
  rw [if_pos rfl] at h1
  rw [← h1]; exact dg_le _ _
end Go.Proofs.YtdlbnioidfhhcaaGreat.Num
