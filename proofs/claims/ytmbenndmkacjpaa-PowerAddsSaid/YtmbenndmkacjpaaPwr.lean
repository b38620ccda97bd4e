/- Plain facts of layer 13: groups, elements, products of powers. No program in sight. -/
import Derived.Test.YtmbenndmkacjpaaJoin
namespace Go.Proofs.Ytmbenndmkacjpaa
namespace Num
/-- an element of a well-formed group -/
def elN (m o x : Nat) : Bool := decide (x ≠ 0 ∧ x < m) && decide (if o = 0 then Nat.gcd x m = 1 else x ^ o % m = 1)
theorem elN_iff {m o x : Nat} : elN m o x = true ↔ (x ≠ 0 ∧ x < m) ∧ (if o = 0 then Nat.gcd x m = 1 else x ^ o % m = 1) := by
  unfold elN; rw [Bool.and_eq_true, decide_eq_true_eq, decide_eq_true_eq]
theorem el_lt {m o x : Nat} (h : elN m o x = true) : x < m := (elN_iff.1 h).1.2
theorem el_pos {m o x : Nat} (h : elN m o x = true) : 0 < x := by have := (elN_iff.1 h).1.1; omega
theorem el_unit {m o x : Nat} (h : elN m o x = true) : Nat.gcd x m = 1 := by
  have h1 := (elN_iff.1 h).2
  by_cases h0 : o = 0
  · rwa [if_pos h0] at h1
  · rw [if_neg h0] at h1
    have d1 : Nat.gcd x m ∣ x ^ o := by
      obtain ⟨k, rfl⟩ : ∃ k, o = k + 1 := ⟨o - 1, by omega⟩
      rw [Nat.pow_succ]
      exact Nat.dvd_trans (Nat.gcd_dvd_left x m) (Nat.dvd_mul_left _ _)
    have d2 : Nat.gcd x m ∣ x ^ o % m := (Nat.dvd_mod_iff (Nat.gcd_dvd_right x m)).2 d1
    rw [h1] at d2
    exact Nat.dvd_one.1 d2
/-- the base of a power with a sign -/
def sb (m x : Nat) (ng : Bool) : Nat := if ng = true then invm x m else x
/-- a product of powers -/
def pr : List (Nat × Nat) → Nat
  | [] => 1
  | p :: l => p.1 ^ p.2 * pr l
theorem pr_append : ∀ (l k : List (Nat × Nat)), pr (l ++ k) = pr l * pr k
  | [], k => by simp [pr]
  | p :: l, k => by simp only [List.cons_append, pr, pr_append l k, Nat.mul_assoc]
/-- the exponents divided by a power of 2 -/
def sh (j : Nat) (l : List (Nat × Nat)) : List (Nat × Nat) := l.map fun p => (p.1, p.2 / 2 ^ j)
/-- twice the exponents divided by a power of 2 -/
def sh2 (j : Nat) (l : List (Nat × Nat)) : List (Nat × Nat) := l.map fun p => (p.1, 2 * (p.2 / 2 ^ j))
theorem pr_sh2 (j : Nat) : ∀ l : List (Nat × Nat), pr (sh2 j l) = pr (sh j l) * pr (sh j l)
  | [] => rfl
  | p :: l => by
    show p.1 ^ (2 * (p.2 / 2 ^ j)) * pr (sh2 j l) = p.1 ^ (p.2 / 2 ^ j) * pr (sh j l) * (p.1 ^ (p.2 / 2 ^ j) * pr (sh j l))
    rw [pr_sh2 j l, Nat.two_mul, Nat.pow_add]
    simp only [Nat.mul_assoc, Nat.mul_left_comm, Nat.mul_comm]
theorem pr_sh_zero {j : Nat} : ∀ {l : List (Nat × Nat)}, (∀ p ∈ l, p.2 < 2 ^ j) → pr (sh j l) = 1
  | [], _ => rfl
  | p :: l, h => by
    show p.1 ^ (p.2 / 2 ^ j) * pr (sh j l) = 1
    rw [Nat.div_eq_of_lt (h p (by simp)), pr_sh_zero fun q hq => h q (by simp [hq])]
    simp
theorem sh_0 (l : List (Nat × Nat)) : sh 0 l = l := by
  unfold sh
  simp
theorem bl_top {e : Nat} (h : blen e ≤ 128) : bl e ≤ 1024 := by
  have h1 : bl e ≤ 8 * blen e := by rw [bl_le_iff, Nat.pow_mul]; exact lt_blen e
  omega
/-- the product while bit j is under way, behind k bases -/
def mid (j k : Nat) (l : List (Nat × Nat)) : Nat := pr (sh j (l.take k)) * pr (sh2 (j + 1) (l.drop k))
theorem mid_0 (j : Nat) (l : List (Nat × Nat)) : mid j 0 l = pr (sh (j + 1) l) * pr (sh (j + 1) l) := by
  unfold mid
  rw [List.take_zero, List.drop_zero, ← pr_sh2]
  simp [sh, pr]
theorem mid_end (j : Nat) (l : List (Nat × Nat)) : mid j l.length l = pr (sh j l) := by
  unfold mid
  rw [List.take_length, List.drop_length]
  simp [sh2, pr]
theorem mid_step (j k : Nat) (l : List (Nat × Nat)) (hk : k < l.length) : mid j (k + 1) l = mid j k l * (if tb l[k].2 j = true then l[k].1 else 1) := by
  unfold mid
  have e1 : l.drop k = l[k] :: l.drop (k + 1) := List.drop_eq_getElem_cons hk
  have e2 : l.take (k + 1) = l.take k ++ [l[k]] := List.take_succ_eq_append_getElem hk
  rw [e1, e2]
  have e3 : pr (sh j (l.take k ++ [l[k]])) = pr (sh j (l.take k)) * l[k].1 ^ (l[k].2 / 2 ^ j) := by
    unfold sh; rw [List.map_append, pr_append]; simp [pr]
  have e4 : pr (sh2 (j + 1) (l[k] :: l.drop (k + 1))) = l[k].1 ^ (2 * (l[k].2 / 2 ^ (j + 1))) * pr (sh2 (j + 1) (l.drop (k + 1))) := rfl
  rw [e3, e4]
  have hb := half_bit l[k].2 j
  rw [tb_val] at hb
  cases ht : tb l[k].2 j
  · rw [ht] at hb
    have : l[k].2 / 2 ^ j = 2 * (l[k].2 / 2 ^ (j + 1)) := by simpa using hb
    rw [this]
    simp [Nat.mul_assoc]
  · rw [ht] at hb
    have : l[k].2 / 2 ^ j = 2 * (l[k].2 / 2 ^ (j + 1)) + 1 := by simpa using hb
    rw [this, Nat.pow_succ]
    simp only [if_true]
    simp only [Nat.mul_left_comm, Nat.mul_comm]
end Num
end Go.Proofs.Ytmbenndmkacjpaa
