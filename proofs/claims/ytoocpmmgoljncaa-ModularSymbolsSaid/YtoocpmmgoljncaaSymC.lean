/- Plain facts: the Jacobi symbol by reciprocity is the product of the Legendre symbols. No program in sight but jac's definition. -/
import Derived.Test.YtoocpmmgoljncaaSymB
import Derived.Test.YtoocpmmgoljncaaJac
namespace Go.Proofs.Ytoocpmmgoljncaa
namespace Num
def lpr (l : List Nat) : Nat := l.foldr (· * ·) 1
theorem lpr_nil : lpr [] = 1 := rfl
theorem lpr_cons (p : Nat) (l : List Nat) : lpr (p :: l) = p * lpr l := rfl
/-- the product of the Legendre symbols -/
def JJ (a : Nat) (l : List Nat) : Int := l.foldr (fun p x => lg a p * x) 1
theorem JJ_nil (a : Nat) : JJ a [] = 1 := rfl
theorem JJ_cons (a p : Nat) (l : List Nat) : JJ a (p :: l) = lg a p * JJ a l := rfl
def AllP (l : List Nat) : Prop := ∀ p ∈ l, SP p
theorem AllP.tail {p : Nat} {l : List Nat} (h : AllP (p :: l)) : AllP l := fun q hq => h q (List.mem_cons_of_mem _ hq)
theorem AllP.head {p : Nat} {l : List Nat} (h : AllP (p :: l)) : SP p := h p (by simp)
theorem AllP.odd : ∀ {l : List Nat}, AllP l → lpr l % 2 = 1
  | [], _ => rfl
  | p :: l, h => by
    have h1 := h.head.o
    have h2 := h.tail.odd
    rw [lpr_cons, Nat.mul_mod, h1, h2]
theorem JJ_mul : ∀ {l : List Nat}, AllP l → ∀ a b, JJ (a * b) l = JJ a l * JJ b l
  | [], _, a, b => by simp [JJ_nil]
  | p :: l, h, a, b => by
    rw [JJ_cons, JJ_cons, JJ_cons, JJ_mul h.tail, h.head.lg_mul, Int.mul_assoc, Int.mul_assoc, Int.mul_left_comm (lg b p)]
theorem JJ_mod {m : Nat} : ∀ {l : List Nat}, (∀ p ∈ l, p ∣ m) → ∀ a, JJ (a % m) l = JJ a l
  | [], _, a => rfl
  | p :: l, h, a => by
    rw [JJ_cons, JJ_cons, JJ_mod (fun q hq => h q (List.mem_cons_of_mem _ hq))]
    rw [← lg_mod (a % m), Nat.mod_mod_of_dvd _ (h p (by simp)), lg_mod]
theorem dvd_lpr : ∀ {l : List Nat}, ∀ p ∈ l, p ∣ lpr l
  | q :: l, p, h => by
    rw [lpr_cons]
    rcases List.mem_cons.1 h with e | e
    · subst e; exact Nat.dvd_mul_right _ _
    · exact Nat.dvd_trans (dvd_lpr p e) (Nat.dvd_mul_left _ _)
def chi (n : Nat) : Int := if n % 8 = 3 ∨ n % 8 = 5 then -1 else 1
theorem chi_mul {a b : Nat} (ha : a % 2 = 1) (hb : b % 2 = 1) : chi (a * b) = chi a * chi b := by
  unfold chi
  rw [Nat.mul_mod]
  have h1 : a % 8 = 1 ∨ a % 8 = 3 ∨ a % 8 = 5 ∨ a % 8 = 7 := by omega
  have h2 : b % 8 = 1 ∨ b % 8 = 3 ∨ b % 8 = 5 ∨ b % 8 = 7 := by omega
  rcases h1 with h1 | h1 | h1 | h1 <;> rcases h2 with h2 | h2 | h2 | h2 <;> rw [h1, h2] <;> decide
theorem JJ_two : ∀ {l : List Nat}, AllP l → JJ 2 l = chi (lpr l)
  | [], _ => rfl
  | p :: l, h => by
    rw [JJ_cons, JJ_two h.tail, lpr_cons, chi_mul h.head.o h.tail.odd, h.head.lg_two]; rfl
theorem sgn_mul_left {a b m : Nat} (ha : a % 2 = 1) (hb : b % 2 = 1) : sgn (a * b) m = sgn a m * sgn b m := by
  unfold sgn
  rw [Nat.mul_mod]
  have h1 : a % 4 = 1 ∨ a % 4 = 3 := by omega
  have h2 : b % 4 = 1 ∨ b % 4 = 3 := by omega
  by_cases h3 : m % 4 = 3 <;> rcases h1 with h1 | h1 <;> rcases h2 with h2 | h2 <;> rw [h1, h2] <;> simp [h3]
theorem sgn_comm (a m : Nat) : sgn a m = sgn m a := by unfold sgn; simp only [And.comm]
theorem sgn_one (m : Nat) : sgn 1 m = 1 := by unfold sgn; simp
theorem JJ_prime {q : Nat} (k : SP q) : ∀ {l : List Nat}, AllP l → JJ q l = sgn q (lpr l) * lg (lpr l) q
  | [], _ => by
    have h3 := k.ge
    rw [JJ_nil, lpr_nil, sgn_comm, sgn_one]
    have : lg 1 q = 1 := by
      have h1 : (1 : Nat) % q ≠ 0 := by rw [Nat.mod_eq_of_lt (by omega)]; omega
      rw [k.lg_ev h1]
      unfold ev; rw [Nat.one_pow, Nat.mod_eq_of_lt (by omega)]; rfl
    rw [this]; rfl
  | p :: l, h => by
    rw [JJ_cons, JJ_prime k h.tail, lpr_cons, h.head.lg_rec k, k.lg_mul, sgn_comm q (p * lpr l), sgn_mul_left h.head.o h.tail.odd, sgn_comm p q, sgn_comm (lpr l) q]
    rw [Int.mul_assoc, Int.mul_assoc, Int.mul_left_comm (lg p q)]
theorem JJ_one : ∀ {l : List Nat}, AllP l → JJ 1 l = 1
  | [], _ => rfl
  | p :: l, h => by
    rw [JJ_cons, JJ_one h.tail, Int.mul_one]
    have h3 := h.head.ge
    have h1 : (1 : Nat) % p ≠ 0 := by rw [Nat.mod_eq_of_lt (by omega)]; omega
    rw [h.head.lg_ev h1]
    unfold ev; rw [Nat.one_pow, Nat.mod_eq_of_lt (by omega)]; rfl
theorem JJ_rec {lm : List Nat} (hm : AllP lm) : ∀ {la : List Nat}, AllP la → JJ (lpr la) lm = sgn (lpr la) (lpr lm) * JJ (lpr lm) la
  | [], _ => by rw [lpr_nil, JJ_one hm, sgn_one, JJ_nil]; rfl
  | q :: la, h => by
    rw [lpr_cons, JJ_mul hm, JJ_rec hm h.tail, JJ_prime h.head hm, JJ_cons, sgn_mul_left h.head.o h.tail.odd]
    rw [Int.mul_assoc, Int.mul_assoc, Int.mul_left_comm (lg (lpr lm) q)]
theorem prime_div : ∀ n : Nat, 2 ≤ n → ∃ p, IsP p ∧ p ∣ n := by
  intro n
  induction n using Nat.strongRecOn with
  | _ n ih =>
    intro h
    by_cases hp : IsP n
    · exact ⟨n, hp, Nat.dvd_refl n⟩
    · have : ∃ d, d ∣ n ∧ d ≠ 1 ∧ d ≠ n := by
        apply Classical.byContradiction
        intro hn
        apply hp
        refine ⟨h, fun d hd => ?_⟩
        apply Classical.byContradiction
        intro h2
        exact hn ⟨d, hd, fun e => h2 (.inl e), fun e => h2 (.inr e)⟩
      obtain ⟨d, hd, h1, h2⟩ := this
      have hle := Nat.le_of_dvd (by omega) hd
      have h0 : d ≠ 0 := fun e => by rw [e, Nat.zero_dvd] at hd; omega
      obtain ⟨p, hp1, hp2⟩ := ih d (by omega) (by omega)
      exact ⟨p, hp1, Nat.dvd_trans hp2 hd⟩
theorem odd_factors : ∀ n : Nat, n % 2 = 1 → n < 4000 → ∃ l, AllP l ∧ lpr l = n := by
  intro n
  induction n using Nat.strongRecOn with
  | _ n ih =>
    intro h hl
    by_cases h1 : n = 1
    · exact ⟨[], fun p hp => by simp at hp, by rw [h1]; rfl⟩
    · obtain ⟨p, hp, hd⟩ := prime_div n (by omega)
      obtain ⟨c, rfl⟩ := hd
      have hp2 := hp.1
      have ho : p % 2 = 1 ∧ c % 2 = 1 := by
        rcases Nat.mod_two_eq_zero_or_one p with e | e <;> rcases Nat.mod_two_eq_zero_or_one c with e2 | e2 <;> rw [Nat.mul_mod, e, e2] at h <;> simp_all
      have hc0 : 0 < c := by rcases Nat.eq_zero_or_pos c with e | e; rw [e] at ho; omega; exact e
      have hc : c < p * c := by
        have := Nat.mul_le_mul_right c hp2
        omega
      obtain ⟨l, hl1, hl2⟩ := ih c hc ho.2 (by omega)
      have hpl : p ≤ p * c := Nat.le_mul_of_pos_right p hc0
      refine ⟨p :: l, ?_, by rw [lpr_cons, hl2]⟩
      intro q hq
      rcases List.mem_cons.1 hq with e | e
      · subst e; exact ⟨hp, ho.1, by omega⟩
      · exact hl1 q e
theorem jac_JJ : ∀ (a m : Nat) (s : Int) (lm : List Nat), a < 4000 → AllP lm → lpr lm = m → jac a m s = s * JJ a lm := by
  intro a
  induction a using Nat.strongRecOn with
  | _ a ih =>
    intro m s lm hl hm hlm
    by_cases h0 : a = 0
    · subst h0
      rw [jac_zero]
      cases lm with
      | nil => rw [← hlm]; simp [lpr_nil, JJ_nil]
      | cons p t =>
        have h3 := hm.head.ge
        have h4 : 0 < lpr t := by have := hm.tail.odd; omega
        have : m ≠ 1 := by
          rw [← hlm, lpr_cons]
          have := Nat.le_mul_of_pos_right p h4
          omega
        rw [if_neg this, JJ_cons]
        unfold lg
        rw [if_pos (Nat.zero_mod p), Int.zero_mul, Int.mul_zero]
    · by_cases h2 : a % 2 = 0
      · rw [jac_even m s h0 h2, ih (a / 2) (by omega) m _ lm (by omega) hm hlm]
        have e : a = 2 * (a / 2) := by omega
        have hj : JJ a lm = chi m * JJ (a / 2) lm := by
          conv => lhs; rw [e]
          rw [JJ_mul hm, JJ_two hm, hlm]
        rw [hj]
        unfold chi
        split
        · rw [Int.neg_mul, Int.neg_mul, Int.one_mul, Int.mul_neg]
        · rw [Int.one_mul]
      · obtain ⟨la, ha, hla⟩ := odd_factors a (by omega) hl
        have hlt := Nat.mod_lt m (show 0 < a by omega)
        rw [jac_odd m s (by omega), ih (m % a) hlt a _ la (by omega) ha hla]
        have hj : JJ a lm = sgn a m * JJ (m % a) la := by
          rw [JJ_mod (fun p hp => by rw [← hla]; exact dvd_lpr p hp), ← hla, JJ_rec hm ha, hla, hlm]
        rw [hj]
        unfold sgn
        split
        · rw [Int.neg_mul, Int.neg_mul, Int.one_mul, Int.mul_neg]
        · rw [Int.one_mul]
end Num
end Go.Proofs.Ytoocpmmgoljncaa
