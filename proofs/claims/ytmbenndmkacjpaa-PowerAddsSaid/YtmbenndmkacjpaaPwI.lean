/- Plain facts: elements are closed under products, powers and inverses; products of powers in the reverse order. -/
import Derived.Test.YtmbenndmkacjpaaPwr
namespace Go.Proofs.Ytmbenndmkacjpaa
namespace Num
theorem inv_unit {a m : Nat} (hm : 0 < m) (h : Nat.gcd a m = 1) : Nat.gcd (invm a m) m = 1 := by
  obtain ⟨h1, h2⟩ := invm_ok hm h
  have hd : Nat.gcd (invm a m) m ∣ a * invm a m := Nat.dvd_trans (Nat.gcd_dvd_left _ _) (Nat.dvd_mul_left _ _)
  have hm' := Nat.gcd_dvd_right (invm a m) m
  have h3 : Nat.gcd (invm a m) m ∣ a * invm a m % m := (Nat.dvd_mod_iff hm').2 hd
  rw [h2] at h3
  have h4 : Nat.gcd (invm a m) m ∣ 1 := (Nat.dvd_mod_iff hm').1 h3
  exact Nat.dvd_one.1 h4
theorem unit_ne {x m : Nat} (h2 : 2 ≤ m) (h : Nat.gcd x m = 1) : x ≠ 0 := by
  rintro rfl
  rw [Nat.gcd_zero_left] at h; omega
theorem el_one {m o : Nat} (h : 2 ≤ m) : elN m o 1 = true := by
  rw [elN_iff]
  refine ⟨⟨by omega, by omega⟩, ?_⟩
  by_cases h0 : o = 0
  · rw [if_pos h0]; simp
  · rw [if_neg h0, Nat.one_pow, Nat.mod_eq_of_lt (by omega)]
theorem el_mul {m o x y : Nat} (h : 2 ≤ m) (hx : elN m o x = true) (hy : elN m o y = true) : elN m o (x * y % m) = true := by
  have ux := el_unit hx
  have uy := el_unit hy
  have uz : Nat.gcd (x * y % m) m = 1 := by rw [gcd_mod_left]; exact Nat.Coprime.mul_left ux uy
  rw [elN_iff] at hx hy ⊢
  refine ⟨⟨unit_ne h uz, Nat.mod_lt _ (by omega)⟩, ?_⟩
  by_cases h0 : o = 0
  · rw [if_pos h0]; exact uz
  · have a := hx.2
    have b := hy.2
    rw [if_neg h0] at a b ⊢
    rw [← Nat.pow_mod, Nat.mul_pow, Nat.mul_mod, a, b, Nat.mul_one, Nat.mod_eq_of_lt (by omega)]
theorem el_pow {m o x : Nat} (h : 2 ≤ m) (hx : elN m o x = true) : ∀ e : Nat, elN m o (x ^ e % m) = true
  | 0 => by rw [Nat.pow_zero, Nat.mod_eq_of_lt (by omega)]; exact el_one h
  | e + 1 => by
    have := el_mul h (el_pow h hx e) hx
    rw [Nat.mod_mul_mod] at this
    rw [Nat.pow_succ]; exact this
theorem el_inv {m o x : Nat} (h : 2 ≤ m) (hx : elN m o x = true) : elN m o (invm x m) = true := by
  have ux := el_unit hx
  obtain ⟨i1, i2⟩ := invm_ok (by omega) ux
  have uz := inv_unit (by omega) ux
  rw [elN_iff] at hx ⊢
  refine ⟨⟨unit_ne h uz, i1⟩, ?_⟩
  by_cases h0 : o = 0
  · rw [if_pos h0]; exact uz
  · have a := hx.2
    rw [if_neg h0] at a ⊢
    have e1 : (x * invm x m) ^ o % m = 1 := by
      rw [Nat.pow_mod, i2, Nat.mod_eq_of_lt (show 1 < m by omega), Nat.one_pow, Nat.mod_eq_of_lt (by omega)]
    rw [Nat.mul_pow, Nat.mul_mod, a, Nat.one_mul, Nat.mod_mod] at e1
    exact e1
theorem el_sb {m o x : Nat} (h : 2 ≤ m) (hx : elN m o x = true) (ng : Bool) : elN m o (sb m x ng) = true := by
  unfold sb
  split
  · exact el_inv h hx
  · exact hx
theorem el_pr {m o : Nat} (h : 2 ≤ m) : ∀ {L : List (Nat × Nat)}, (∀ p ∈ L, elN m o p.1 = true) → elN m o (pr L % m) = true
  | [], _ => by show elN m o (1 % m) = true; rw [Nat.mod_eq_of_lt (by omega)]; exact el_one h
  | p :: L, hp => by
    have a := el_pow h (hp p (by simp)) p.2
    have b := el_pr h (L := L) fun q hq => hp q (by simp [hq])
    have := el_mul h a b
    rw [← Nat.mul_mod] at this
    exact this
theorem pr_reverse (L : List (Nat × Nat)) : pr L.reverse = pr L := by
  induction L with
  | nil => rfl
  | cons p L ih =>
    rw [List.reverse_cons, pr_append, ih]
    show pr L * (p.1 ^ p.2 * 1) = p.1 ^ p.2 * pr L
    rw [Nat.mul_one, Nat.mul_comm]
theorem pr_take_succ (L : List (Nat × Nat)) (k : Nat) (hk : k < L.length) : pr (L.take (k + 1)) = pr (L.take k) * L[k].1 ^ L[k].2 := by
  rw [List.take_succ_eq_append_getElem hk, pr_append]
  simp [pr]
end Num
end Go.Proofs.Ytmbenndmkacjpaa
