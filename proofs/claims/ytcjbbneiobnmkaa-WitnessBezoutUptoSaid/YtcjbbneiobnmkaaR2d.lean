/- The reference of layer 2: Mod, Extended. -/
import Derived.Test.YtcjbbneiobnmkaaR2b
namespace Go.Proofs.Ytcjbbneiobnmkaa
open Go.RowKit Num
set_option maxRecDepth 20000
set_option linter.unusedVariables false
namespace Num
theorem dm_mod {z q : Int} {m r : Nat} (h : z = q * m + r) (hr : r < m) : (z % (m : Int)).toNat = r := by
  rw [h, Int.add_comm, Int.add_mul_emod_self_right, Int.emod_eq_of_lt (by omega) (by omega)]
  rfl
theorem ext_q {b g m rr : Nat} {x q : Int} (hm : b = g * m) (hx : x.natAbs ≤ b) (hq : x = q * m + rr) (hr : rr < m) : q.natAbs ≤ g := by
  have hm' : (b : Int) = g * m := by rw [hm]; push_cast; rfl
  have hmp : (0 : Int) < m := by omega
  rcases Int.lt_or_le (g : Int) q with h | h
  · exfalso
    have h1 : ((g : Int) + 1) * m ≤ q * m := Int.mul_le_mul_of_nonneg_right (by omega) (by omega)
    rw [Int.add_mul] at h1
    omega
  · rcases Int.lt_or_le q (-(g : Int)) with h2 | h2
    · exfalso
      have h1 : q * m ≤ (-(g : Int) - 1) * m := Int.mul_le_mul_of_nonneg_right (by omega) (by omega)
      rw [Int.sub_mul, Int.neg_mul] at h1
      omega
    · omega
theorem ext_eq {a b g m k rr x y q : Int} (hm : b = g * m) (hk : a = g * k) (h : a * x + b * y = g) (hq : x = q * m + rr) : a * rr + b * (y + q * k) = g := by
  subst hm hk hq
  grind
theorem ext_y {a b g rr : Nat} {y : Int} (h0 : 0 < b) (hg : g ≤ b) (h : (a : Int) * rr + b * y = g) (hr : rr < b) : y.natAbs ≤ max a 1 := by
  have h3 : (a : Int) * rr ≤ a * (b - 1) := Int.mul_le_mul_of_nonneg_left (by omega) (by omega)
  rw [Int.mul_sub] at h3
  have h5 : (0 : Int) ≤ a * rr := Int.mul_nonneg (by omega) (by omega)
  rcases Int.lt_or_le 1 y with h1 | h1
  · exfalso
    have h2 : (b : Int) * 2 ≤ b * y := Int.mul_le_mul_of_nonneg_left (by omega) (by omega)
    omega
  · rcases Int.lt_or_le y (-(a : Int)) with h2 | h2
    · exfalso
      have h4 : (b : Int) * y ≤ b * (-(a : Int) - 1) := Int.mul_le_mul_of_nonneg_left (by omega) (by omega)
      rw [Int.mul_sub, Int.mul_neg, Int.mul_comm (b : Int) a] at h4
      omega
    · omega
theorem ext_fin {a b : Nat} {x y q : Int} {rr : Nat} (h0 : 0 < b) (h : (a : Int) * x + b * y = (Nat.gcd a b : Nat)) (hx : x.natAbs ≤ max 1 b) (hq : x = q * ((b / Nat.gcd a b : Nat) : Int) + rr) (hr : rr < b / Nat.gcd a b) :
    (a : Int) * rr + b * (y + q * ((a / Nat.gcd a b : Nat) : Int)) = (Nat.gcd a b : Nat) ∧ (y + q * ((a / Nat.gcd a b : Nat) : Int)).natAbs ≤ max a 1 ∧ (q * ((a / Nat.gcd a b : Nat) : Int)).natAbs ≤ a := by
  have hm : b = Nat.gcd a b * (b / Nat.gcd a b) := (Nat.mul_div_cancel' (Nat.gcd_dvd_right a b)).symm
  have hk : a = Nat.gcd a b * (a / Nat.gcd a b) := (Nat.mul_div_cancel' (Nat.gcd_dvd_left a b)).symm
  have hgb : Nat.gcd a b ≤ b := Nat.le_of_dvd h0 (Nat.gcd_dvd_right a b)
  have hmb : b / Nat.gcd a b ≤ b := Nat.div_le_self _ _
  generalize Nat.gcd a b = g at *
  generalize b / g = m at *
  generalize a / g = k at *
  have hm' : (b : Int) = g * m := by conv => lhs; rw [hm]
                                     push_cast; rfl
  have hk' : (a : Int) = g * k := by conv => lhs; rw [hk]
                                     push_cast; rfl
  have h1 := ext_eq (a := a) (b := b) (g := g) (m := m) (k := k) (rr := rr) hm' hk' h hq
  refine ⟨h1, ext_y h0 hgb h1 (by omega), ?_⟩
  have h2 := ext_q hm (by omega) hq hr
  rw [Int.natAbs_mul, Int.natAbs_natCast]
  calc q.natAbs * k ≤ g * k := Nat.mul_le_mul_right _ h2
    _ = a := hk.symm
end Num
end Go.Proofs.Ytcjbbneiobnmkaa
