/- Trial division yields the prime factors, ascending; their product is the number. -/
import Derived.Test.YtjminjliomffaaaDoorFac
namespace Go.Proofs.YtjminjliomffaaaDoor
namespace Num
def lprod : List Nat → Nat
  | [] => 1
  | a :: l => a * lprod l
theorem lprod_append : ∀ l m : List Nat, lprod (l ++ m) = lprod l * lprod m
  | [], m => by simp [lprod]
  | a :: l, m => by rw [List.cons_append, lprod, lprod, lprod_append l m, Nat.mul_assoc]
theorem lprod_take (l : List Nat) (k : Nat) : lprod (l.take k) * lprod (l.drop k) = lprod l := by
  rw [← lprod_append, List.take_append_drop]
theorem Fac.good : ∀ {b : Bool} {n p : Nat} {l : List Nat}, Fac b n p l → 1 ≤ n → 2 ≤ p → (∀ d, 2 ≤ d → d ∣ n → p ≤ d) →
    (∀ x ∈ l, IsP x ∧ p ≤ x) ∧ l.Pairwise (· ≤ ·) ∧ lprod l = n := by
  intro b n p l h
  induction h with
  | enter h _ ih => exact ih
  | last h h1n =>
    rename_i n p
    intro h1 h2 hd
    refine ⟨fun x hx => ?_, by simp, by simp [lprod]⟩
    obtain rfl : x = n := by simpa using hx
    refine ⟨⟨by omega, fun d hdn => ?_⟩, hd x (by omega) (Nat.dvd_refl x)⟩
    obtain ⟨e, he⟩ := hdn
    by_cases hd1 : d = 1
    · exact .inl hd1
    · right
      have hd0 : d ≠ 0 := by rintro rfl; simp at he; omega
      have he0 : e ≠ 0 := by rintro rfl; simp at he; omega
      by_cases he1 : e = 1
      · rw [he, he1, Nat.mul_one]
      · exfalso
        have k1 := hd d (by omega) ⟨e, he⟩
        have k2 := hd e (by omega) ⟨d, by rw [he, Nat.mul_comm]⟩
        have := Nat.mul_le_mul k1 k2
        omega
  | one h h1n =>
    intro h1 h2 hd
    exact ⟨by simp, by simp, by simp [lprod]; omega⟩
  | div h _ ih =>
    rename_i n p l _
    intro h1 h2 hd
    have hpd : p ∣ n := Nat.dvd_of_mod_eq_zero h
    have hpn : p ≤ n := Nat.le_of_dvd (by omega) hpd
    have hd1 : 1 ≤ n / p := (Nat.le_div_iff_mul_le (by omega)).2 (by omega)
    have hq : n = n / p * p := (Nat.div_mul_cancel hpd).symm
    obtain ⟨i1, i2, i3⟩ := ih hd1 h2 (fun d h2d hdn => hd d h2d (Nat.dvd_trans hdn ⟨p, hq⟩))
    refine ⟨fun x hx => ?_, List.pairwise_cons.2 ⟨fun x hx => (i1 x hx).2, i2⟩, by rw [lprod, i3, Nat.mul_comm]; exact hq.symm⟩
    rcases List.mem_cons.1 hx with rfl | hx
    · refine ⟨⟨h2, fun d hdx => ?_⟩, Nat.le_refl _⟩
      by_cases hd1 : d = 1
      · exact .inl hd1
      · have hd0 : d ≠ 0 := by rintro rfl; have := Nat.eq_zero_of_zero_dvd hdx; omega
        have k1 := hd d (by omega) (Nat.dvd_trans hdx hpd)
        have k2 := Nat.le_of_dvd (by omega) hdx
        right; omega
    · exact i1 x hx
  | next h _ ih =>
    rename_i n p l _
    intro h1 h2 hd
    obtain ⟨i1, i2, i3⟩ := ih h1 (by omega) (fun d h2d hdn => by
      have := hd d h2d hdn
      rcases Nat.lt_or_ge p d with h' | h'
      · exact h'
      · obtain rfl : d = p := by omega
        exact absurd (Nat.mod_eq_zero_of_dvd hdn) h)
    exact ⟨fun x hx => ⟨(i1 x hx).1, by have := (i1 x hx).2; omega⟩, i2, i3⟩
end Num
end Go.Proofs.YtjminjliomffaaaDoor
