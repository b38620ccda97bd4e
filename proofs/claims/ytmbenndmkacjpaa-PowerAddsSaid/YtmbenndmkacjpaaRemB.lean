/- Contracts of the package modular: remainder, the long division by words. -/
import Derived.Test.YtmbenndmkacjpaaRemA
import Derived.Deep.CutBlock
import Derived.Deep.Cut
import Derived.Deep.DeepCutAuto
namespace Go.Proofs.Ytmbenndmkacjpaa
open Go.RowKit Num
set_option maxRecDepth 20000
set_option linter.unusedVariables false

namespace Num
theorem updd (f : Nat → Int) (i : Nat) (u v : Int) : upd (upd f i u) i v = upd f i v := by
  funext k; unfold upd; split <;> rfl
theorem WInv.kn' {a b n la j : Nat} {R D : Nat → Int} (hn2 : 2 ≤ n) (h : WInv a b n la (j + 1) R) (hb : (b : Int) = ds 4294967296 D 0 n) (hD : ∀ m, 0 ≤ D m ∧ D m ≤ 4294967295) (hn : 1 ≤ D (n - 1)) :
    Kn ((a / 4294967296 ^ j % 4294967296 + 4294967296 * (a / 4294967296 ^ (j + 1) % b) : Nat) : Int) b (D (n - 1)) (D (n - 2)) (R (j + n)) (R (j + n - 1)) (R (j + n - 2)) (ds 4294967296 D 0 (n - 2)) (ds 4294967296 R j (n - 2)) (4294967296 ^ (n - 2)) := by
  obtain ⟨m, rfl⟩ : ∃ m, n = m + 2 := ⟨n - 2, by omega⟩
  exact h.kn hb hD hn
theorem WMid.fin0 {a b n la j : Nat} {R : Nat → Int} {g t : Int} (h : WMid a b n la j R g t) (hbp : 0 < b) (hbn : b ≤ 4294967296 ^ n) (ht : 0 ≤ t) : WInv a b n la j (Num.upd R (j + n) (t % 4294967296)) := by
  obtain ⟨h1, h2⟩ := h.done hbp hbn (h.quot ht)
  rw [h2]; exact h1
theorem WMid.fin1 {a b n la j : Nat} {R R2 D : Nat → Int} {g t c : Int} (h : WMid a b n la j R g t) (hb : (b : Int) = ds 4294967296 D 0 n) (hbp : 0 < b) (hbn : b ≤ 4294967296 ^ n) (ht : t < 0)
    (ha : AddW (Num.upd R (j + n) (t % 4294967296)) R2 D j n c) : c = 1 ∧ R2 (j + n) = 4294967295 ∧ WInv a b n la j (Num.upd R2 (j + n) 0) := by
  have h1 := (h.upd (v := t % 4294967296) (by omega)).back ha hb hbp ht
  obtain ⟨h2, h3⟩ := h1.done hbp hbn h.ge
  have c0 := ha.c0; have c1 := ha.c1
  have e := ha.out (j + n) (by omega)
  rw [upd_same] at e
  exact ⟨by omega, by rw [e]; omega, h2⟩
theorem u64_and32 (n : Int) : bits .and .u64 n 4294967295 = n % 4294967296 := by
  have h255 : (BitVec.ofInt 64 4294967295).toNat = 2 ^ 32 - 1 := by decide
  have key : (BitVec.ofInt 64 n &&& BitVec.ofInt 64 4294967295).toNat = (n % ((2 ^ 64 : Nat) : Int)).toNat % 2 ^ 32 := by
    rw [BitVec.toNat_and, BitVec.toNat_ofInt, h255, Nat.and_two_pow_sub_one_eq_mod]
  show IntKind.u64.wrap ((BitVec.ofInt 64 n &&& BitVec.ofInt 64 4294967295).toNat : Nat) = n % 4294967296
  rw [key, IntKind.wrap_u64]
  omega
/-- the modulus, scaled -/
structure Scl (M s n : Nat) : Prop where
  lt : M * 2 ^ s < 4294967296 ^ n
  pos : 0 < M * 2 ^ s
  ds : ((M * 2 ^ s : Nat) : Int) = ds 4294967296 (wd (M * 2 ^ s)) 0 n
  top : 1 ≤ wd (M * 2 ^ s) (n - 1)
theorem Scl.mk' {M s n : Nat} (hn : 1 ≤ n) (h0 : 0 < M) (hM : M < 4294967296 ^ n) (hl : 4294967296 ^ (n - 1) ≤ M) (hu : M / 4294967296 ^ (n - 1) * 2 ^ s < 4294967296) (hs : s ≤ 31) : Scl M s n := by
  have hp : 0 < 4294967296 ^ (n - 1) := Nat.pow_pos (by omega)
  have hpn : 4294967296 * 4294967296 ^ (n - 1) = 4294967296 ^ n := by rw [Nat.mul_comm, ← Nat.pow_succ]; congr 1; omega
  have hlt : M * 2 ^ s < 4294967296 ^ n := by
    have h1 := Nat.div_add_mod M (4294967296 ^ (n - 1))
    have h2 := Nat.mod_lt M hp
    have h3 : (M / 4294967296 ^ (n - 1) + 1) * 2 ^ s ≤ 4294967296 := by
      generalize M / 4294967296 ^ (n - 1) = x at hu ⊢
      rcases (by omega : s = 0 ∨ s = 1 ∨ s = 2 ∨ s = 3 ∨ s = 4 ∨ s = 5 ∨ s = 6 ∨ s = 7 ∨ s = 8 ∨ s = 9 ∨ s = 10 ∨ s = 11 ∨ s = 12 ∨ s = 13 ∨ s = 14 ∨ s = 15 ∨ s = 16 ∨ s = 17 ∨ s = 18 ∨ s = 19 ∨ s = 20 ∨ s = 21 ∨ s = 22 ∨ s = 23 ∨ s = 24 ∨ s = 25 ∨ s = 26 ∨ s = 27 ∨ s = 28 ∨ s = 29 ∨ s = 30 ∨ s = 31) with
        h | h | h | h | h | h | h | h | h | h | h | h | h | h | h | h | h | h | h | h | h | h | h | h | h | h | h | h | h | h | h | h <;> subst h <;> simp at * <;> omega
    have h4 : M < (M / 4294967296 ^ (n - 1) + 1) * 4294967296 ^ (n - 1) := by
      rw [Nat.add_mul, Nat.mul_comm (M / 4294967296 ^ (n - 1))]; omega
    have h5 : M * 2 ^ s < (M / 4294967296 ^ (n - 1) + 1) * 4294967296 ^ (n - 1) * 2 ^ s := (Nat.mul_lt_mul_right (Nat.two_pow_pos s)).2 h4
    have h6 : (M / 4294967296 ^ (n - 1) + 1) * 4294967296 ^ (n - 1) * 2 ^ s ≤ 4294967296 ^ n := by
      rw [Nat.mul_right_comm, ← hpn]
      exact Nat.mul_le_mul_right _ h3
    omega
  refine ⟨hlt, Nat.mul_pos h0 (Nat.two_pow_pos s), ?_, ?_⟩
  · rw [ds_wd, Nat.pow_zero, Nat.div_one, Nat.mod_eq_of_lt hlt]
  · have h1 : 1 ≤ M * 2 ^ s / 4294967296 ^ (n - 1) := by
      rw [Nat.le_div_iff_mul_le hp, Nat.one_mul]
      exact Nat.le_trans hl (Nat.le_mul_of_pos_right _ (Nat.two_pow_pos s))
    have h2 : M * 2 ^ s / 4294967296 ^ (n - 1) < 4294967296 := by
      rw [Nat.div_lt_iff_lt_mul hp, hpn]; exact hlt
    unfold wd
    rw [Nat.mod_eq_of_lt h2]
    omega
theorem winv_start {A M s n la : Nat} (hn : 1 ≤ n) (hA : A < 4294967296 ^ la) (hl : 4294967296 ^ (n - 1) ≤ M) (hla : n ≤ la) (h : Scl M s n) : WInv (A * 2 ^ s) (M * 2 ^ s) n la (la - n + 1) (wd (A * 2 ^ s)) := by
  refine WInv.start (by omega) ?_ (Nat.le_of_lt h.lt)
  rw [Nat.div_lt_iff_lt_mul (Nat.pow_pos (by omega))]
  have h1 : A * 2 ^ s < 4294967296 ^ la * 2 ^ s := (Nat.mul_lt_mul_right (Nat.two_pow_pos s)).2 hA
  have h2 : 4294967296 ^ la * 2 ^ s = 4294967296 ^ (n - 1) * 2 ^ s * 4294967296 ^ (la - n + 1) := by
    rw [Nat.mul_right_comm, ← Nat.pow_add]; congr 2; omega
  have h3 : 4294967296 ^ (n - 1) * 2 ^ s * 4294967296 ^ (la - n + 1) ≤ M * 2 ^ s * 4294967296 ^ (la - n + 1) := Nat.mul_le_mul_right _ (Nat.mul_le_mul_right _ hl)
  omega
theorem winv_end {A M s n la : Nat} {R : Nat → Int} (h0 : 0 < M) (h : Scl M s n) (hw : WInv (A * 2 ^ s) (M * 2 ^ s) n la 0 R) : (∀ k, k < n → R k = wd (A % M * 2 ^ s) k) ∧ wd (A % M * 2 ^ s) n = 0 := by
  have e : A * 2 ^ s / 4294967296 ^ 0 % (M * 2 ^ s) = A % M * 2 ^ s := by rw [Nat.pow_zero, Nat.div_one, Nat.mul_mod_mul_right]
  have hh := hw.hi
  rw [e] at hh
  refine ⟨fun k hk => ds_word (fun m _ => hw.dig m) hh k hk, ?_⟩
  have h1 : A % M * 2 ^ s < M * 2 ^ s := (Nat.mul_lt_mul_right (Nat.two_pow_pos s)).2 (Nat.mod_lt A h0)
  have := h.lt
  unfold wd
  rw [Nat.div_eq_of_lt (by omega)]; rfl
/-- the parts of a word of the remainder, scaled back -/
theorem back_parts (s : Nat) (h1 : 1 ≤ s) (hs : s ≤ 31) (u v : Int) (hu : 0 ≤ u ∧ u < 4294967296) (hv : 0 ≤ v ∧ v < 4294967296) :
    0 ≤ v * 2 ^ (32 - s) % 4294967296 ∧ v * 2 ^ (32 - s) % 4294967296 < 4294967296 ∧ (v * 2 ^ (32 - s) % 4294967296) % 2 ^ (32 - s) = 0 ∧ 0 ≤ u / 2 ^ s ∧ u / 2 ^ s < 2 ^ (32 - s) := by
  refine ⟨by omega, by omega, ?_⟩
  rcases (by omega : s = 1 ∨ s = 2 ∨ s = 3 ∨ s = 4 ∨ s = 5 ∨ s = 6 ∨ s = 7 ∨ s = 8 ∨ s = 9 ∨ s = 10 ∨ s = 11 ∨ s = 12 ∨ s = 13 ∨ s = 14 ∨ s = 15 ∨ s = 16 ∨ s = 17 ∨ s = 18 ∨ s = 19 ∨ s = 20 ∨ s = 21 ∨ s = 22 ∨ s = 23 ∨ s = 24 ∨ s = 25 ∨ s = 26 ∨ s = 27 ∨ s = 28 ∨ s = 29 ∨ s = 30 ∨ s = 31) with
    h | h | h | h | h | h | h | h | h | h | h | h | h | h | h | h | h | h | h | h | h | h | h | h | h | h | h | h | h | h | h <;> subst h <;> simp <;> omega
end Num
end Go.Proofs.Ytmbenndmkacjpaa
