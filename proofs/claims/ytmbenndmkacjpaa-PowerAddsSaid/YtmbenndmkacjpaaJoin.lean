/- modular.Join. -/
import Derived.Test.YtmbenndmkacjpaaInv
import Derived.Test.YtmbenndmkacjpaaNatD
namespace Go.Proofs.Ytmbenndmkacjpaa
open Go.RowKit Num
set_option maxRecDepth 20000
set_option linter.unusedVariables false
namespace Num
theorem bezout (a b : Nat) : ∃ x y : Int, (a : Int) * x + b * y = (Nat.gcd a b : Nat) := by
  induction a, b using Nat.gcd.induction with
  | H0 n => exact ⟨0, 1, by simp⟩
  | H1 m n hm ih =>
    obtain ⟨x, y, h⟩ := ih
    refine ⟨y - ((n / m : Nat) : Int) * x, x, ?_⟩
    rw [Nat.gcd_rec, ← h]
    have e : ((n % m : Nat) : Int) = n - m * ((n / m : Nat) : Int) := by
      have h1 := Nat.div_add_mod n m
      have h2 : ((m * (n / m) + n % m : Nat) : Int) = n := by rw [h1]
      rw [Int.natCast_add, Int.natCast_mul] at h2
      omega
    rw [e, Int.mul_sub, Int.sub_mul, Int.mul_assoc]
    omega
theorem invm_ok {a m : Nat} (hm : 0 < m) (h : Nat.gcd a m = 1) : invm a m < m ∧ a * invm a m % m = 1 % m := by
  obtain ⟨x, y, hxy⟩ := bezout (a % m) m
  rw [gcd_mod_left, h] at hxy
  exact invm_spec hm hxy
/-- the difference of the remainders, over the common divisor -/
def joinD (a m b n : Nat) : Nat := (b + (n - a % m % n)) % n / Nat.gcd m n
def joinT (a m b n : Nat) : Nat := joinD a m b n * invm (m / Nat.gcd m n) (n / Nat.gcd m n) % (n / Nat.gcd m n)
def joinX (a m b n : Nat) : Nat := a % m + m * joinT a m b n
theorem gcd_quot {m n : Nat} (hm : 0 < m) : Nat.gcd (m / Nat.gcd m n) (n / Nat.gcd m n) = 1 := by
  have hg : 0 < Nat.gcd m n := Nat.gcd_pos_of_pos_left n hm
  rw [Nat.gcd_div (Nat.gcd_dvd_left m n) (Nat.gcd_dvd_right m n), Nat.div_self hg]
theorem joinX_lt {a m b n : Nat} (hm : 0 < m) (hn : 0 < n) : joinT a m b n < n / Nat.gcd m n ∧ joinX a m b n < m * (n / Nat.gcd m n) := by
  have hg : 0 < Nat.gcd m n := Nat.gcd_pos_of_pos_left n hm
  have hk : 0 < n / Nat.gcd m n := Nat.div_pos (Nat.le_of_dvd hn (Nat.gcd_dvd_right m n)) hg
  have ht : joinT a m b n < n / Nat.gcd m n := Nat.mod_lt _ hk
  refine ⟨ht, ?_⟩
  unfold joinX
  have h1 := Nat.mod_lt a hm
  have h2 : m * (joinT a m b n + 1) ≤ m * (n / Nat.gcd m n) := Nat.mul_le_mul_left m ht
  rw [Nat.mul_add] at h2
  omega
end Num
theorem chk22_inv {s t u v : ByteArray} (h : chk [s, t] [u, v] = 0) : (IsN s (nv s) ∧ IsN t (nv t)) ∧ (IsN u (nv u) ∧ 0 < nv u) ∧ IsN v (nv v) ∧ 0 < nv v := by
  obtain ⟨h1, h2⟩ := chk_inv h
  exact ⟨⟨h1 s (by simp), h1 t (by simp)⟩, ⟨h1 u (by simp), h2 u (by simp)⟩, h1 v (by simp), h2 v (by simp)⟩
theorem chk22 {x y m n : ByteArray} {a b p q : Nat} (hx : IsN x a) (hy : IsN y b) (hm : IsN m p) (hn : IsN n q) (h0 : 0 < p) (h1 : 0 < q) : chk [x, y] [m, n] = 0 :=
  chk_ok (by simp [hx.valid, hy.valid, hm.valid, hn.valid]) (by intro x hx; simp at hx; rcases hx with rfl | rfl; exact hm.pos h0; exact hn.pos h1)
theorem check22 (w : World) (x y m n : ByteArray) :
    Calls Try.prog 38 #[.slice (some ⟨w.heap.size, 0, none⟩) 2 2, .slice (some ⟨w.heap.size + 1, 0, none⟩) 2 2] ((w.alloc (.cells #[.string x, .string y] 22)).alloc (.cells #[.string m, .string n] 22))
      fun e w' => e = .returned (.int .i64 (chk [x, y] [m, n])) ∧ Below w.heap.size w w' :=
  (check_any ((w.alloc (.cells #[.string x, .string y] 22)).alloc (.cells #[.string m, .string n] 22)) w.heap.size (w.heap.size + 1) [x, y] [m, n] (StrAt.lit1 w _ [x, y] _) (StrAt.lit2 w _ [m, n] _) (by simp) (by simp) (by simp) (by simp)).mono
    fun _ _ h => ⟨h.1, (below_two w _ _).trans (h.2.mono (by simp; omega))⟩
theorem bbelow {B : Nat} {w w1 w2 : World} (h : Below B w w1) (h2 : Below w1.heap.size w1 w2) (hB : B ≤ w.heap.size) : Below B w w2 := h.trans (h2.mono (by have := h.size; omega))
end Go.Proofs.Ytmbenndmkacjpaa
