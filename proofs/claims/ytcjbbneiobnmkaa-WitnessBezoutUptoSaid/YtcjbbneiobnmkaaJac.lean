import Derived.Test.YtcjbbneiobnmkaaInv
import Derived.Test.YtcjbbneiobnmkaaRfA
/- modular.Jacobi. -/
namespace Go.Proofs.Ytcjbbneiobnmkaa
open Go.RowKit Num
set_option maxRecDepth 20000
set_option linter.unusedVariables false
namespace Num
/-- the Jacobi symbol by reciprocity, times s; f bounds the number of steps -/
def jacF : Nat → Nat → Nat → Int → Int
  | 0, _, _, _ => 0
  | f + 1, a, n, s => if a = 0 then (if n = 1 then s else 0) else if a % 2 = 0 then jacF f (a / 2) n (if n % 8 = 3 ∨ n % 8 = 5 then -s else s) else jacF f (n % a) a (if a % 4 = 3 ∧ n % 4 = 3 then -s else s)
def jac (a n : Nat) (s : Int) : Int := jacF (a + 1) a n s
theorem jacF_fuel : ∀ (f a n : Nat) (s : Int), a < f → jacF f a n s = jac a n s := by
  intro f
  induction f using Nat.strongRecOn with
  | _ f ih =>
    intro a n s h
    cases f with
    | zero => omega
    | succ f =>
      unfold jac
      by_cases h0 : a = 0
      · simp [jacF, h0]
      · by_cases h2 : a % 2 = 0
        · simp only [jacF, h0, h2, if_false, if_true]
          rw [ih f (by omega) _ _ _ (by omega)]
          by_cases hf : a = f
          · subst hf; rw [ih a (by omega) _ _ _ (by omega)]
          · exact (ih a (by omega) _ _ _ (by omega)).symm
        · simp only [jacF, h0, h2, if_false]
          have := Nat.mod_lt n (show 0 < a by omega)
          rw [ih f (by omega) _ _ _ (by omega)]
          by_cases hf : a = f
          · subst hf; rw [ih a (by omega) _ _ _ (by omega)]
          · exact (ih a (by omega) _ _ _ (by omega)).symm
theorem jac_zero (n : Nat) (s : Int) : jac 0 n s = if n = 1 then s else 0 := rfl
theorem jac_even {a : Nat} (n : Nat) (s : Int) (h0 : a ≠ 0) (h : a % 2 = 0) : jac a n s = jac (a / 2) n (if n % 8 = 3 ∨ n % 8 = 5 then -s else s) := by
  rw [← jacF_fuel a (a / 2) n _ (by omega)]
  unfold jac
  simp only [jacF, h0, h, if_false, if_true]
theorem jac_odd {a : Nat} (n : Nat) (s : Int) (h : a % 2 = 1) : jac a n s = jac (n % a) a (if a % 4 = 3 ∧ n % 4 = 3 then -s else s) := by
  rw [← jacF_fuel a (n % a) a _ (Nat.mod_lt _ (by omega))]
  unfold jac
  simp only [jacF, show a ≠ 0 by omega, show ¬ a % 2 = 0 by omega, if_false]
end Num
/-- what Jacobi answers -/
def jcE (s v : ByteArray) : Int := if chk [s] [v] = 0 then (if nv v % 2 = 0 then 1 else 0) else chk [s] [v]
def jcV (s v : ByteArray) : Int := if jcE s v = 0 then jac (nv s % nv v) (nv v) 1 else 0
theorem isN2j : IsN ⟨#[2]⟩ 2 := ⟨by decide +kernel, by decide +kernel⟩
theorem sign_neg {x : Int} (h : x = 1 ∨ x = -1) : -x = 1 ∨ -x = -1 := by omega
end Go.Proofs.Ytcjbbneiobnmkaa

/- The reference of layer 3: check, Mod, Add, Sub, times, Mul, Jacobi. -/
namespace Go.Proofs.Ytcjbbneiobnmkaa
open Go.RowKit Num
set_option maxRecDepth 20000
set_option linter.unusedVariables false
theorem blen_pow {n k : Nat} (h : n < 256 ^ k) (hk : k ≤ 128) : blen n ≤ 128 := Nat.le_trans ((blen_le_iff n k).2 h) hk
theorem rem_lt {v : ByteArray} {m : Nat} (hv : IsN v m) (h0 : 0 < m) (h64 : v.size ≤ 64) (a : Nat) : a % m < m ∧ m < 256 ^ 64 := by
  refine ⟨Nat.mod_lt _ h0, ?_⟩
  rw [← blen_le_iff, ← hv.size]
  exact h64
theorem tb_zero (n : Nat) : tb n 0 = decide (n % 2 = 1) := by unfold tb; rw [Nat.pow_zero, Nat.div_one]
theorem tb_one (n : Nat) (h : n % 2 = 1) : tb n 1 = decide (n % 4 = 3) := by
  unfold tb
  rw [Nat.pow_one, Bool.eq_iff_iff, decide_eq_true_eq, decide_eq_true_eq]
  omega
end Go.Proofs.Ytcjbbneiobnmkaa
