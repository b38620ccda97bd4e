/- The reference of layer 3: Inverse, raise, Exp, Power. -/
import Derived.Test.YtcjbbneiobnmkaaR2e
import Derived.Test.YtcjbbneiobnmkaaJac
import Derived.Test.YtcjbbneiobnmkaaPow
namespace Go.Proofs.Ytcjbbneiobnmkaa
open Go.RowKit Num
set_option maxRecDepth 20000
set_option linter.unusedVariables false
end Go.Proofs.Ytcjbbneiobnmkaa
namespace Go.Proofs.Ytcjbbneiobnmkaa
open Go.RowKit Num
set_option maxRecDepth 20000
set_option linter.unusedVariables false
namespace Num
theorem raise_sq (a q m : Nat) : (a ^ q % m) * (a ^ q % m) % m = a ^ (2 * q) % m := by
  rw [← Nat.mul_mod, ← Nat.pow_add, Nat.two_mul]
theorem raise_one (a q m : Nat) : (a ^ (2 * q) % m) * a % m = a ^ (2 * q + 1) % m := by
  rw [Nat.pow_succ, Nat.mul_mod (a ^ (2 * q)) a m, Nat.mul_mod (a ^ (2 * q) % m) a m, Nat.mod_mod]
theorem raise_start (a e m : Nat) : 1 % m = a ^ (e / 2 ^ bl e) % m := by
  rw [Nat.div_eq_of_lt (lt_bl e), Nat.pow_zero]
theorem raise_bit0 {e j : Nat} (h : tb e j = false) : e / 2 ^ j = 2 * (e / 2 ^ (j + 1)) := by
  have h1 := half_bit e j
  rw [tb_val, h] at h1
  simpa using h1
theorem raise_bit1 {e j : Nat} (h : tb e j = true) : e / 2 ^ j = 2 * (e / 2 ^ (j + 1)) + 1 := by
  have h1 := half_bit e j
  rw [tb_val, h] at h1
  simpa using h1
theorem bl_1024 {e : Nat} (h : blen e ≤ 128) : bl e ≤ 1024 := by
  have h1 : bl e ≤ 8 * blen e := by rw [bl_le_iff, Nat.pow_mul]; exact lt_blen e
  omega
theorem wrap_down {k : Nat} (h : k ≤ 1024) : IntKind.i64.wrap ((k : Int) - 1) = (k : Int) - 1 := by rw [IntKind.wrap_i64]; omega
end Num
end Go.Proofs.Ytcjbbneiobnmkaa
namespace Go.Proofs.Ytcjbbneiobnmkaa
open Go.RowKit Num
set_option maxRecDepth 20000
set_option linter.unusedVariables false
theorem chk_inv1 {s v : ByteArray} (h : validB s = false) : chk [s] [v] = 3 := by unfold chk; simp [h]
theorem chk_inv2 {s v : ByteArray} (h : validB v = false) : chk [s] [v] = 3 := by unfold chk; simp [h]
theorem pwE_bad {s t v : ByteArray} {ng : Bool} (h : chk [s] [v] ≠ 0) (h2 : (validB t && !(ng && t.toList.isEmpty)) = true) : pwE s ng t v = chk [s] [v] := by
  have h3 : validB t = true ∧ (ng && t.toList.isEmpty) = false := by rw [Bool.and_eq_true, Bool.not_eq_true'] at h2; exact h2
  unfold pwE
  rw [if_pos h3, ivE_bad h]
  simp
theorem pwE_three {s t v : ByteArray} {ng : Bool} (h2 : (validB t && !(ng && t.toList.isEmpty)) = false) : pwE s ng t v = 3 := by
  unfold pwE
  rw [if_neg]
  rintro ⟨a, b⟩
  rw [a, b] at h2
  cases h2
end Go.Proofs.Ytcjbbneiobnmkaa
