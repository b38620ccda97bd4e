/- Contracts of the reference of layer 4: Formed, U, Of, AddMod, MulMod, ExpMod, StrongU, IsU, Mod. -/
import Derived.Test.YtjminjliomffaaaDoorPrmB
import Derived.Test.YtjminjliomffaaaDoorRfA
import Derived.Test.YtjminjliomffaaaDoorBytes
import Derived.BigQuiet
import Derived.Deep.QuietTactic
namespace Go.Proofs.YtjminjliomffaaaDoor
open Go.RowKit Num
set_option maxRecDepth 20000
set_option linter.unusedVariables false

namespace Num
theorem mul_odd {a b out : Nat} (h : b % 2 = 1) : out + a + (a + a) * (b / 2) = out + a * b := by
  have e1 : b = 1 + 2 * (b / 2) := by omega
  conv => rhs; rw [e1, Nat.mul_add, Nat.mul_one, ← Nat.mul_assoc]
  rw [show a + a = a * 2 from by omega]; omega
theorem mul_even {a b out : Nat} (h : b % 2 = 0) : out + (a + a) * (b / 2) = out + a * b := by
  have e1 : b = 2 * (b / 2) := by omega
  conv => rhs; rw [e1, ← Nat.mul_assoc]
  rw [show a + a = a * 2 from by omega]
theorem mul_stepm {x a b m : Nat} : (x % m + a % m * b) % m = (x + a * b) % m := by
  rw [Nat.add_mod, Nat.mod_mod, Nat.mod_mul_mod, ← Nat.add_mod]
theorem mul_stepm0 {x a b m : Nat} : (x + a % m * b) % m = (x + a * b) % m := by
  rw [Nat.add_mod, Nat.mod_mul_mod, ← Nat.add_mod]
end Num
namespace Num
/-- what the strong test of 64 bits answers: for any number, to a base below it -/
def strongU (n a : Nat) : Bool := if n < 3 ∨ n % 2 = 0 then n == 2 else if a = 0 then true else strongB n a
end Num
end Go.Proofs.YtjminjliomffaaaDoor
