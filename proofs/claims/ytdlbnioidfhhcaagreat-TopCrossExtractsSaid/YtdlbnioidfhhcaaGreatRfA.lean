import Derived.Test.YtdlbnioidfhhcaaGreatNatC
import Derived.BigQuiet
import Derived.Deep.QuietTactic
import Derived.Test.YtdlbnioidfhhcaaGreatBl
import Derived.Test.YtdlbnioidfhhcaaGreatNatE
import Derived.Test.YtdlbnioidfhhcaaGreatNatD
import Derived.Test.YtdlbnioidfhhcaaGreatNatG
import Derived.Deep.RegionWith
/- Small facts on strings as bytes. -/
namespace Go.Proofs.YtdlbnioidfhhcaaGreat
open Go.RowKit Num
theorem toList_nonempty {s : ByteArray} (h0 : s.size ≠ 0) : (s.toList = [] → False) ∧ s.toList.isEmpty = false := by
  have e1 : s.toList = [] → False := fun e => h0 (by
    rw [ByteArray.toList_eq] at e
    show s.data.size = 0
    rw [← Array.length_toList, e]; rfl)
  refine ⟨e1, ?_⟩
  cases hh : s.toList with
  | nil => exact (e1 hh).elim
  | cons a l => rfl
theorem bytes_zero {s : ByteArray} (h0 : s.size = 0) : s = ⟨#[]⟩ := by
  cases s with | mk d => simp [ByteArray.size] at h0; simp [h0]
end Go.Proofs.YtdlbnioidfhhcaaGreat

/- Contracts of the reference of layer 1: Valid, trim, at, U64, Of, Order, Plus, Minus. -/
namespace Go.Proofs.YtdlbnioidfhhcaaGreat
open Go.RowKit Num
set_option maxRecDepth 20000
set_option linter.unusedVariables false








end Go.Proofs.YtdlbnioidfhhcaaGreat

/- Contracts of the reference of layer 1: bits, one, Over, DivMod. -/
namespace Go.Proofs.YtdlbnioidfhhcaaGreat
open Go.RowKit Num
set_option maxRecDepth 20000
set_option linter.unusedVariables false

theorem toList_ne {s : ByteArray} (h0 : s.size ≠ 0) : (s.toList = [] → False) ∧ s.toList.isEmpty = false := by
  have e1 : s.toList = [] → False := fun e => h0 (by
    rw [ByteArray.toList_eq] at e
    show s.data.size = 0
    rw [← Array.length_toList, e]; rfl)
  refine ⟨e1, ?_⟩
  cases hh : s.toList with
  | nil => exact (e1 hh).elim
  | cons a l => rfl

end Go.Proofs.YtdlbnioidfhhcaaGreat

/- Contracts of the reference of layer 1: Times, fit, Small, Add, Sub, Mul, DivMod, Bits, Bit, Gcd. -/
namespace Go.Proofs.YtdlbnioidfhhcaaGreat
open Go.RowKit Num
set_option maxRecDepth 20000
set_option linter.unusedVariables false
end Go.Proofs.YtdlbnioidfhhcaaGreat
