/-
  NARROWER THAN 'FOR EVERY INPUT', by the rows' own cells (each row's printed sentence says how): PrimeTests: laid · PrimeDivides: laid · PrimeStrong: laid · PrimeMersenne: laid · PrimeNexts: laid · PrimeBetween: laid · PrimeSafes: laid · PrimeFactors: laid · PrimeProducts: laid.
  DERIVED. THE GIVEN ROWS OF THIS SEAT. 9 by the template 'for every input the law returns true; each argument reads behind the call as it read before'; 0 by the template 'total and deterministic' (their statements: YtphlmgdcpdjlpaaDoorTotals.lean).
  GIVEN WITH THE SEED: the statements are not yours to turn. If you find one false, say at which input.
  Laid BY PROGRAM, IN A SANDBOX (cutbox-rows.mjs): the forced cells as the released guide's own fill.sh prints them over the translation 3760156999f34e2e… (all of the seat's roots in one cut). By AI agents, Wed Nov 11 2026. No macro, syntax, notation, axiom, sorry.
-/
import Derived.Test.YtphlmgdcpdjlpaaDoorChecked
import GoSem.Claim
import GoSem.ClaimJoined
import GoSem.ClaimMapViews
import Derived.JoinedTies
import Derived.KernelRfl
namespace Go.Proofs.YtphlmgdcpdjlpaaDoor
/- THE CELL 'sum', in the pinned program and in every row, IS THE sha256 OF THE DUMP (.gsa) THAT YtphlmgdcpdjlpaaDoorProg.lean LOADS. Nothing in Lean hashes anything: it is a label: what it is worth is what the hold of that sum in a sandbox is worth. -/
noncomputable def Tryd.pinned : Pinned := { name := "ytphlmgdcpdjlpaadoor", sum := "3760156999f34e2e7860f260d859d421f474ff6fc513c6519864e5294ff99366", checked := Tryd.checked }
namespace Rows
def none {H : Type} : Left H := { results := [], args := [] }

/- WHAT THE LISTED PACKAGE-LEVEL VARIABLES READ AS WHEN THE CALL BEGINS. Each datum BY PROGRAM (the guide's laid-datum.mjs) off the statement by which the dump's own 'gosem.cut.vars' lays the variable. In a bare row this is a premise. The card (YtphlmgdcpdjlpaaDoorCards.lean) ties it to the program's text. -/
def laid_math_bits_deBruijn64tab {H : Type} : DataW H := .agg [.lit (.int .u8 0), .lit (.int .u8 1), .lit (.int .u8 56), .lit (.int .u8 2), .lit (.int .u8 57), .lit (.int .u8 49), .lit (.int .u8 28), .lit (.int .u8 3), .lit (.int .u8 61), .lit (.int .u8 58), .lit (.int .u8 42), .lit (.int .u8 50), .lit (.int .u8 38), .lit (.int .u8 29), .lit (.int .u8 17), .lit (.int .u8 4), .lit (.int .u8 62), .lit (.int .u8 47), .lit (.int .u8 59), .lit (.int .u8 36), .lit (.int .u8 45), .lit (.int .u8 43), .lit (.int .u8 51), .lit (.int .u8 22), .lit (.int .u8 53), .lit (.int .u8 39), .lit (.int .u8 33), .lit (.int .u8 30), .lit (.int .u8 24), .lit (.int .u8 18), .lit (.int .u8 12), .lit (.int .u8 5), .lit (.int .u8 63), .lit (.int .u8 55), .lit (.int .u8 48), .lit (.int .u8 27), .lit (.int .u8 60), .lit (.int .u8 41), .lit (.int .u8 37), .lit (.int .u8 16), .lit (.int .u8 46), .lit (.int .u8 35), .lit (.int .u8 44), .lit (.int .u8 21), .lit (.int .u8 52), .lit (.int .u8 32), .lit (.int .u8 23), .lit (.int .u8 11), .lit (.int .u8 54), .lit (.int .u8 26), .lit (.int .u8 40), .lit (.int .u8 15), .lit (.int .u8 34), .lit (.int .u8 20), .lit (.int .u8 31), .lit (.int .u8 10), .lit (.int .u8 25), .lit (.int .u8 14), .lit (.int .u8 19), .lit (.int .u8 9), .lit (.int .u8 13), .lit (.int .u8 8), .lit (.int .u8 7), .lit (.int .u8 6)]

/-- 'dominolaw04.PrimeTests': WHATEVER THE INPUT: true; the input reads as it did. -/
def primeTestsSpec : ChangeSpec := { name := "primeTests", fn := fun _ => fun
  | [d] => { results := [.lit (.bool true)], args := [d] }
  | _ => none }
def primeTestsRow : OpenClaim := { program := "ytphlmgdcpdjlpaadoor", sum := "3760156999f34e2e7860f260d859d421f474ff6fc513c6519864e5294ff99366", func := "domino/dominolaw04.PrimeTests", spec := "primeTests", inPlace := ["internal/bytealg.abigen_runtime_cmpstring"], unfollowed := true, recurses := true, named := ["math/bits.deBruijn64tab", "math/bits.divideError", "math/bits.overflowError"], apart := false, laid := [("math/bits.deBruijn64tab", laid_math_bits_deBruijn64tab)] }
def PrimeTestsSaid : Prop := primeTestsRow.holds Tryd.pinned (OpenSpec.ofChange primeTestsSpec)

/-- ITS FALSE NEIGHBOUR: 'it returns false'. Refute it at one input. -/
def primeTestsWrong : ChangeSpec := { name := "primeTests", fn := fun _ => fun
  | [d] => { results := [.lit (.bool false)], args := [d] }
  | _ => none }
def PrimeTestsWrongFalsely : Prop := primeTestsRow.holds Tryd.pinned (OpenSpec.ofChange primeTestsWrong)

/-- 'dominolaw04.PrimeDivides': WHATEVER THE INPUT: true; the input reads as it did. -/
def primeDividesSpec : ChangeSpec := { name := "primeDivides", fn := fun _ => fun
  | [d] => { results := [.lit (.bool true)], args := [d] }
  | _ => none }
def primeDividesRow : OpenClaim := { program := "ytphlmgdcpdjlpaadoor", sum := "3760156999f34e2e7860f260d859d421f474ff6fc513c6519864e5294ff99366", func := "domino/dominolaw04.PrimeDivides", spec := "primeDivides", inPlace := ["internal/bytealg.abigen_runtime_cmpstring"], unfollowed := true, recurses := true, named := ["math/bits.deBruijn64tab", "math/bits.divideError", "math/bits.overflowError"], apart := false, laid := [("math/bits.deBruijn64tab", laid_math_bits_deBruijn64tab)] }
def PrimeDividesSaid : Prop := primeDividesRow.holds Tryd.pinned (OpenSpec.ofChange primeDividesSpec)

/-- ITS FALSE NEIGHBOUR: 'it returns false'. Refute it at one input. -/
def primeDividesWrong : ChangeSpec := { name := "primeDivides", fn := fun _ => fun
  | [d] => { results := [.lit (.bool false)], args := [d] }
  | _ => none }
def PrimeDividesWrongFalsely : Prop := primeDividesRow.holds Tryd.pinned (OpenSpec.ofChange primeDividesWrong)

/-- 'dominolaw04.PrimeStrong': WHATEVER THE INPUT: true; the input reads as it did. -/
def primeStrongSpec : ChangeSpec := { name := "primeStrong", fn := fun _ => fun
  | [d1, d2] => { results := [.lit (.bool true)], args := [d1, d2] }
  | _ => none }
def primeStrongRow : OpenClaim := { program := "ytphlmgdcpdjlpaadoor", sum := "3760156999f34e2e7860f260d859d421f474ff6fc513c6519864e5294ff99366", func := "domino/dominolaw04.PrimeStrong", spec := "primeStrong", inPlace := ["internal/bytealg.abigen_runtime_cmpstring"], unfollowed := true, recurses := true, named := ["math/bits.deBruijn64tab", "math/bits.divideError", "math/bits.overflowError"], apart := false, laid := [("math/bits.deBruijn64tab", laid_math_bits_deBruijn64tab)] }
def PrimeStrongSaid : Prop := primeStrongRow.holds Tryd.pinned (OpenSpec.ofChange primeStrongSpec)

/-- ITS FALSE NEIGHBOUR: 'it returns false'. Refute it at one input. -/
def primeStrongWrong : ChangeSpec := { name := "primeStrong", fn := fun _ => fun
  | [d1, d2] => { results := [.lit (.bool false)], args := [d1, d2] }
  | _ => none }
def PrimeStrongWrongFalsely : Prop := primeStrongRow.holds Tryd.pinned (OpenSpec.ofChange primeStrongWrong)

/-- 'dominolaw04.PrimeMersenne': WHATEVER THE INPUT: true; the input reads as it did. -/
def primeMersenneSpec : ChangeSpec := { name := "primeMersenne", fn := fun _ => fun
  | [d1, d2] => { results := [.lit (.bool true)], args := [d1, d2] }
  | _ => none }
def primeMersenneRow : OpenClaim := { program := "ytphlmgdcpdjlpaadoor", sum := "3760156999f34e2e7860f260d859d421f474ff6fc513c6519864e5294ff99366", func := "domino/dominolaw04.PrimeMersenne", spec := "primeMersenne", inPlace := ["internal/bytealg.abigen_runtime_cmpstring"], unfollowed := true, recurses := true, named := ["math/bits.deBruijn64tab", "math/bits.divideError", "math/bits.overflowError"], apart := false, laid := [("math/bits.deBruijn64tab", laid_math_bits_deBruijn64tab)] }
def PrimeMersenneSaid : Prop := primeMersenneRow.holds Tryd.pinned (OpenSpec.ofChange primeMersenneSpec)

/-- ITS FALSE NEIGHBOUR: 'it returns false'. Refute it at one input. -/
def primeMersenneWrong : ChangeSpec := { name := "primeMersenne", fn := fun _ => fun
  | [d1, d2] => { results := [.lit (.bool false)], args := [d1, d2] }
  | _ => none }
def PrimeMersenneWrongFalsely : Prop := primeMersenneRow.holds Tryd.pinned (OpenSpec.ofChange primeMersenneWrong)

/-- 'dominolaw04.PrimeNexts': WHATEVER THE INPUT: true; the input reads as it did. -/
def primeNextsSpec : ChangeSpec := { name := "primeNexts", fn := fun _ => fun
  | [d] => { results := [.lit (.bool true)], args := [d] }
  | _ => none }
def primeNextsRow : OpenClaim := { program := "ytphlmgdcpdjlpaadoor", sum := "3760156999f34e2e7860f260d859d421f474ff6fc513c6519864e5294ff99366", func := "domino/dominolaw04.PrimeNexts", spec := "primeNexts", inPlace := ["internal/bytealg.abigen_runtime_cmpstring"], unfollowed := true, recurses := true, named := ["math/bits.deBruijn64tab", "math/bits.divideError", "math/bits.overflowError"], apart := false, laid := [("math/bits.deBruijn64tab", laid_math_bits_deBruijn64tab)] }
def PrimeNextsSaid : Prop := primeNextsRow.holds Tryd.pinned (OpenSpec.ofChange primeNextsSpec)

/-- ITS FALSE NEIGHBOUR: 'it returns false'. Refute it at one input. -/
def primeNextsWrong : ChangeSpec := { name := "primeNexts", fn := fun _ => fun
  | [d] => { results := [.lit (.bool false)], args := [d] }
  | _ => none }
def PrimeNextsWrongFalsely : Prop := primeNextsRow.holds Tryd.pinned (OpenSpec.ofChange primeNextsWrong)

/-- 'dominolaw04.PrimeBetween': WHATEVER THE INPUT: true; the input reads as it did. -/
def primeBetweenSpec : ChangeSpec := { name := "primeBetween", fn := fun _ => fun
  | [d] => { results := [.lit (.bool true)], args := [d] }
  | _ => none }
def primeBetweenRow : OpenClaim := { program := "ytphlmgdcpdjlpaadoor", sum := "3760156999f34e2e7860f260d859d421f474ff6fc513c6519864e5294ff99366", func := "domino/dominolaw04.PrimeBetween", spec := "primeBetween", inPlace := ["internal/bytealg.abigen_runtime_cmpstring"], unfollowed := true, recurses := true, named := ["math/bits.deBruijn64tab", "math/bits.divideError", "math/bits.overflowError"], apart := false, laid := [("math/bits.deBruijn64tab", laid_math_bits_deBruijn64tab)] }
def PrimeBetweenSaid : Prop := primeBetweenRow.holds Tryd.pinned (OpenSpec.ofChange primeBetweenSpec)

/-- ITS FALSE NEIGHBOUR: 'it returns false'. Refute it at one input. -/
def primeBetweenWrong : ChangeSpec := { name := "primeBetween", fn := fun _ => fun
  | [d] => { results := [.lit (.bool false)], args := [d] }
  | _ => none }
def PrimeBetweenWrongFalsely : Prop := primeBetweenRow.holds Tryd.pinned (OpenSpec.ofChange primeBetweenWrong)

/-- 'dominolaw04.PrimeSafes': WHATEVER THE INPUT: true; the input reads as it did. -/
def primeSafesSpec : ChangeSpec := { name := "primeSafes", fn := fun _ => fun
  | [d] => { results := [.lit (.bool true)], args := [d] }
  | _ => none }
def primeSafesRow : OpenClaim := { program := "ytphlmgdcpdjlpaadoor", sum := "3760156999f34e2e7860f260d859d421f474ff6fc513c6519864e5294ff99366", func := "domino/dominolaw04.PrimeSafes", spec := "primeSafes", inPlace := ["internal/bytealg.abigen_runtime_cmpstring"], unfollowed := true, recurses := true, named := ["math/bits.deBruijn64tab", "math/bits.divideError", "math/bits.overflowError"], apart := false, laid := [("math/bits.deBruijn64tab", laid_math_bits_deBruijn64tab)] }
def PrimeSafesSaid : Prop := primeSafesRow.holds Tryd.pinned (OpenSpec.ofChange primeSafesSpec)

/-- ITS FALSE NEIGHBOUR: 'it returns false'. Refute it at one input. -/
def primeSafesWrong : ChangeSpec := { name := "primeSafes", fn := fun _ => fun
  | [d] => { results := [.lit (.bool false)], args := [d] }
  | _ => none }
def PrimeSafesWrongFalsely : Prop := primeSafesRow.holds Tryd.pinned (OpenSpec.ofChange primeSafesWrong)

/-- 'dominolaw04.PrimeFactors': WHATEVER THE INPUT: true; the input reads as it did. -/
def primeFactorsSpec : ChangeSpec := { name := "primeFactors", fn := fun _ => fun
  | [d] => { results := [.lit (.bool true)], args := [d] }
  | _ => none }
def primeFactorsRow : OpenClaim := { program := "ytphlmgdcpdjlpaadoor", sum := "3760156999f34e2e7860f260d859d421f474ff6fc513c6519864e5294ff99366", func := "domino/dominolaw04.PrimeFactors", spec := "primeFactors", inPlace := ["internal/bytealg.abigen_runtime_cmpstring"], unfollowed := true, recurses := true, named := ["math/bits.deBruijn64tab", "math/bits.divideError", "math/bits.overflowError"], apart := false, laid := [("math/bits.deBruijn64tab", laid_math_bits_deBruijn64tab)] }
def PrimeFactorsSaid : Prop := primeFactorsRow.holds Tryd.pinned (OpenSpec.ofChange primeFactorsSpec)

/-- ITS FALSE NEIGHBOUR: 'it returns false'. Refute it at one input. -/
def primeFactorsWrong : ChangeSpec := { name := "primeFactors", fn := fun _ => fun
  | [d] => { results := [.lit (.bool false)], args := [d] }
  | _ => none }
def PrimeFactorsWrongFalsely : Prop := primeFactorsRow.holds Tryd.pinned (OpenSpec.ofChange primeFactorsWrong)

/-- 'dominolaw04.PrimeProducts': WHATEVER THE INPUT: true; the input reads as it did. -/
def primeProductsSpec : ChangeSpec := { name := "primeProducts", fn := fun _ => fun
  | [d] => { results := [.lit (.bool true)], args := [d] }
  | _ => none }
def primeProductsRow : OpenClaim := { program := "ytphlmgdcpdjlpaadoor", sum := "3760156999f34e2e7860f260d859d421f474ff6fc513c6519864e5294ff99366", func := "domino/dominolaw04.PrimeProducts", spec := "primeProducts", inPlace := ["internal/bytealg.abigen_runtime_cmpstring"], unfollowed := true, recurses := true, named := ["math/bits.deBruijn64tab", "math/bits.divideError", "math/bits.overflowError"], apart := false, laid := [("math/bits.deBruijn64tab", laid_math_bits_deBruijn64tab)] }
def PrimeProductsSaid : Prop := primeProductsRow.holds Tryd.pinned (OpenSpec.ofChange primeProductsSpec)

/-- ITS FALSE NEIGHBOUR: 'it returns false'. Refute it at one input. -/
def primeProductsWrong : ChangeSpec := { name := "primeProducts", fn := fun _ => fun
  | [d] => { results := [.lit (.bool false)], args := [d] }
  | _ => none }
def PrimeProductsWrongFalsely : Prop := primeProductsRow.holds Tryd.pinned (OpenSpec.ofChange primeProductsWrong)

/- THE SECOND FORM. 'bulk': how many values and letters a reading holds, each counted each time it is reached (what is shared counts as often as it is met; a slice's spare places count too). A statement '..UptoSaid' is the law's where the arguments, and the package variables that the reading takes, are together of bulk at most 1048576: NARROWER than '..Said'. Prove '..Said' where nothing that the law and all that it calls make is longer than what came in: it says more and counts as full. Else prove '..UptoSaid'. A law counts once. -/
mutual
def uptoBulk {H : Type} : DataW H → Nat
  | .lit (.string bytes) => bytes.length + 1
  | .lit _ => 1
  | .nil => 1
  | .ptr d => uptoBulk d + 1
  | .slice elems spare => uptoBulkAll elems + uptoBulkAll spare + 1
  | .agg parts => uptoBulkAll parts + 1
  | .iface _ d => uptoBulk d + 1
  | .map entries => uptoBulkEntries entries + 1
  | .held _ => 1
def uptoBulkAll {H : Type} : List (DataW H) → Nat
  | [] => 0
  | d :: r => uptoBulk d + uptoBulkAll r
def uptoBulkEntries {H : Type} : List (Lit × DataW H) → Nat
  | [] => 0
  | x :: r => uptoBulkEntry x + uptoBulkEntries r
def uptoBulkEntry {H : Type} : Lit × DataW H → Nat
  | (.string bytes, d) => bytes.length + uptoBulk d + 1
  | (_, d) => uptoBulk d + 1
 end
def uptoSmall : (H : Type) → List (DataW H) → Bool := fun _ ds => decide (uptoBulkAll ds ≤ 1048576)
def OpenSpec.upto (s : _root_.Go.ChangeSpec) : _root_.Go.OpenSpec := { _root_.Go.OpenSpec.ofChange s with cond := some uptoSmall }

/-- 'dominolaw04.PrimeTests', WHERE WHAT IT READS IS OF BULK AT MOST 1048576: true; the input reads as it did. -/
def primeTestsUptoRow : OpenClaim := { program := "ytphlmgdcpdjlpaadoor", sum := "3760156999f34e2e7860f260d859d421f474ff6fc513c6519864e5294ff99366", func := "domino/dominolaw04.PrimeTests", spec := "primeTests", inPlace := ["internal/bytealg.abigen_runtime_cmpstring"], unfollowed := true, recurses := true, named := ["math/bits.deBruijn64tab", "math/bits.divideError", "math/bits.overflowError"], apart := false, laid := [("math/bits.deBruijn64tab", laid_math_bits_deBruijn64tab)], narrowed := true }
def PrimeTestsUptoSaid : Prop := primeTestsUptoRow.holds Tryd.pinned (OpenSpec.upto primeTestsSpec)

/-- 'dominolaw04.PrimeDivides', WHERE WHAT IT READS IS OF BULK AT MOST 1048576: true; the input reads as it did. -/
def primeDividesUptoRow : OpenClaim := { program := "ytphlmgdcpdjlpaadoor", sum := "3760156999f34e2e7860f260d859d421f474ff6fc513c6519864e5294ff99366", func := "domino/dominolaw04.PrimeDivides", spec := "primeDivides", inPlace := ["internal/bytealg.abigen_runtime_cmpstring"], unfollowed := true, recurses := true, named := ["math/bits.deBruijn64tab", "math/bits.divideError", "math/bits.overflowError"], apart := false, laid := [("math/bits.deBruijn64tab", laid_math_bits_deBruijn64tab)], narrowed := true }
def PrimeDividesUptoSaid : Prop := primeDividesUptoRow.holds Tryd.pinned (OpenSpec.upto primeDividesSpec)

/-- 'dominolaw04.PrimeStrong', WHERE WHAT IT READS IS OF BULK AT MOST 1048576: true; the input reads as it did. -/
def primeStrongUptoRow : OpenClaim := { program := "ytphlmgdcpdjlpaadoor", sum := "3760156999f34e2e7860f260d859d421f474ff6fc513c6519864e5294ff99366", func := "domino/dominolaw04.PrimeStrong", spec := "primeStrong", inPlace := ["internal/bytealg.abigen_runtime_cmpstring"], unfollowed := true, recurses := true, named := ["math/bits.deBruijn64tab", "math/bits.divideError", "math/bits.overflowError"], apart := false, laid := [("math/bits.deBruijn64tab", laid_math_bits_deBruijn64tab)], narrowed := true }
def PrimeStrongUptoSaid : Prop := primeStrongUptoRow.holds Tryd.pinned (OpenSpec.upto primeStrongSpec)

/-- 'dominolaw04.PrimeMersenne', WHERE WHAT IT READS IS OF BULK AT MOST 1048576: true; the input reads as it did. -/
def primeMersenneUptoRow : OpenClaim := { program := "ytphlmgdcpdjlpaadoor", sum := "3760156999f34e2e7860f260d859d421f474ff6fc513c6519864e5294ff99366", func := "domino/dominolaw04.PrimeMersenne", spec := "primeMersenne", inPlace := ["internal/bytealg.abigen_runtime_cmpstring"], unfollowed := true, recurses := true, named := ["math/bits.deBruijn64tab", "math/bits.divideError", "math/bits.overflowError"], apart := false, laid := [("math/bits.deBruijn64tab", laid_math_bits_deBruijn64tab)], narrowed := true }
def PrimeMersenneUptoSaid : Prop := primeMersenneUptoRow.holds Tryd.pinned (OpenSpec.upto primeMersenneSpec)

/-- 'dominolaw04.PrimeNexts', WHERE WHAT IT READS IS OF BULK AT MOST 1048576: true; the input reads as it did. -/
def primeNextsUptoRow : OpenClaim := { program := "ytphlmgdcpdjlpaadoor", sum := "3760156999f34e2e7860f260d859d421f474ff6fc513c6519864e5294ff99366", func := "domino/dominolaw04.PrimeNexts", spec := "primeNexts", inPlace := ["internal/bytealg.abigen_runtime_cmpstring"], unfollowed := true, recurses := true, named := ["math/bits.deBruijn64tab", "math/bits.divideError", "math/bits.overflowError"], apart := false, laid := [("math/bits.deBruijn64tab", laid_math_bits_deBruijn64tab)], narrowed := true }
def PrimeNextsUptoSaid : Prop := primeNextsUptoRow.holds Tryd.pinned (OpenSpec.upto primeNextsSpec)

/-- 'dominolaw04.PrimeBetween', WHERE WHAT IT READS IS OF BULK AT MOST 1048576: true; the input reads as it did. -/
def primeBetweenUptoRow : OpenClaim := { program := "ytphlmgdcpdjlpaadoor", sum := "3760156999f34e2e7860f260d859d421f474ff6fc513c6519864e5294ff99366", func := "domino/dominolaw04.PrimeBetween", spec := "primeBetween", inPlace := ["internal/bytealg.abigen_runtime_cmpstring"], unfollowed := true, recurses := true, named := ["math/bits.deBruijn64tab", "math/bits.divideError", "math/bits.overflowError"], apart := false, laid := [("math/bits.deBruijn64tab", laid_math_bits_deBruijn64tab)], narrowed := true }
def PrimeBetweenUptoSaid : Prop := primeBetweenUptoRow.holds Tryd.pinned (OpenSpec.upto primeBetweenSpec)

/-- 'dominolaw04.PrimeSafes', WHERE WHAT IT READS IS OF BULK AT MOST 1048576: true; the input reads as it did. -/
def primeSafesUptoRow : OpenClaim := { program := "ytphlmgdcpdjlpaadoor", sum := "3760156999f34e2e7860f260d859d421f474ff6fc513c6519864e5294ff99366", func := "domino/dominolaw04.PrimeSafes", spec := "primeSafes", inPlace := ["internal/bytealg.abigen_runtime_cmpstring"], unfollowed := true, recurses := true, named := ["math/bits.deBruijn64tab", "math/bits.divideError", "math/bits.overflowError"], apart := false, laid := [("math/bits.deBruijn64tab", laid_math_bits_deBruijn64tab)], narrowed := true }
def PrimeSafesUptoSaid : Prop := primeSafesUptoRow.holds Tryd.pinned (OpenSpec.upto primeSafesSpec)

/-- 'dominolaw04.PrimeFactors', WHERE WHAT IT READS IS OF BULK AT MOST 1048576: true; the input reads as it did. -/
def primeFactorsUptoRow : OpenClaim := { program := "ytphlmgdcpdjlpaadoor", sum := "3760156999f34e2e7860f260d859d421f474ff6fc513c6519864e5294ff99366", func := "domino/dominolaw04.PrimeFactors", spec := "primeFactors", inPlace := ["internal/bytealg.abigen_runtime_cmpstring"], unfollowed := true, recurses := true, named := ["math/bits.deBruijn64tab", "math/bits.divideError", "math/bits.overflowError"], apart := false, laid := [("math/bits.deBruijn64tab", laid_math_bits_deBruijn64tab)], narrowed := true }
def PrimeFactorsUptoSaid : Prop := primeFactorsUptoRow.holds Tryd.pinned (OpenSpec.upto primeFactorsSpec)

/-- 'dominolaw04.PrimeProducts', WHERE WHAT IT READS IS OF BULK AT MOST 1048576: true; the input reads as it did. -/
def primeProductsUptoRow : OpenClaim := { program := "ytphlmgdcpdjlpaadoor", sum := "3760156999f34e2e7860f260d859d421f474ff6fc513c6519864e5294ff99366", func := "domino/dominolaw04.PrimeProducts", spec := "primeProducts", inPlace := ["internal/bytealg.abigen_runtime_cmpstring"], unfollowed := true, recurses := true, named := ["math/bits.deBruijn64tab", "math/bits.divideError", "math/bits.overflowError"], apart := false, laid := [("math/bits.deBruijn64tab", laid_math_bits_deBruijn64tab)], narrowed := true }
def PrimeProductsUptoSaid : Prop := primeProductsUptoRow.holds Tryd.pinned (OpenSpec.upto primeProductsSpec)

end Rows
end Go.Proofs.YtphlmgdcpdjlpaaDoor
