/-
  No cell of these rows narrows 'for every input' (looked for: loops, veiled, ifaces, maps, wideKeys, modest, calm, conditions, laid).
  DERIVED. THE GIVEN ROWS OF THIS SEAT. 11 by the template 'for every input the law returns true; each argument reads behind the call as it read before'; 0 by the template 'total and deterministic' (their statements: YtcjbbneiobnmkaaGreatTotals.lean).
  GIVEN WITH THE SEED: the statements are not yours to turn. If you find one false, say at which input.
  Laid BY PROGRAM, IN A SANDBOX (cutbox-rows.mjs): the forced cells as the released guide's own fill.sh prints them over the translation 93e56d833a2d56f5… (all of the seat's roots in one cut). By AI agents, Wed Nov 11 2026. No macro, syntax, notation, axiom, sorry.
-/
import Derived.Test.YtcjbbneiobnmkaaGreatChecked
import GoSem.Claim
import GoSem.ClaimJoined
import GoSem.ClaimMapViews
import Derived.JoinedTies
import Derived.KernelRfl
namespace Go.Proofs.YtcjbbneiobnmkaaGreat
/- THE CELL 'sum', in the pinned program and in every row, IS THE sha256 OF THE DUMP (.gsa) THAT YtcjbbneiobnmkaaGreatProg.lean LOADS. Nothing in Lean hashes anything: it is a label: what it is worth is what the hold of that sum in a sandbox is worth. -/
noncomputable def Tryz.pinned : Pinned := { name := "ytcjbbneiobnmkaagreat", sum := "93e56d833a2d56f5316cb3c4ff387f5660b1a0a59263cdc97e18cb0cdc35bfa0", checked := Tryz.checked }
namespace Rows
def none {H : Type} : Left H := { results := [], args := [] }

/-- 'dominolaw13.PowerChecks': WHATEVER THE INPUT: true; the input reads as it did. -/
def powerChecksSpec : ChangeSpec := { name := "powerChecks", fn := fun _ => fun
  | [d1, d2] => { results := [.lit (.bool true)], args := [d1, d2] }
  | _ => none }
def powerChecksRow : OpenClaim := { program := "ytcjbbneiobnmkaagreat", sum := "93e56d833a2d56f5316cb3c4ff387f5660b1a0a59263cdc97e18cb0cdc35bfa0", func := "domino/dominolaw13.PowerChecks", spec := "powerChecks", inPlace := ["internal/bytealg.abigen_runtime_cmpstring"], unfollowed := true, recurses := true, named := ["math/bits.divideError", "math/bits.overflowError"], apart := false }
def PowerChecksSaid : Prop := powerChecksRow.holds Tryz.pinned (OpenSpec.ofChange powerChecksSpec)

/-- ITS FALSE NEIGHBOUR: 'it returns false'. Refute it at one input. -/
def powerChecksWrong : ChangeSpec := { name := "powerChecks", fn := fun _ => fun
  | [d1, d2] => { results := [.lit (.bool false)], args := [d1, d2] }
  | _ => none }
def PowerChecksWrongFalsely : Prop := powerChecksRow.holds Tryz.pinned (OpenSpec.ofChange powerChecksWrong)

/-- 'dominolaw13.PowerExps': WHATEVER THE INPUT: true; the input reads as it did. -/
def powerExpsSpec : ChangeSpec := { name := "powerExps", fn := fun _ => fun
  | [d1, d2, d3] => { results := [.lit (.bool true)], args := [d1, d2, d3] }
  | _ => none }
def powerExpsRow : OpenClaim := { program := "ytcjbbneiobnmkaagreat", sum := "93e56d833a2d56f5316cb3c4ff387f5660b1a0a59263cdc97e18cb0cdc35bfa0", func := "domino/dominolaw13.PowerExps", spec := "powerExps", inPlace := ["internal/bytealg.abigen_runtime_cmpstring"], unfollowed := true, recurses := true, named := ["math/bits.divideError", "math/bits.overflowError"], apart := false }
def PowerExpsSaid : Prop := powerExpsRow.holds Tryz.pinned (OpenSpec.ofChange powerExpsSpec)

/-- ITS FALSE NEIGHBOUR: 'it returns false'. Refute it at one input. -/
def powerExpsWrong : ChangeSpec := { name := "powerExps", fn := fun _ => fun
  | [d1, d2, d3] => { results := [.lit (.bool false)], args := [d1, d2, d3] }
  | _ => none }
def PowerExpsWrongFalsely : Prop := powerExpsRow.holds Tryz.pinned (OpenSpec.ofChange powerExpsWrong)

/-- 'dominolaw13.PowerProducts': WHATEVER THE INPUT: true; the input reads as it did. -/
def powerProductsSpec : ChangeSpec := { name := "powerProducts", fn := fun _ => fun
  | [d1, d2, d3] => { results := [.lit (.bool true)], args := [d1, d2, d3] }
  | _ => none }
def powerProductsRow : OpenClaim := { program := "ytcjbbneiobnmkaagreat", sum := "93e56d833a2d56f5316cb3c4ff387f5660b1a0a59263cdc97e18cb0cdc35bfa0", func := "domino/dominolaw13.PowerProducts", spec := "powerProducts", inPlace := ["internal/bytealg.abigen_runtime_cmpstring"], unfollowed := true, recurses := true, named := ["math/bits.divideError", "math/bits.overflowError"], apart := false }
def PowerProductsSaid : Prop := powerProductsRow.holds Tryz.pinned (OpenSpec.ofChange powerProductsSpec)

/-- ITS FALSE NEIGHBOUR: 'it returns false'. Refute it at one input. -/
def powerProductsWrong : ChangeSpec := { name := "powerProducts", fn := fun _ => fun
  | [d1, d2, d3] => { results := [.lit (.bool false)], args := [d1, d2, d3] }
  | _ => none }
def PowerProductsWrongFalsely : Prop := powerProductsRow.holds Tryz.pinned (OpenSpec.ofChange powerProductsWrong)

/-- 'dominolaw13.PowerTables': WHATEVER THE INPUT: true; the input reads as it did. -/
def powerTablesSpec : ChangeSpec := { name := "powerTables", fn := fun _ => fun
  | [d1, d2, d3] => { results := [.lit (.bool true)], args := [d1, d2, d3] }
  | _ => none }
def powerTablesRow : OpenClaim := { program := "ytcjbbneiobnmkaagreat", sum := "93e56d833a2d56f5316cb3c4ff387f5660b1a0a59263cdc97e18cb0cdc35bfa0", func := "domino/dominolaw13.PowerTables", spec := "powerTables", inPlace := ["internal/bytealg.abigen_runtime_cmpstring"], unfollowed := true, recurses := true, named := ["math/bits.divideError", "math/bits.overflowError"], apart := false }
def PowerTablesSaid : Prop := powerTablesRow.holds Tryz.pinned (OpenSpec.ofChange powerTablesSpec)

/-- ITS FALSE NEIGHBOUR: 'it returns false'. Refute it at one input. -/
def powerTablesWrong : ChangeSpec := { name := "powerTables", fn := fun _ => fun
  | [d1, d2, d3] => { results := [.lit (.bool false)], args := [d1, d2, d3] }
  | _ => none }
def PowerTablesWrongFalsely : Prop := powerTablesRow.holds Tryz.pinned (OpenSpec.ofChange powerTablesWrong)

/-- 'dominolaw13.PowerMultiplies': WHATEVER THE INPUT: true; the input reads as it did. -/
def powerMultipliesSpec : ChangeSpec := { name := "powerMultiplies", fn := fun _ => fun
  | [d1, d2, d3] => { results := [.lit (.bool true)], args := [d1, d2, d3] }
  | _ => none }
def powerMultipliesRow : OpenClaim := { program := "ytcjbbneiobnmkaagreat", sum := "93e56d833a2d56f5316cb3c4ff387f5660b1a0a59263cdc97e18cb0cdc35bfa0", func := "domino/dominolaw13.PowerMultiplies", spec := "powerMultiplies", inPlace := ["internal/bytealg.abigen_runtime_cmpstring"], unfollowed := true, recurses := true, named := ["math/bits.divideError", "math/bits.overflowError"], apart := false }
def PowerMultipliesSaid : Prop := powerMultipliesRow.holds Tryz.pinned (OpenSpec.ofChange powerMultipliesSpec)

/-- ITS FALSE NEIGHBOUR: 'it returns false'. Refute it at one input. -/
def powerMultipliesWrong : ChangeSpec := { name := "powerMultiplies", fn := fun _ => fun
  | [d1, d2, d3] => { results := [.lit (.bool false)], args := [d1, d2, d3] }
  | _ => none }
def PowerMultipliesWrongFalsely : Prop := powerMultipliesRow.holds Tryz.pinned (OpenSpec.ofChange powerMultipliesWrong)

/-- 'dominolaw36.WitnessExponents': WHATEVER THE INPUT: true; the input reads as it did. -/
def witnessExponentsSpec : ChangeSpec := { name := "witnessExponents", fn := fun _ => fun
  | [d] => { results := [.lit (.bool true)], args := [d] }
  | _ => none }
def witnessExponentsRow : OpenClaim := { program := "ytcjbbneiobnmkaagreat", sum := "93e56d833a2d56f5316cb3c4ff387f5660b1a0a59263cdc97e18cb0cdc35bfa0", func := "domino/dominolaw36.WitnessExponents", spec := "witnessExponents", inPlace := ["internal/bytealg.abigen_runtime_cmpstring"], unfollowed := true, recurses := true, named := ["math/bits.divideError", "math/bits.overflowError"], apart := false }
def WitnessExponentsSaid : Prop := witnessExponentsRow.holds Tryz.pinned (OpenSpec.ofChange witnessExponentsSpec)

/-- ITS FALSE NEIGHBOUR: 'it returns false'. Refute it at one input. -/
def witnessExponentsWrong : ChangeSpec := { name := "witnessExponents", fn := fun _ => fun
  | [d] => { results := [.lit (.bool false)], args := [d] }
  | _ => none }
def WitnessExponentsWrongFalsely : Prop := witnessExponentsRow.holds Tryz.pinned (OpenSpec.ofChange witnessExponentsWrong)

/-- 'dominolaw36.WitnessUpdates': WHATEVER THE INPUT: true; the input reads as it did. -/
def witnessUpdatesSpec : ChangeSpec := { name := "witnessUpdates", fn := fun _ => fun
  | [d1, d2] => { results := [.lit (.bool true)], args := [d1, d2] }
  | _ => none }
def witnessUpdatesRow : OpenClaim := { program := "ytcjbbneiobnmkaagreat", sum := "93e56d833a2d56f5316cb3c4ff387f5660b1a0a59263cdc97e18cb0cdc35bfa0", func := "domino/dominolaw36.WitnessUpdates", spec := "witnessUpdates", inPlace := ["internal/bytealg.abigen_runtime_cmpstring"], unfollowed := true, recurses := true, named := ["math/bits.divideError", "math/bits.overflowError"], apart := false }
def WitnessUpdatesSaid : Prop := witnessUpdatesRow.holds Tryz.pinned (OpenSpec.ofChange witnessUpdatesSpec)

/-- ITS FALSE NEIGHBOUR: 'it returns false'. Refute it at one input. -/
def witnessUpdatesWrong : ChangeSpec := { name := "witnessUpdates", fn := fun _ => fun
  | [d1, d2] => { results := [.lit (.bool false)], args := [d1, d2] }
  | _ => none }
def WitnessUpdatesWrongFalsely : Prop := witnessUpdatesRow.holds Tryz.pinned (OpenSpec.ofChange witnessUpdatesWrong)

/-- 'dominolaw36.WitnessStays': WHATEVER THE INPUT: true; the input reads as it did. -/
def witnessStaysSpec : ChangeSpec := { name := "witnessStays", fn := fun _ => fun
  | [d1, d2] => { results := [.lit (.bool true)], args := [d1, d2] }
  | _ => none }
def witnessStaysRow : OpenClaim := { program := "ytcjbbneiobnmkaagreat", sum := "93e56d833a2d56f5316cb3c4ff387f5660b1a0a59263cdc97e18cb0cdc35bfa0", func := "domino/dominolaw36.WitnessStays", spec := "witnessStays", inPlace := ["internal/bytealg.abigen_runtime_cmpstring"], unfollowed := true, recurses := true, named := ["math/bits.divideError", "math/bits.overflowError"], apart := false }
def WitnessStaysSaid : Prop := witnessStaysRow.holds Tryz.pinned (OpenSpec.ofChange witnessStaysSpec)

/-- ITS FALSE NEIGHBOUR: 'it returns false'. Refute it at one input. -/
def witnessStaysWrong : ChangeSpec := { name := "witnessStays", fn := fun _ => fun
  | [d1, d2] => { results := [.lit (.bool false)], args := [d1, d2] }
  | _ => none }
def WitnessStaysWrongFalsely : Prop := witnessStaysRow.holds Tryz.pinned (OpenSpec.ofChange witnessStaysWrong)

/-- 'dominolaw36.WitnessSteps': WHATEVER THE INPUT: true; the input reads as it did. -/
def witnessStepsSpec : ChangeSpec := { name := "witnessSteps", fn := fun _ => fun
  | [d1, d2] => { results := [.lit (.bool true)], args := [d1, d2] }
  | _ => none }
def witnessStepsRow : OpenClaim := { program := "ytcjbbneiobnmkaagreat", sum := "93e56d833a2d56f5316cb3c4ff387f5660b1a0a59263cdc97e18cb0cdc35bfa0", func := "domino/dominolaw36.WitnessSteps", spec := "witnessSteps", inPlace := ["internal/bytealg.abigen_runtime_cmpstring"], unfollowed := true, recurses := true, named := ["math/bits.divideError", "math/bits.overflowError"], apart := false }
def WitnessStepsSaid : Prop := witnessStepsRow.holds Tryz.pinned (OpenSpec.ofChange witnessStepsSpec)

/-- ITS FALSE NEIGHBOUR: 'it returns false'. Refute it at one input. -/
def witnessStepsWrong : ChangeSpec := { name := "witnessSteps", fn := fun _ => fun
  | [d1, d2] => { results := [.lit (.bool false)], args := [d1, d2] }
  | _ => none }
def WitnessStepsWrongFalsely : Prop := witnessStepsRow.holds Tryz.pinned (OpenSpec.ofChange witnessStepsWrong)

/-- 'dominolaw36.WitnessAlone': WHATEVER THE INPUT: true; the input reads as it did. -/
def witnessAloneSpec : ChangeSpec := { name := "witnessAlone", fn := fun _ => fun
  | [d1, d2] => { results := [.lit (.bool true)], args := [d1, d2] }
  | _ => none }
def witnessAloneRow : OpenClaim := { program := "ytcjbbneiobnmkaagreat", sum := "93e56d833a2d56f5316cb3c4ff387f5660b1a0a59263cdc97e18cb0cdc35bfa0", func := "domino/dominolaw36.WitnessAlone", spec := "witnessAlone", inPlace := ["internal/bytealg.abigen_runtime_cmpstring"], unfollowed := true, recurses := true, named := ["math/bits.divideError", "math/bits.overflowError"], apart := false }
def WitnessAloneSaid : Prop := witnessAloneRow.holds Tryz.pinned (OpenSpec.ofChange witnessAloneSpec)

/-- ITS FALSE NEIGHBOUR: 'it returns false'. Refute it at one input. -/
def witnessAloneWrong : ChangeSpec := { name := "witnessAlone", fn := fun _ => fun
  | [d1, d2] => { results := [.lit (.bool false)], args := [d1, d2] }
  | _ => none }
def WitnessAloneWrongFalsely : Prop := witnessAloneRow.holds Tryz.pinned (OpenSpec.ofChange witnessAloneWrong)

/-- 'dominolaw36.WitnessNothing': WHATEVER THE INPUT: true; the input reads as it did. -/
def witnessNothingSpec : ChangeSpec := { name := "witnessNothing", fn := fun _ => fun
  | [d1, d2] => { results := [.lit (.bool true)], args := [d1, d2] }
  | _ => none }
def witnessNothingRow : OpenClaim := { program := "ytcjbbneiobnmkaagreat", sum := "93e56d833a2d56f5316cb3c4ff387f5660b1a0a59263cdc97e18cb0cdc35bfa0", func := "domino/dominolaw36.WitnessNothing", spec := "witnessNothing", inPlace := ["internal/bytealg.abigen_runtime_cmpstring"], unfollowed := true, recurses := true, named := ["math/bits.divideError", "math/bits.overflowError"], apart := false }
def WitnessNothingSaid : Prop := witnessNothingRow.holds Tryz.pinned (OpenSpec.ofChange witnessNothingSpec)

/-- ITS FALSE NEIGHBOUR: 'it returns false'. Refute it at one input. -/
def witnessNothingWrong : ChangeSpec := { name := "witnessNothing", fn := fun _ => fun
  | [d1, d2] => { results := [.lit (.bool false)], args := [d1, d2] }
  | _ => none }
def WitnessNothingWrongFalsely : Prop := witnessNothingRow.holds Tryz.pinned (OpenSpec.ofChange witnessNothingWrong)

/- THE SECOND FORM. 'bulk': how many values and letters a reading holds, each counted each time it is reached (what is shared counts as often as it is met; a slice's spare places count too). A statement '..UptoSaid' is the law's where the arguments, and the package variables that the reading takes, are together of bulk at most 1048576: NARROWER than '..Said'. Prove '..Said' where nothing that the law and all that it calls make is longer than what came in: it says more and counts as full. Else prove '..UptoSaid'. A law counts once. -/
mutual
def uptoBulk {H : Type} : DataW H → Nat
  | .lit (.string bytes) => bytes.length + 1
  | .lit _ => 1
  | .nil => 1
  | .ptr d => uptoBulk d + 1
  | .slice elems spare => uptoBulkAll elems + uptoBulkAll spare + 1
  | .agg parts => uptoBulkAll parts + 1
  | .iface _ d => uptoBulk d + 1
  | .map entries => uptoBulkEntries entries + 1
  | .held _ => 1
def uptoBulkAll {H : Type} : List (DataW H) → Nat
  | [] => 0
  | d :: r => uptoBulk d + uptoBulkAll r
def uptoBulkEntries {H : Type} : List (Lit × DataW H) → Nat
  | [] => 0
  | x :: r => uptoBulkEntry x + uptoBulkEntries r
def uptoBulkEntry {H : Type} : Lit × DataW H → Nat
  | (.string bytes, d) => bytes.length + uptoBulk d + 1
  | (_, d) => uptoBulk d + 1
 end
def uptoSmall : (H : Type) → List (DataW H) → Bool := fun _ ds => decide (uptoBulkAll ds ≤ 1048576)
def OpenSpec.upto (s : _root_.Go.ChangeSpec) : _root_.Go.OpenSpec := { _root_.Go.OpenSpec.ofChange s with cond := some uptoSmall }

/-- 'dominolaw13.PowerChecks', WHERE WHAT IT READS IS OF BULK AT MOST 1048576: true; the input reads as it did. -/
def powerChecksUptoRow : OpenClaim := { program := "ytcjbbneiobnmkaagreat", sum := "93e56d833a2d56f5316cb3c4ff387f5660b1a0a59263cdc97e18cb0cdc35bfa0", func := "domino/dominolaw13.PowerChecks", spec := "powerChecks", inPlace := ["internal/bytealg.abigen_runtime_cmpstring"], unfollowed := true, recurses := true, named := ["math/bits.divideError", "math/bits.overflowError"], apart := false, narrowed := true }
def PowerChecksUptoSaid : Prop := powerChecksUptoRow.holds Tryz.pinned (OpenSpec.upto powerChecksSpec)

/-- 'dominolaw13.PowerExps', WHERE WHAT IT READS IS OF BULK AT MOST 1048576: true; the input reads as it did. -/
def powerExpsUptoRow : OpenClaim := { program := "ytcjbbneiobnmkaagreat", sum := "93e56d833a2d56f5316cb3c4ff387f5660b1a0a59263cdc97e18cb0cdc35bfa0", func := "domino/dominolaw13.PowerExps", spec := "powerExps", inPlace := ["internal/bytealg.abigen_runtime_cmpstring"], unfollowed := true, recurses := true, named := ["math/bits.divideError", "math/bits.overflowError"], apart := false, narrowed := true }
def PowerExpsUptoSaid : Prop := powerExpsUptoRow.holds Tryz.pinned (OpenSpec.upto powerExpsSpec)

/-- 'dominolaw13.PowerProducts', WHERE WHAT IT READS IS OF BULK AT MOST 1048576: true; the input reads as it did. -/
def powerProductsUptoRow : OpenClaim := { program := "ytcjbbneiobnmkaagreat", sum := "93e56d833a2d56f5316cb3c4ff387f5660b1a0a59263cdc97e18cb0cdc35bfa0", func := "domino/dominolaw13.PowerProducts", spec := "powerProducts", inPlace := ["internal/bytealg.abigen_runtime_cmpstring"], unfollowed := true, recurses := true, named := ["math/bits.divideError", "math/bits.overflowError"], apart := false, narrowed := true }
def PowerProductsUptoSaid : Prop := powerProductsUptoRow.holds Tryz.pinned (OpenSpec.upto powerProductsSpec)

/-- 'dominolaw13.PowerTables', WHERE WHAT IT READS IS OF BULK AT MOST 1048576: true; the input reads as it did. -/
def powerTablesUptoRow : OpenClaim := { program := "ytcjbbneiobnmkaagreat", sum := "93e56d833a2d56f5316cb3c4ff387f5660b1a0a59263cdc97e18cb0cdc35bfa0", func := "domino/dominolaw13.PowerTables", spec := "powerTables", inPlace := ["internal/bytealg.abigen_runtime_cmpstring"], unfollowed := true, recurses := true, named := ["math/bits.divideError", "math/bits.overflowError"], apart := false, narrowed := true }
def PowerTablesUptoSaid : Prop := powerTablesUptoRow.holds Tryz.pinned (OpenSpec.upto powerTablesSpec)

/-- 'dominolaw13.PowerMultiplies', WHERE WHAT IT READS IS OF BULK AT MOST 1048576: true; the input reads as it did. -/
def powerMultipliesUptoRow : OpenClaim := { program := "ytcjbbneiobnmkaagreat", sum := "93e56d833a2d56f5316cb3c4ff387f5660b1a0a59263cdc97e18cb0cdc35bfa0", func := "domino/dominolaw13.PowerMultiplies", spec := "powerMultiplies", inPlace := ["internal/bytealg.abigen_runtime_cmpstring"], unfollowed := true, recurses := true, named := ["math/bits.divideError", "math/bits.overflowError"], apart := false, narrowed := true }
def PowerMultipliesUptoSaid : Prop := powerMultipliesUptoRow.holds Tryz.pinned (OpenSpec.upto powerMultipliesSpec)

/-- 'dominolaw36.WitnessExponents', WHERE WHAT IT READS IS OF BULK AT MOST 1048576: true; the input reads as it did. -/
def witnessExponentsUptoRow : OpenClaim := { program := "ytcjbbneiobnmkaagreat", sum := "93e56d833a2d56f5316cb3c4ff387f5660b1a0a59263cdc97e18cb0cdc35bfa0", func := "domino/dominolaw36.WitnessExponents", spec := "witnessExponents", inPlace := ["internal/bytealg.abigen_runtime_cmpstring"], unfollowed := true, recurses := true, named := ["math/bits.divideError", "math/bits.overflowError"], apart := false, narrowed := true }
def WitnessExponentsUptoSaid : Prop := witnessExponentsUptoRow.holds Tryz.pinned (OpenSpec.upto witnessExponentsSpec)

/-- 'dominolaw36.WitnessUpdates', WHERE WHAT IT READS IS OF BULK AT MOST 1048576: true; the input reads as it did. -/
def witnessUpdatesUptoRow : OpenClaim := { program := "ytcjbbneiobnmkaagreat", sum := "93e56d833a2d56f5316cb3c4ff387f5660b1a0a59263cdc97e18cb0cdc35bfa0", func := "domino/dominolaw36.WitnessUpdates", spec := "witnessUpdates", inPlace := ["internal/bytealg.abigen_runtime_cmpstring"], unfollowed := true, recurses := true, named := ["math/bits.divideError", "math/bits.overflowError"], apart := false, narrowed := true }
def WitnessUpdatesUptoSaid : Prop := witnessUpdatesUptoRow.holds Tryz.pinned (OpenSpec.upto witnessUpdatesSpec)

/-- 'dominolaw36.WitnessStays', WHERE WHAT IT READS IS OF BULK AT MOST 1048576: true; the input reads as it did. -/
def witnessStaysUptoRow : OpenClaim := { program := "ytcjbbneiobnmkaagreat", sum := "93e56d833a2d56f5316cb3c4ff387f5660b1a0a59263cdc97e18cb0cdc35bfa0", func := "domino/dominolaw36.WitnessStays", spec := "witnessStays", inPlace := ["internal/bytealg.abigen_runtime_cmpstring"], unfollowed := true, recurses := true, named := ["math/bits.divideError", "math/bits.overflowError"], apart := false, narrowed := true }
def WitnessStaysUptoSaid : Prop := witnessStaysUptoRow.holds Tryz.pinned (OpenSpec.upto witnessStaysSpec)

/-- 'dominolaw36.WitnessSteps', WHERE WHAT IT READS IS OF BULK AT MOST 1048576: true; the input reads as it did. -/
def witnessStepsUptoRow : OpenClaim := { program := "ytcjbbneiobnmkaagreat", sum := "93e56d833a2d56f5316cb3c4ff387f5660b1a0a59263cdc97e18cb0cdc35bfa0", func := "domino/dominolaw36.WitnessSteps", spec := "witnessSteps", inPlace := ["internal/bytealg.abigen_runtime_cmpstring"], unfollowed := true, recurses := true, named := ["math/bits.divideError", "math/bits.overflowError"], apart := false, narrowed := true }
def WitnessStepsUptoSaid : Prop := witnessStepsUptoRow.holds Tryz.pinned (OpenSpec.upto witnessStepsSpec)

/-- 'dominolaw36.WitnessAlone', WHERE WHAT IT READS IS OF BULK AT MOST 1048576: true; the input reads as it did. -/
def witnessAloneUptoRow : OpenClaim := { program := "ytcjbbneiobnmkaagreat", sum := "93e56d833a2d56f5316cb3c4ff387f5660b1a0a59263cdc97e18cb0cdc35bfa0", func := "domino/dominolaw36.WitnessAlone", spec := "witnessAlone", inPlace := ["internal/bytealg.abigen_runtime_cmpstring"], unfollowed := true, recurses := true, named := ["math/bits.divideError", "math/bits.overflowError"], apart := false, narrowed := true }
def WitnessAloneUptoSaid : Prop := witnessAloneUptoRow.holds Tryz.pinned (OpenSpec.upto witnessAloneSpec)

/-- 'dominolaw36.WitnessNothing', WHERE WHAT IT READS IS OF BULK AT MOST 1048576: true; the input reads as it did. -/
def witnessNothingUptoRow : OpenClaim := { program := "ytcjbbneiobnmkaagreat", sum := "93e56d833a2d56f5316cb3c4ff387f5660b1a0a59263cdc97e18cb0cdc35bfa0", func := "domino/dominolaw36.WitnessNothing", spec := "witnessNothing", inPlace := ["internal/bytealg.abigen_runtime_cmpstring"], unfollowed := true, recurses := true, named := ["math/bits.divideError", "math/bits.overflowError"], apart := false, narrowed := true }
def WitnessNothingUptoSaid : Prop := witnessNothingUptoRow.holds Tryz.pinned (OpenSpec.upto witnessNothingSpec)

end Rows
end Go.Proofs.YtcjbbneiobnmkaaGreat
