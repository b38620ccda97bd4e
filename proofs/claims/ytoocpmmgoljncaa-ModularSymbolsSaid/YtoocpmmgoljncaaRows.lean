/-
  No cell of these rows narrows 'for every input' (looked for: loops, veiled, ifaces, maps, wideKeys, modest, calm, conditions, laid).
  DERIVED. THE GIVEN ROWS OF THIS SEAT. 6 by the template 'for every input the law returns true; each argument reads behind the call as it read before'; 0 by the template 'total and deterministic' (their statements: YtoocpmmgoljncaaTotals.lean).
  GIVEN WITH THE SEED: the statements are not yours to turn. If you find one false, say at which input.
  Laid BY PROGRAM, IN A SANDBOX (cutbox-rows.mjs): the forced cells as the released guide's own fill.sh prints them over the translation 384d5cd15269c1f5… (all of the seat's roots in one cut). By AI agents, Wed Nov 11 2026. No macro, syntax, notation, axiom, sorry.
-/
import Derived.Test.YtoocpmmgoljncaaChecked
import GoSem.Claim
import GoSem.ClaimJoined
import GoSem.ClaimMapViews
import Derived.JoinedTies
import Derived.KernelRfl
namespace Go.Proofs.Ytoocpmmgoljncaa
/- THE CELL 'sum', in the pinned program and in every row, IS THE sha256 OF THE DUMP (.gsa) THAT YtoocpmmgoljncaaProg.lean LOADS. Nothing in Lean hashes anything: it is a label: what it is worth is what the hold of that sum in a sandbox is worth. -/
noncomputable def Try.pinned : Pinned := { name := "ytoocpmmgoljncaa", sum := "384d5cd15269c1f54dd94fbecfe6dfac2c9a65fdc6c63af66a55f45bf1ce9e3a", checked := Try.checked }
namespace Rows
def none {H : Type} : Left H := { results := [], args := [] }

/-- 'dominolaw03.ModularRemainders': WHATEVER THE INPUT: true; the input reads as it did. -/
def modularRemaindersSpec : ChangeSpec := { name := "modularRemainders", fn := fun _ => fun
  | [d1, d2, d3] => { results := [.lit (.bool true)], args := [d1, d2, d3] }
  | _ => none }
def modularRemaindersRow : OpenClaim := { program := "ytoocpmmgoljncaa", sum := "384d5cd15269c1f54dd94fbecfe6dfac2c9a65fdc6c63af66a55f45bf1ce9e3a", func := "domino/dominolaw03.ModularRemainders", spec := "modularRemainders", inPlace := ["internal/bytealg.abigen_runtime_cmpstring"], unfollowed := true, recurses := true, named := ["math/bits.divideError", "math/bits.overflowError"], apart := false }
def ModularRemaindersSaid : Prop := modularRemaindersRow.holds Try.pinned (OpenSpec.ofChange modularRemaindersSpec)

/-- ITS FALSE NEIGHBOUR: 'it returns false'. Refute it at one input. -/
def modularRemaindersWrong : ChangeSpec := { name := "modularRemainders", fn := fun _ => fun
  | [d1, d2, d3] => { results := [.lit (.bool false)], args := [d1, d2, d3] }
  | _ => none }
def ModularRemaindersWrongFalsely : Prop := modularRemaindersRow.holds Try.pinned (OpenSpec.ofChange modularRemaindersWrong)

/-- 'dominolaw03.ModularJacobis': WHATEVER THE INPUT: true; the input reads as it did. -/
def modularJacobisSpec : ChangeSpec := { name := "modularJacobis", fn := fun _ => fun
  | [d1, d2] => { results := [.lit (.bool true)], args := [d1, d2] }
  | _ => none }
def modularJacobisRow : OpenClaim := { program := "ytoocpmmgoljncaa", sum := "384d5cd15269c1f54dd94fbecfe6dfac2c9a65fdc6c63af66a55f45bf1ce9e3a", func := "domino/dominolaw03.ModularJacobis", spec := "modularJacobis", inPlace := ["internal/bytealg.abigen_runtime_cmpstring"], unfollowed := true, recurses := true, named := ["math/bits.divideError", "math/bits.overflowError"], apart := false }
def ModularJacobisSaid : Prop := modularJacobisRow.holds Try.pinned (OpenSpec.ofChange modularJacobisSpec)

/-- ITS FALSE NEIGHBOUR: 'it returns false'. Refute it at one input. -/
def modularJacobisWrong : ChangeSpec := { name := "modularJacobis", fn := fun _ => fun
  | [d1, d2] => { results := [.lit (.bool false)], args := [d1, d2] }
  | _ => none }
def ModularJacobisWrongFalsely : Prop := modularJacobisRow.holds Try.pinned (OpenSpec.ofChange modularJacobisWrong)

/-- 'dominolaw03.ModularSymbols': WHATEVER THE INPUT: true; the input reads as it did. -/
def modularSymbolsSpec : ChangeSpec := { name := "modularSymbols", fn := fun _ => fun
  | [d1, d2] => { results := [.lit (.bool true)], args := [d1, d2] }
  | _ => none }
def modularSymbolsRow : OpenClaim := { program := "ytoocpmmgoljncaa", sum := "384d5cd15269c1f54dd94fbecfe6dfac2c9a65fdc6c63af66a55f45bf1ce9e3a", func := "domino/dominolaw03.ModularSymbols", spec := "modularSymbols", inPlace := ["internal/bytealg.abigen_runtime_cmpstring"], unfollowed := true, recurses := true, named := ["math/bits.divideError", "math/bits.overflowError"], apart := false }
def ModularSymbolsSaid : Prop := modularSymbolsRow.holds Try.pinned (OpenSpec.ofChange modularSymbolsSpec)

/-- ITS FALSE NEIGHBOUR: 'it returns false'. Refute it at one input. -/
def modularSymbolsWrong : ChangeSpec := { name := "modularSymbols", fn := fun _ => fun
  | [d1, d2] => { results := [.lit (.bool false)], args := [d1, d2] }
  | _ => none }
def ModularSymbolsWrongFalsely : Prop := modularSymbolsRow.holds Try.pinned (OpenSpec.ofChange modularSymbolsWrong)

/-- 'dominolaw03.ModularAdds': WHATEVER THE INPUT: true; the input reads as it did. -/
def modularAddsSpec : ChangeSpec := { name := "modularAdds", fn := fun _ => fun
  | [d] => { results := [.lit (.bool true)], args := [d] }
  | _ => none }
def modularAddsRow : OpenClaim := { program := "ytoocpmmgoljncaa", sum := "384d5cd15269c1f54dd94fbecfe6dfac2c9a65fdc6c63af66a55f45bf1ce9e3a", func := "domino/dominolaw03.ModularAdds", spec := "modularAdds", inPlace := ["internal/bytealg.abigen_runtime_cmpstring"], unfollowed := true, recurses := true, named := ["math/bits.divideError", "math/bits.overflowError"], apart := false }
def ModularAddsSaid : Prop := modularAddsRow.holds Try.pinned (OpenSpec.ofChange modularAddsSpec)

/-- ITS FALSE NEIGHBOUR: 'it returns false'. Refute it at one input. -/
def modularAddsWrong : ChangeSpec := { name := "modularAdds", fn := fun _ => fun
  | [d] => { results := [.lit (.bool false)], args := [d] }
  | _ => none }
def ModularAddsWrongFalsely : Prop := modularAddsRow.holds Try.pinned (OpenSpec.ofChange modularAddsWrong)

/-- 'dominolaw03.ModularRing': WHATEVER THE INPUT: true; the input reads as it did. -/
def modularRingSpec : ChangeSpec := { name := "modularRing", fn := fun _ => fun
  | [d1, d2, d3] => { results := [.lit (.bool true)], args := [d1, d2, d3] }
  | _ => none }
def modularRingRow : OpenClaim := { program := "ytoocpmmgoljncaa", sum := "384d5cd15269c1f54dd94fbecfe6dfac2c9a65fdc6c63af66a55f45bf1ce9e3a", func := "domino/dominolaw03.ModularRing", spec := "modularRing", inPlace := ["internal/bytealg.abigen_runtime_cmpstring"], unfollowed := true, recurses := true, named := ["math/bits.divideError", "math/bits.overflowError"], apart := false }
def ModularRingSaid : Prop := modularRingRow.holds Try.pinned (OpenSpec.ofChange modularRingSpec)

/-- ITS FALSE NEIGHBOUR: 'it returns false'. Refute it at one input. -/
def modularRingWrong : ChangeSpec := { name := "modularRing", fn := fun _ => fun
  | [d1, d2, d3] => { results := [.lit (.bool false)], args := [d1, d2, d3] }
  | _ => none }
def ModularRingWrongFalsely : Prop := modularRingRow.holds Try.pinned (OpenSpec.ofChange modularRingWrong)

/-- 'dominolaw03.ModularExponents': WHATEVER THE INPUT: true; the input reads as it did. -/
def modularExponentsSpec : ChangeSpec := { name := "modularExponents", fn := fun _ => fun
  | [d1, d2, d3] => { results := [.lit (.bool true)], args := [d1, d2, d3] }
  | _ => none }
def modularExponentsRow : OpenClaim := { program := "ytoocpmmgoljncaa", sum := "384d5cd15269c1f54dd94fbecfe6dfac2c9a65fdc6c63af66a55f45bf1ce9e3a", func := "domino/dominolaw03.ModularExponents", spec := "modularExponents", inPlace := ["internal/bytealg.abigen_runtime_cmpstring"], unfollowed := true, recurses := true, named := ["math/bits.divideError", "math/bits.overflowError"], apart := false }
def ModularExponentsSaid : Prop := modularExponentsRow.holds Try.pinned (OpenSpec.ofChange modularExponentsSpec)

/-- ITS FALSE NEIGHBOUR: 'it returns false'. Refute it at one input. -/
def modularExponentsWrong : ChangeSpec := { name := "modularExponents", fn := fun _ => fun
  | [d1, d2, d3] => { results := [.lit (.bool false)], args := [d1, d2, d3] }
  | _ => none }
def ModularExponentsWrongFalsely : Prop := modularExponentsRow.holds Try.pinned (OpenSpec.ofChange modularExponentsWrong)

/- THE SECOND FORM. 'bulk': how many values and letters a reading holds, each counted each time it is reached (what is shared counts as often as it is met; a slice's spare places count too). A statement '..UptoSaid' is the law's where the arguments, and the package variables that the reading takes, are together of bulk at most 1048576: NARROWER than '..Said'. Prove '..Said' where nothing that the law and all that it calls make is longer than what came in: it says more and counts as full. Else prove '..UptoSaid'. A law counts once. -/
mutual
def uptoBulk {H : Type} : DataW H → Nat
  | .lit (.string bytes) => bytes.length + 1
  | .lit _ => 1
  | .nil => 1
  | .ptr d => uptoBulk d + 1
  | .slice elems spare => uptoBulkAll elems + uptoBulkAll spare + 1
  | .agg parts => uptoBulkAll parts + 1
  | .iface _ d => uptoBulk d + 1
  | .map entries => uptoBulkEntries entries + 1
  | .held _ => 1
def uptoBulkAll {H : Type} : List (DataW H) → Nat
  | [] => 0
  | d :: r => uptoBulk d + uptoBulkAll r
def uptoBulkEntries {H : Type} : List (Lit × DataW H) → Nat
  | [] => 0
  | x :: r => uptoBulkEntry x + uptoBulkEntries r
def uptoBulkEntry {H : Type} : Lit × DataW H → Nat
  | (.string bytes, d) => bytes.length + uptoBulk d + 1
  | (_, d) => uptoBulk d + 1
 end
def uptoSmall : (H : Type) → List (DataW H) → Bool := fun _ ds => decide (uptoBulkAll ds ≤ 1048576)
def OpenSpec.upto (s : _root_.Go.ChangeSpec) : _root_.Go.OpenSpec := { _root_.Go.OpenSpec.ofChange s with cond := some uptoSmall }

/-- 'dominolaw03.ModularRemainders', WHERE WHAT IT READS IS OF BULK AT MOST 1048576: true; the input reads as it did. -/
def modularRemaindersUptoRow : OpenClaim := { program := "ytoocpmmgoljncaa", sum := "384d5cd15269c1f54dd94fbecfe6dfac2c9a65fdc6c63af66a55f45bf1ce9e3a", func := "domino/dominolaw03.ModularRemainders", spec := "modularRemainders", inPlace := ["internal/bytealg.abigen_runtime_cmpstring"], unfollowed := true, recurses := true, named := ["math/bits.divideError", "math/bits.overflowError"], apart := false, narrowed := true }
def ModularRemaindersUptoSaid : Prop := modularRemaindersUptoRow.holds Try.pinned (OpenSpec.upto modularRemaindersSpec)

/-- 'dominolaw03.ModularJacobis', WHERE WHAT IT READS IS OF BULK AT MOST 1048576: true; the input reads as it did. -/
def modularJacobisUptoRow : OpenClaim := { program := "ytoocpmmgoljncaa", sum := "384d5cd15269c1f54dd94fbecfe6dfac2c9a65fdc6c63af66a55f45bf1ce9e3a", func := "domino/dominolaw03.ModularJacobis", spec := "modularJacobis", inPlace := ["internal/bytealg.abigen_runtime_cmpstring"], unfollowed := true, recurses := true, named := ["math/bits.divideError", "math/bits.overflowError"], apart := false, narrowed := true }
def ModularJacobisUptoSaid : Prop := modularJacobisUptoRow.holds Try.pinned (OpenSpec.upto modularJacobisSpec)

/-- 'dominolaw03.ModularSymbols', WHERE WHAT IT READS IS OF BULK AT MOST 1048576: true; the input reads as it did. -/
def modularSymbolsUptoRow : OpenClaim := { program := "ytoocpmmgoljncaa", sum := "384d5cd15269c1f54dd94fbecfe6dfac2c9a65fdc6c63af66a55f45bf1ce9e3a", func := "domino/dominolaw03.ModularSymbols", spec := "modularSymbols", inPlace := ["internal/bytealg.abigen_runtime_cmpstring"], unfollowed := true, recurses := true, named := ["math/bits.divideError", "math/bits.overflowError"], apart := false, narrowed := true }
def ModularSymbolsUptoSaid : Prop := modularSymbolsUptoRow.holds Try.pinned (OpenSpec.upto modularSymbolsSpec)

/-- 'dominolaw03.ModularAdds', WHERE WHAT IT READS IS OF BULK AT MOST 1048576: true; the input reads as it did. -/
def modularAddsUptoRow : OpenClaim := { program := "ytoocpmmgoljncaa", sum := "384d5cd15269c1f54dd94fbecfe6dfac2c9a65fdc6c63af66a55f45bf1ce9e3a", func := "domino/dominolaw03.ModularAdds", spec := "modularAdds", inPlace := ["internal/bytealg.abigen_runtime_cmpstring"], unfollowed := true, recurses := true, named := ["math/bits.divideError", "math/bits.overflowError"], apart := false, narrowed := true }
def ModularAddsUptoSaid : Prop := modularAddsUptoRow.holds Try.pinned (OpenSpec.upto modularAddsSpec)

/-- 'dominolaw03.ModularRing', WHERE WHAT IT READS IS OF BULK AT MOST 1048576: true; the input reads as it did. -/
def modularRingUptoRow : OpenClaim := { program := "ytoocpmmgoljncaa", sum := "384d5cd15269c1f54dd94fbecfe6dfac2c9a65fdc6c63af66a55f45bf1ce9e3a", func := "domino/dominolaw03.ModularRing", spec := "modularRing", inPlace := ["internal/bytealg.abigen_runtime_cmpstring"], unfollowed := true, recurses := true, named := ["math/bits.divideError", "math/bits.overflowError"], apart := false, narrowed := true }
def ModularRingUptoSaid : Prop := modularRingUptoRow.holds Try.pinned (OpenSpec.upto modularRingSpec)

/-- 'dominolaw03.ModularExponents', WHERE WHAT IT READS IS OF BULK AT MOST 1048576: true; the input reads as it did. -/
def modularExponentsUptoRow : OpenClaim := { program := "ytoocpmmgoljncaa", sum := "384d5cd15269c1f54dd94fbecfe6dfac2c9a65fdc6c63af66a55f45bf1ce9e3a", func := "domino/dominolaw03.ModularExponents", spec := "modularExponents", inPlace := ["internal/bytealg.abigen_runtime_cmpstring"], unfollowed := true, recurses := true, named := ["math/bits.divideError", "math/bits.overflowError"], apart := false, narrowed := true }
def ModularExponentsUptoSaid : Prop := modularExponentsUptoRow.holds Try.pinned (OpenSpec.upto modularExponentsSpec)

end Rows
end Go.Proofs.Ytoocpmmgoljncaa
