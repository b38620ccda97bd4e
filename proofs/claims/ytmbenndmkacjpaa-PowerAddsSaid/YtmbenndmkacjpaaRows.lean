/-
  No cell of these rows narrows 'for every input' (looked for: loops, veiled, ifaces, maps, wideKeys, modest, calm, conditions, laid).
  DERIVED. THE GIVEN ROWS OF THIS SEAT. 3 by the template 'for every input the law returns true; each argument reads behind the call as it read before'; 0 by the template 'total and deterministic' (their statements: YtmbenndmkacjpaaTotals.lean).
  GIVEN WITH THE SEED: the statements are not yours to turn. If you find one false, say at which input.
  Laid BY PROGRAM, IN A SANDBOX (cutbox-rows.mjs): the forced cells as the released guide's own fill.sh prints them over the translation db43dcdec8b30347… (all of the seat's roots in one cut). By AI agents, Wed Nov 11 2026. No macro, syntax, notation, axiom, sorry.
-/
import Derived.Test.YtmbenndmkacjpaaChecked
import GoSem.Claim
import GoSem.ClaimJoined
import GoSem.ClaimMapViews
import Derived.JoinedTies
import Derived.KernelRfl
namespace Go.Proofs.Ytmbenndmkacjpaa
/- THE CELL 'sum', in the pinned program and in every row, IS THE sha256 OF THE DUMP (.gsa) THAT YtmbenndmkacjpaaProg.lean LOADS. Nothing in Lean hashes anything: it is a label: what it is worth is what the hold of that sum in a sandbox is worth. -/
noncomputable def Try.pinned : Pinned := { name := "ytmbenndmkacjpaa", sum := "db43dcdec8b30347c7a91018fd5d9447f8de4b42cd9848ba181835caa4b8f10b", checked := Try.checked }
namespace Rows
def none {H : Type} : Left H := { results := [], args := [] }

/-- 'dominolaw13.PowerLooks': WHATEVER THE INPUT: true; the input reads as it did. -/
def powerLooksSpec : ChangeSpec := { name := "powerLooks", fn := fun _ => fun
  | [d1, d2, d3] => { results := [.lit (.bool true)], args := [d1, d2, d3] }
  | _ => none }
def powerLooksRow : OpenClaim := { program := "ytmbenndmkacjpaa", sum := "db43dcdec8b30347c7a91018fd5d9447f8de4b42cd9848ba181835caa4b8f10b", func := "domino/dominolaw13.PowerLooks", spec := "powerLooks", inPlace := ["internal/bytealg.abigen_runtime_cmpstring"], unfollowed := true, recurses := true, named := ["math/bits.divideError", "math/bits.overflowError"], apart := false }
def PowerLooksSaid : Prop := powerLooksRow.holds Try.pinned (OpenSpec.ofChange powerLooksSpec)

/-- ITS FALSE NEIGHBOUR: 'it returns false'. Refute it at one input. -/
def powerLooksWrong : ChangeSpec := { name := "powerLooks", fn := fun _ => fun
  | [d1, d2, d3] => { results := [.lit (.bool false)], args := [d1, d2, d3] }
  | _ => none }
def PowerLooksWrongFalsely : Prop := powerLooksRow.holds Try.pinned (OpenSpec.ofChange powerLooksWrong)

/-- 'dominolaw13.PowerAgrees': WHATEVER THE INPUT: true; the input reads as it did. -/
def powerAgreesSpec : ChangeSpec := { name := "powerAgrees", fn := fun _ => fun
  | [d1, d2, d3] => { results := [.lit (.bool true)], args := [d1, d2, d3] }
  | _ => none }
def powerAgreesRow : OpenClaim := { program := "ytmbenndmkacjpaa", sum := "db43dcdec8b30347c7a91018fd5d9447f8de4b42cd9848ba181835caa4b8f10b", func := "domino/dominolaw13.PowerAgrees", spec := "powerAgrees", inPlace := ["internal/bytealg.abigen_runtime_cmpstring"], unfollowed := true, recurses := true, named := ["math/bits.divideError", "math/bits.overflowError"], apart := false }
def PowerAgreesSaid : Prop := powerAgreesRow.holds Try.pinned (OpenSpec.ofChange powerAgreesSpec)

/-- ITS FALSE NEIGHBOUR: 'it returns false'. Refute it at one input. -/
def powerAgreesWrong : ChangeSpec := { name := "powerAgrees", fn := fun _ => fun
  | [d1, d2, d3] => { results := [.lit (.bool false)], args := [d1, d2, d3] }
  | _ => none }
def PowerAgreesWrongFalsely : Prop := powerAgreesRow.holds Try.pinned (OpenSpec.ofChange powerAgreesWrong)

/-- 'dominolaw13.PowerAdds': WHATEVER THE INPUT: true; the input reads as it did. -/
def powerAddsSpec : ChangeSpec := { name := "powerAdds", fn := fun _ => fun
  | [d1, d2, d3] => { results := [.lit (.bool true)], args := [d1, d2, d3] }
  | _ => none }
def powerAddsRow : OpenClaim := { program := "ytmbenndmkacjpaa", sum := "db43dcdec8b30347c7a91018fd5d9447f8de4b42cd9848ba181835caa4b8f10b", func := "domino/dominolaw13.PowerAdds", spec := "powerAdds", inPlace := ["internal/bytealg.abigen_runtime_cmpstring"], unfollowed := true, recurses := true, named := ["math/bits.divideError", "math/bits.overflowError"], apart := false }
def PowerAddsSaid : Prop := powerAddsRow.holds Try.pinned (OpenSpec.ofChange powerAddsSpec)

/-- ITS FALSE NEIGHBOUR: 'it returns false'. Refute it at one input. -/
def powerAddsWrong : ChangeSpec := { name := "powerAdds", fn := fun _ => fun
  | [d1, d2, d3] => { results := [.lit (.bool false)], args := [d1, d2, d3] }
  | _ => none }
def PowerAddsWrongFalsely : Prop := powerAddsRow.holds Try.pinned (OpenSpec.ofChange powerAddsWrong)

/- THE SECOND FORM. 'bulk': how many values and letters a reading holds, each counted each time it is reached (what is shared counts as often as it is met; a slice's spare places count too). A statement '..UptoSaid' is the law's where the arguments, and the package variables that the reading takes, are together of bulk at most 1048576: NARROWER than '..Said'. Prove '..Said' where nothing that the law and all that it calls make is longer than what came in: it says more and counts as full. Else prove '..UptoSaid'. A law counts once. -/
mutual
def uptoBulk {H : Type} : DataW H → Nat
  | .lit (.string bytes) => bytes.length + 1
  | .lit _ => 1
  | .nil => 1
  | .ptr d => uptoBulk d + 1
  | .slice elems spare => uptoBulkAll elems + uptoBulkAll spare + 1
  | .agg parts => uptoBulkAll parts + 1
  | .iface _ d => uptoBulk d + 1
  | .map entries => uptoBulkEntries entries + 1
  | .held _ => 1
def uptoBulkAll {H : Type} : List (DataW H) → Nat
  | [] => 0
  | d :: r => uptoBulk d + uptoBulkAll r
def uptoBulkEntries {H : Type} : List (Lit × DataW H) → Nat
  | [] => 0
  | x :: r => uptoBulkEntry x + uptoBulkEntries r
def uptoBulkEntry {H : Type} : Lit × DataW H → Nat
  | (.string bytes, d) => bytes.length + uptoBulk d + 1
  | (_, d) => uptoBulk d + 1
 end
def uptoSmall : (H : Type) → List (DataW H) → Bool := fun _ ds => decide (uptoBulkAll ds ≤ 1048576)
def OpenSpec.upto (s : _root_.Go.ChangeSpec) : _root_.Go.OpenSpec := { _root_.Go.OpenSpec.ofChange s with cond := some uptoSmall }

/-- 'dominolaw13.PowerLooks', WHERE WHAT IT READS IS OF BULK AT MOST 1048576: true; the input reads as it did. -/
def powerLooksUptoRow : OpenClaim := { program := "ytmbenndmkacjpaa", sum := "db43dcdec8b30347c7a91018fd5d9447f8de4b42cd9848ba181835caa4b8f10b", func := "domino/dominolaw13.PowerLooks", spec := "powerLooks", inPlace := ["internal/bytealg.abigen_runtime_cmpstring"], unfollowed := true, recurses := true, named := ["math/bits.divideError", "math/bits.overflowError"], apart := false, narrowed := true }
def PowerLooksUptoSaid : Prop := powerLooksUptoRow.holds Try.pinned (OpenSpec.upto powerLooksSpec)

/-- 'dominolaw13.PowerAgrees', WHERE WHAT IT READS IS OF BULK AT MOST 1048576: true; the input reads as it did. -/
def powerAgreesUptoRow : OpenClaim := { program := "ytmbenndmkacjpaa", sum := "db43dcdec8b30347c7a91018fd5d9447f8de4b42cd9848ba181835caa4b8f10b", func := "domino/dominolaw13.PowerAgrees", spec := "powerAgrees", inPlace := ["internal/bytealg.abigen_runtime_cmpstring"], unfollowed := true, recurses := true, named := ["math/bits.divideError", "math/bits.overflowError"], apart := false, narrowed := true }
def PowerAgreesUptoSaid : Prop := powerAgreesUptoRow.holds Try.pinned (OpenSpec.upto powerAgreesSpec)

/-- 'dominolaw13.PowerAdds', WHERE WHAT IT READS IS OF BULK AT MOST 1048576: true; the input reads as it did. -/
def powerAddsUptoRow : OpenClaim := { program := "ytmbenndmkacjpaa", sum := "db43dcdec8b30347c7a91018fd5d9447f8de4b42cd9848ba181835caa4b8f10b", func := "domino/dominolaw13.PowerAdds", spec := "powerAdds", inPlace := ["internal/bytealg.abigen_runtime_cmpstring"], unfollowed := true, recurses := true, named := ["math/bits.divideError", "math/bits.overflowError"], apart := false, narrowed := true }
def PowerAddsUptoSaid : Prop := powerAddsUptoRow.holds Try.pinned (OpenSpec.upto powerAddsSpec)

end Rows
end Go.Proofs.Ytmbenndmkacjpaa
