/-
  No cell of these rows narrows 'for every input' (looked for: loops, veiled, ifaces, maps, wideKeys, modest, calm, conditions, laid).
  DERIVED. THE GIVEN ROWS OF THIS SEAT. 7 by the template 'for every input the law returns true; each argument reads behind the call as it read before'; 0 by the template 'total and deterministic' (their statements: YtdiiggmcdpiahaaTotals.lean).
  GIVEN WITH THE SEED: the statements are not yours to turn. If you find one false, say at which input.
  Laid BY PROGRAM, IN A SANDBOX (cutbox-rows.mjs): the forced cells as the released guide's own fill.sh prints them over the translation 983584d410190e57… (all of the seat's roots in one cut). By AI agents, Wed Nov 11 2026. No macro, syntax, notation, axiom, sorry.
-/
import Derived.Test.YtdiiggmcdpiahaaChecked
import GoSem.Claim
import GoSem.ClaimJoined
import GoSem.ClaimMapViews
import Derived.JoinedTies
import Derived.KernelRfl
namespace Go.Proofs.Ytdiiggmcdpiahaa
/- THE CELL 'sum', in the pinned program and in every row, IS THE sha256 OF THE DUMP (.gsa) THAT YtdiiggmcdpiahaaProg.lean LOADS. Nothing in Lean hashes anything: it is a label: what it is worth is what the hold of that sum in a sandbox is worth. -/
noncomputable def Try.pinned : Pinned := { name := "ytdiiggmcdpiahaa", sum := "983584d410190e5710aafce5930b6f2a9fe9a53885d835a326df7a3e58ebaf61", checked := Try.checked }
namespace Rows
def none {H : Type} : Left H := { results := [], args := [] }

/-- 'dominolaw12.TranscriptChallenges': WHATEVER THE INPUT: true; the input reads as it did. -/
def transcriptChallengesSpec : ChangeSpec := { name := "transcriptChallenges", fn := fun _ => fun
  | [d1, d2] => { results := [.lit (.bool true)], args := [d1, d2] }
  | _ => none }
def transcriptChallengesRow : OpenClaim := { program := "ytdiiggmcdpiahaa", sum := "983584d410190e5710aafce5930b6f2a9fe9a53885d835a326df7a3e58ebaf61", func := "domino/dominolaw12.TranscriptChallenges", spec := "transcriptChallenges", inPlace := ["internal/abi.NoEscape", "internal/bytealg.abigen_runtime_cmpstring"], unfollowed := true, recurses := true, named := ["math/bits.divideError", "math/bits.overflowError"], apart := false }
def TranscriptChallengesSaid : Prop := transcriptChallengesRow.holds Try.pinned (OpenSpec.ofChange transcriptChallengesSpec)

/-- ITS FALSE NEIGHBOUR: 'it returns false'. Refute it at one input. -/
def transcriptChallengesWrong : ChangeSpec := { name := "transcriptChallenges", fn := fun _ => fun
  | [d1, d2] => { results := [.lit (.bool false)], args := [d1, d2] }
  | _ => none }
def TranscriptChallengesWrongFalsely : Prop := transcriptChallengesRow.holds Try.pinned (OpenSpec.ofChange transcriptChallengesWrong)

/-- 'dominolaw12.TranscriptBounds': WHATEVER THE INPUT: true; the input reads as it did. -/
def transcriptBoundsSpec : ChangeSpec := { name := "transcriptBounds", fn := fun _ => fun
  | [d1, d2] => { results := [.lit (.bool true)], args := [d1, d2] }
  | _ => none }
def transcriptBoundsRow : OpenClaim := { program := "ytdiiggmcdpiahaa", sum := "983584d410190e5710aafce5930b6f2a9fe9a53885d835a326df7a3e58ebaf61", func := "domino/dominolaw12.TranscriptBounds", spec := "transcriptBounds", inPlace := ["internal/abi.NoEscape", "internal/bytealg.abigen_runtime_cmpstring"], unfollowed := true, recurses := true, named := ["math/bits.divideError", "math/bits.overflowError"], apart := false }
def TranscriptBoundsSaid : Prop := transcriptBoundsRow.holds Try.pinned (OpenSpec.ofChange transcriptBoundsSpec)

/-- ITS FALSE NEIGHBOUR: 'it returns false'. Refute it at one input. -/
def transcriptBoundsWrong : ChangeSpec := { name := "transcriptBounds", fn := fun _ => fun
  | [d1, d2] => { results := [.lit (.bool false)], args := [d1, d2] }
  | _ => none }
def TranscriptBoundsWrongFalsely : Prop := transcriptBoundsRow.holds Try.pinned (OpenSpec.ofChange transcriptBoundsWrong)

/-- 'dominolaw12.TranscriptStarts': WHATEVER THE INPUT: true; the input reads as it did. -/
def transcriptStartsSpec : ChangeSpec := { name := "transcriptStarts", fn := fun _ => fun
  | [d1, d2, d3] => { results := [.lit (.bool true)], args := [d1, d2, d3] }
  | _ => none }
def transcriptStartsRow : OpenClaim := { program := "ytdiiggmcdpiahaa", sum := "983584d410190e5710aafce5930b6f2a9fe9a53885d835a326df7a3e58ebaf61", func := "domino/dominolaw12.TranscriptStarts", spec := "transcriptStarts", inPlace := ["internal/abi.NoEscape", "internal/bytealg.abigen_runtime_cmpstring"], unfollowed := true, recurses := true, named := ["math/bits.divideError", "math/bits.overflowError"], apart := false }
def TranscriptStartsSaid : Prop := transcriptStartsRow.holds Try.pinned (OpenSpec.ofChange transcriptStartsSpec)

/-- ITS FALSE NEIGHBOUR: 'it returns false'. Refute it at one input. -/
def transcriptStartsWrong : ChangeSpec := { name := "transcriptStarts", fn := fun _ => fun
  | [d1, d2, d3] => { results := [.lit (.bool false)], args := [d1, d2, d3] }
  | _ => none }
def TranscriptStartsWrongFalsely : Prop := transcriptStartsRow.holds Try.pinned (OpenSpec.ofChange transcriptStartsWrong)

/-- 'dominolaw12.TranscriptNumbers': WHATEVER THE INPUT: true; the input reads as it did. -/
def transcriptNumbersSpec : ChangeSpec := { name := "transcriptNumbers", fn := fun _ => fun
  | [d1, d2, d3] => { results := [.lit (.bool true)], args := [d1, d2, d3] }
  | _ => none }
def transcriptNumbersRow : OpenClaim := { program := "ytdiiggmcdpiahaa", sum := "983584d410190e5710aafce5930b6f2a9fe9a53885d835a326df7a3e58ebaf61", func := "domino/dominolaw12.TranscriptNumbers", spec := "transcriptNumbers", inPlace := ["internal/abi.NoEscape", "internal/bytealg.abigen_runtime_cmpstring"], unfollowed := true, recurses := true, named := ["math/bits.divideError", "math/bits.overflowError"], apart := false }
def TranscriptNumbersSaid : Prop := transcriptNumbersRow.holds Try.pinned (OpenSpec.ofChange transcriptNumbersSpec)

/-- ITS FALSE NEIGHBOUR: 'it returns false'. Refute it at one input. -/
def transcriptNumbersWrong : ChangeSpec := { name := "transcriptNumbers", fn := fun _ => fun
  | [d1, d2, d3] => { results := [.lit (.bool false)], args := [d1, d2, d3] }
  | _ => none }
def TranscriptNumbersWrongFalsely : Prop := transcriptNumbersRow.holds Try.pinned (OpenSpec.ofChange transcriptNumbersWrong)

/-- 'dominolaw12.TranscriptParts': WHATEVER THE INPUT: true; the input reads as it did. -/
def transcriptPartsSpec : ChangeSpec := { name := "transcriptParts", fn := fun _ => fun
  | [d1, d2, d3] => { results := [.lit (.bool true)], args := [d1, d2, d3] }
  | _ => none }
def transcriptPartsRow : OpenClaim := { program := "ytdiiggmcdpiahaa", sum := "983584d410190e5710aafce5930b6f2a9fe9a53885d835a326df7a3e58ebaf61", func := "domino/dominolaw12.TranscriptParts", spec := "transcriptParts", inPlace := ["internal/abi.NoEscape", "internal/bytealg.abigen_runtime_cmpstring"], unfollowed := true, recurses := true, named := ["math/bits.divideError", "math/bits.overflowError"], apart := false }
def TranscriptPartsSaid : Prop := transcriptPartsRow.holds Try.pinned (OpenSpec.ofChange transcriptPartsSpec)

/-- ITS FALSE NEIGHBOUR: 'it returns false'. Refute it at one input. -/
def transcriptPartsWrong : ChangeSpec := { name := "transcriptParts", fn := fun _ => fun
  | [d1, d2, d3] => { results := [.lit (.bool false)], args := [d1, d2, d3] }
  | _ => none }
def TranscriptPartsWrongFalsely : Prop := transcriptPartsRow.holds Try.pinned (OpenSpec.ofChange transcriptPartsWrong)

/-- 'dominolaw12.TranscriptInts': WHATEVER THE INPUT: true; the input reads as it did. -/
def transcriptIntsSpec : ChangeSpec := { name := "transcriptInts", fn := fun _ => fun
  | [d1, d2, d3] => { results := [.lit (.bool true)], args := [d1, d2, d3] }
  | _ => none }
def transcriptIntsRow : OpenClaim := { program := "ytdiiggmcdpiahaa", sum := "983584d410190e5710aafce5930b6f2a9fe9a53885d835a326df7a3e58ebaf61", func := "domino/dominolaw12.TranscriptInts", spec := "transcriptInts", inPlace := ["internal/abi.NoEscape", "internal/bytealg.abigen_runtime_cmpstring"], unfollowed := true, recurses := true, named := ["math/bits.divideError", "math/bits.overflowError"], apart := false }
def TranscriptIntsSaid : Prop := transcriptIntsRow.holds Try.pinned (OpenSpec.ofChange transcriptIntsSpec)

/-- ITS FALSE NEIGHBOUR: 'it returns false'. Refute it at one input. -/
def transcriptIntsWrong : ChangeSpec := { name := "transcriptInts", fn := fun _ => fun
  | [d1, d2, d3] => { results := [.lit (.bool false)], args := [d1, d2, d3] }
  | _ => none }
def TranscriptIntsWrongFalsely : Prop := transcriptIntsRow.holds Try.pinned (OpenSpec.ofChange transcriptIntsWrong)

/-- 'dominolaw12.TranscriptLengths': WHATEVER THE INPUT: true; the input reads as it did. -/
def transcriptLengthsSpec : ChangeSpec := { name := "transcriptLengths", fn := fun _ => fun
  | [d1, d2, d3] => { results := [.lit (.bool true)], args := [d1, d2, d3] }
  | _ => none }
def transcriptLengthsRow : OpenClaim := { program := "ytdiiggmcdpiahaa", sum := "983584d410190e5710aafce5930b6f2a9fe9a53885d835a326df7a3e58ebaf61", func := "domino/dominolaw12.TranscriptLengths", spec := "transcriptLengths", inPlace := ["internal/abi.NoEscape", "internal/bytealg.abigen_runtime_cmpstring"], unfollowed := true, recurses := true, named := ["math/bits.divideError", "math/bits.overflowError"], apart := false }
def TranscriptLengthsSaid : Prop := transcriptLengthsRow.holds Try.pinned (OpenSpec.ofChange transcriptLengthsSpec)

/-- ITS FALSE NEIGHBOUR: 'it returns false'. Refute it at one input. -/
def transcriptLengthsWrong : ChangeSpec := { name := "transcriptLengths", fn := fun _ => fun
  | [d1, d2, d3] => { results := [.lit (.bool false)], args := [d1, d2, d3] }
  | _ => none }
def TranscriptLengthsWrongFalsely : Prop := transcriptLengthsRow.holds Try.pinned (OpenSpec.ofChange transcriptLengthsWrong)

/- THE SECOND FORM. 'bulk': how many values and letters a reading holds, each counted each time it is reached (what is shared counts as often as it is met; a slice's spare places count too). A statement '..UptoSaid' is the law's where the arguments, and the package variables that the reading takes, are together of bulk at most 1048576: NARROWER than '..Said'. Prove '..Said' where nothing that the law and all that it calls make is longer than what came in: it says more and counts as full. Else prove '..UptoSaid'. A law counts once. -/
mutual
def uptoBulk {H : Type} : DataW H → Nat
  | .lit (.string bytes) => bytes.length + 1
  | .lit _ => 1
  | .nil => 1
  | .ptr d => uptoBulk d + 1
  | .slice elems spare => uptoBulkAll elems + uptoBulkAll spare + 1
  | .agg parts => uptoBulkAll parts + 1
  | .iface _ d => uptoBulk d + 1
  | .map entries => uptoBulkEntries entries + 1
  | .held _ => 1
def uptoBulkAll {H : Type} : List (DataW H) → Nat
  | [] => 0
  | d :: r => uptoBulk d + uptoBulkAll r
def uptoBulkEntries {H : Type} : List (Lit × DataW H) → Nat
  | [] => 0
  | x :: r => uptoBulkEntry x + uptoBulkEntries r
def uptoBulkEntry {H : Type} : Lit × DataW H → Nat
  | (.string bytes, d) => bytes.length + uptoBulk d + 1
  | (_, d) => uptoBulk d + 1
 end
def uptoSmall : (H : Type) → List (DataW H) → Bool := fun _ ds => decide (uptoBulkAll ds ≤ 1048576)
def OpenSpec.upto (s : _root_.Go.ChangeSpec) : _root_.Go.OpenSpec := { _root_.Go.OpenSpec.ofChange s with cond := some uptoSmall }

/-- 'dominolaw12.TranscriptChallenges', WHERE WHAT IT READS IS OF BULK AT MOST 1048576: true; the input reads as it did. -/
def transcriptChallengesUptoRow : OpenClaim := { program := "ytdiiggmcdpiahaa", sum := "983584d410190e5710aafce5930b6f2a9fe9a53885d835a326df7a3e58ebaf61", func := "domino/dominolaw12.TranscriptChallenges", spec := "transcriptChallenges", inPlace := ["internal/abi.NoEscape", "internal/bytealg.abigen_runtime_cmpstring"], unfollowed := true, recurses := true, named := ["math/bits.divideError", "math/bits.overflowError"], apart := false, narrowed := true }
def TranscriptChallengesUptoSaid : Prop := transcriptChallengesUptoRow.holds Try.pinned (OpenSpec.upto transcriptChallengesSpec)

/-- 'dominolaw12.TranscriptBounds', WHERE WHAT IT READS IS OF BULK AT MOST 1048576: true; the input reads as it did. -/
def transcriptBoundsUptoRow : OpenClaim := { program := "ytdiiggmcdpiahaa", sum := "983584d410190e5710aafce5930b6f2a9fe9a53885d835a326df7a3e58ebaf61", func := "domino/dominolaw12.TranscriptBounds", spec := "transcriptBounds", inPlace := ["internal/abi.NoEscape", "internal/bytealg.abigen_runtime_cmpstring"], unfollowed := true, recurses := true, named := ["math/bits.divideError", "math/bits.overflowError"], apart := false, narrowed := true }
def TranscriptBoundsUptoSaid : Prop := transcriptBoundsUptoRow.holds Try.pinned (OpenSpec.upto transcriptBoundsSpec)

/-- 'dominolaw12.TranscriptStarts', WHERE WHAT IT READS IS OF BULK AT MOST 1048576: true; the input reads as it did. -/
def transcriptStartsUptoRow : OpenClaim := { program := "ytdiiggmcdpiahaa", sum := "983584d410190e5710aafce5930b6f2a9fe9a53885d835a326df7a3e58ebaf61", func := "domino/dominolaw12.TranscriptStarts", spec := "transcriptStarts", inPlace := ["internal/abi.NoEscape", "internal/bytealg.abigen_runtime_cmpstring"], unfollowed := true, recurses := true, named := ["math/bits.divideError", "math/bits.overflowError"], apart := false, narrowed := true }
def TranscriptStartsUptoSaid : Prop := transcriptStartsUptoRow.holds Try.pinned (OpenSpec.upto transcriptStartsSpec)

/-- 'dominolaw12.TranscriptNumbers', WHERE WHAT IT READS IS OF BULK AT MOST 1048576: true; the input reads as it did. -/
def transcriptNumbersUptoRow : OpenClaim := { program := "ytdiiggmcdpiahaa", sum := "983584d410190e5710aafce5930b6f2a9fe9a53885d835a326df7a3e58ebaf61", func := "domino/dominolaw12.TranscriptNumbers", spec := "transcriptNumbers", inPlace := ["internal/abi.NoEscape", "internal/bytealg.abigen_runtime_cmpstring"], unfollowed := true, recurses := true, named := ["math/bits.divideError", "math/bits.overflowError"], apart := false, narrowed := true }
def TranscriptNumbersUptoSaid : Prop := transcriptNumbersUptoRow.holds Try.pinned (OpenSpec.upto transcriptNumbersSpec)

/-- 'dominolaw12.TranscriptParts', WHERE WHAT IT READS IS OF BULK AT MOST 1048576: true; the input reads as it did. -/
def transcriptPartsUptoRow : OpenClaim := { program := "ytdiiggmcdpiahaa", sum := "983584d410190e5710aafce5930b6f2a9fe9a53885d835a326df7a3e58ebaf61", func := "domino/dominolaw12.TranscriptParts", spec := "transcriptParts", inPlace := ["internal/abi.NoEscape", "internal/bytealg.abigen_runtime_cmpstring"], unfollowed := true, recurses := true, named := ["math/bits.divideError", "math/bits.overflowError"], apart := false, narrowed := true }
def TranscriptPartsUptoSaid : Prop := transcriptPartsUptoRow.holds Try.pinned (OpenSpec.upto transcriptPartsSpec)

/-- 'dominolaw12.TranscriptInts', WHERE WHAT IT READS IS OF BULK AT MOST 1048576: true; the input reads as it did. -/
def transcriptIntsUptoRow : OpenClaim := { program := "ytdiiggmcdpiahaa", sum := "983584d410190e5710aafce5930b6f2a9fe9a53885d835a326df7a3e58ebaf61", func := "domino/dominolaw12.TranscriptInts", spec := "transcriptInts", inPlace := ["internal/abi.NoEscape", "internal/bytealg.abigen_runtime_cmpstring"], unfollowed := true, recurses := true, named := ["math/bits.divideError", "math/bits.overflowError"], apart := false, narrowed := true }
def TranscriptIntsUptoSaid : Prop := transcriptIntsUptoRow.holds Try.pinned (OpenSpec.upto transcriptIntsSpec)

/-- 'dominolaw12.TranscriptLengths', WHERE WHAT IT READS IS OF BULK AT MOST 1048576: true; the input reads as it did. -/
def transcriptLengthsUptoRow : OpenClaim := { program := "ytdiiggmcdpiahaa", sum := "983584d410190e5710aafce5930b6f2a9fe9a53885d835a326df7a3e58ebaf61", func := "domino/dominolaw12.TranscriptLengths", spec := "transcriptLengths", inPlace := ["internal/abi.NoEscape", "internal/bytealg.abigen_runtime_cmpstring"], unfollowed := true, recurses := true, named := ["math/bits.divideError", "math/bits.overflowError"], apart := false, narrowed := true }
def TranscriptLengthsUptoSaid : Prop := transcriptLengthsUptoRow.holds Try.pinned (OpenSpec.upto transcriptLengthsSpec)

end Rows
end Go.Proofs.Ytdiiggmcdpiahaa
