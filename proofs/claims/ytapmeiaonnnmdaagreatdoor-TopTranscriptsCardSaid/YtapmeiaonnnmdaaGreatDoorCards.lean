/-
  DERIVED. GIVEN WITH THE SEED: THE CARDS: each row of YtapmeiaonnnmdaaGreatDoorRows.lean that lists a variable, with what it lists TIED to the program's text (the seventh form; the later family's looks); each row that meets fmt, with fmt's text TOLD by the authors' own Lean function (tested against real Go, not proved from fmt's source: count such statements apart). THE CARD IS WHAT COUNTS. Prove the row's statement (the work); the ties are given (YtapmeiaonnnmdaaGreatDoorTie.lean); close each card by the builder's one call (the guide's Derived/Test/ToyasCard.lean, 'card_holds'). Laid BY PROGRAM, IN A SANDBOX (cutbox-door.mjs). By AI agents, Wed Nov 11 2026. No macro, syntax, notation, axiom, sorry.
-/
import Derived.Test.YtapmeiaonnnmdaaGreatDoorRows
import GoSem.ClaimSeven
namespace Go.Proofs.YtapmeiaonnnmdaaGreatDoor
namespace Rows

/-- THE TIED CARD OF 'dominotop.TopTranscripts'. -/
def topTranscriptsCard : Claim7 := { stood := { row := topTranscriptsRow, standIns := [], harness := (true, "c862f276de774235105ffec517c298f15e017c943b36cc11334672d3fa1be0ca"), looks := false }, kinds := [], alts := [], laidByText := true, laidKinds := [.data, .data, .data], laidTests := true, laidLooks := .later }
def TopTranscriptsCardSaid : Prop := Claim7.holds Tryz.pinned (.plain (OpenSpec.ofChange topTranscriptsSpec)) topTranscriptsCard

/-- THE SECOND FORM's CARD OF 'dominotop.TopTranscripts'. -/
def topTranscriptsUptoCard : Claim7 := { stood := { row := topTranscriptsUptoRow, standIns := [], harness := (true, "c862f276de774235105ffec517c298f15e017c943b36cc11334672d3fa1be0ca"), looks := false }, kinds := [], alts := [], laidByText := true, laidKinds := [.data, .data, .data], laidTests := true, laidLooks := .later }
def TopTranscriptsUptoCardSaid : Prop := Claim7.holds Tryz.pinned (.plain (OpenSpec.upto topTranscriptsSpec)) topTranscriptsUptoCard
end Rows
end Go.Proofs.YtapmeiaonnnmdaaGreatDoor
