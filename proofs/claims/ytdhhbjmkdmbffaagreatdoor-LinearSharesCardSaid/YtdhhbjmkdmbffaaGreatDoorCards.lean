/-
  DERIVED. GIVEN WITH THE SEED: THE CARDS: each row of YtdhhbjmkdmbffaaGreatDoorRows.lean that lists a variable, with what it lists TIED to the program's text (the seventh form; the later family's looks); each row that meets fmt, with fmt's text TOLD by the authors' own Lean function (tested against real Go, not proved from fmt's source: count such statements apart). THE CARD IS WHAT COUNTS. Prove the row's statement (the work); the ties are given (YtdhhbjmkdmbffaaGreatDoorTie.lean); close each card by the builder's one call (the guide's Derived/Test/ToyasCard.lean, 'card_holds'). Laid BY PROGRAM, IN A SANDBOX (cutbox-door.mjs). By AI agents, Wed Nov 11 2026. No macro, syntax, notation, axiom, sorry.
-/
import Derived.Test.YtdhhbjmkdmbffaaGreatDoorRows
import GoSem.ClaimSeven
namespace Go.Proofs.YtdhhbjmkdmbffaaGreatDoor
namespace Rows

/-- THE TIED CARD OF 'dominotop.TopTranscripts'. -/
def topTranscriptsCard : Claim7 := { stood := { row := topTranscriptsRow, standIns := [], harness := (true, "3a2ea1c75d456f3f62dfe72c0af587b87f9cb570bfbcf0e8b22ee774784c3853"), looks := false }, kinds := [], alts := [], laidByText := true, laidKinds := [.data, .data, .data], laidTests := true, laidLooks := .later }
def TopTranscriptsCardSaid : Prop := Claim7.holds Tryz.pinned (.plain (OpenSpec.ofChange topTranscriptsSpec)) topTranscriptsCard

/-- THE TIED CARD OF 'dominolaw15.LinearJoins'. -/
def linearJoinsCard : Claim7 := { stood := { row := linearJoinsRow, standIns := [], harness := (true, "3a2ea1c75d456f3f62dfe72c0af587b87f9cb570bfbcf0e8b22ee774784c3853"), looks := false }, kinds := [], alts := [], laidByText := true, laidKinds := [.data, .data, .data], laidTests := true, laidLooks := .later }
def LinearJoinsCardSaid : Prop := Claim7.holds Tryz.pinned (.plain (OpenSpec.ofChange linearJoinsSpec)) linearJoinsCard

/-- THE TIED CARD OF 'dominolaw15.LinearShares'. -/
def linearSharesCard : Claim7 := { stood := { row := linearSharesRow, standIns := [], harness := (true, "3a2ea1c75d456f3f62dfe72c0af587b87f9cb570bfbcf0e8b22ee774784c3853"), looks := false }, kinds := [], alts := [], laidByText := true, laidKinds := [.data, .data, .data], laidTests := true, laidLooks := .later }
def LinearSharesCardSaid : Prop := Claim7.holds Tryz.pinned (.plain (OpenSpec.ofChange linearSharesSpec)) linearSharesCard

/-- THE SECOND FORM's CARD OF 'dominotop.TopTranscripts'. -/
def topTranscriptsUptoCard : Claim7 := { stood := { row := topTranscriptsUptoRow, standIns := [], harness := (true, "3a2ea1c75d456f3f62dfe72c0af587b87f9cb570bfbcf0e8b22ee774784c3853"), looks := false }, kinds := [], alts := [], laidByText := true, laidKinds := [.data, .data, .data], laidTests := true, laidLooks := .later }
def TopTranscriptsUptoCardSaid : Prop := Claim7.holds Tryz.pinned (.plain (OpenSpec.upto topTranscriptsSpec)) topTranscriptsUptoCard

/-- THE SECOND FORM's CARD OF 'dominolaw15.LinearJoins'. -/
def linearJoinsUptoCard : Claim7 := { stood := { row := linearJoinsUptoRow, standIns := [], harness := (true, "3a2ea1c75d456f3f62dfe72c0af587b87f9cb570bfbcf0e8b22ee774784c3853"), looks := false }, kinds := [], alts := [], laidByText := true, laidKinds := [.data, .data, .data], laidTests := true, laidLooks := .later }
def LinearJoinsUptoCardSaid : Prop := Claim7.holds Tryz.pinned (.plain (OpenSpec.upto linearJoinsSpec)) linearJoinsUptoCard

/-- THE SECOND FORM's CARD OF 'dominolaw15.LinearShares'. -/
def linearSharesUptoCard : Claim7 := { stood := { row := linearSharesUptoRow, standIns := [], harness := (true, "3a2ea1c75d456f3f62dfe72c0af587b87f9cb570bfbcf0e8b22ee774784c3853"), looks := false }, kinds := [], alts := [], laidByText := true, laidKinds := [.data, .data, .data], laidTests := true, laidLooks := .later }
def LinearSharesUptoCardSaid : Prop := Claim7.holds Tryz.pinned (.plain (OpenSpec.upto linearSharesSpec)) linearSharesUptoCard
end Rows
end Go.Proofs.YtdhhbjmkdmbffaaGreatDoor
