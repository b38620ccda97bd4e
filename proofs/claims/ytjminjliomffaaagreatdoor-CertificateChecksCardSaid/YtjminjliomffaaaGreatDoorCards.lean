/-
  DERIVED. GIVEN WITH THE SEED: THE CARDS: each row of YtjminjliomffaaaGreatDoorRows.lean that lists a variable, with what it lists TIED to the program's text (the seventh form; the later family's looks); each row that meets fmt, with fmt's text TOLD by the authors' own Lean function (tested against real Go, not proved from fmt's source: count such statements apart). THE CARD IS WHAT COUNTS. Prove the row's statement (the work); the ties are given (YtjminjliomffaaaGreatDoorTie.lean); close each card by the builder's one call (the guide's Derived/Test/ToyasCard.lean, 'card_holds'). Laid BY PROGRAM, IN A SANDBOX (cutbox-door.mjs). By AI agents, Wed Nov 11 2026. No macro, syntax, notation, axiom, sorry.
-/
import Derived.Test.YtjminjliomffaaaGreatDoorRows
import GoSem.ClaimSeven
namespace Go.Proofs.YtjminjliomffaaaGreatDoor
namespace Rows

/-- THE TIED CARD OF 'dominolaw07.CertificateChecks'. -/
def certificateChecksCard : Claim7 := { stood := { row := certificateChecksRow, standIns := [], harness := (true, "5da64066f371192f837edadc508424f12473ecccdae292b3b788d2a5eae7efc2"), looks := false }, kinds := [], alts := [], laidByText := true, laidKinds := [.data], laidTests := true, laidLooks := .later }
def CertificateChecksCardSaid : Prop := Claim7.holds Tryz.pinned (.plain (OpenSpec.ofChange certificateChecksSpec)) certificateChecksCard

/-- THE TIED CARD OF 'dominolaw07.CertificateFactors'. -/
def certificateFactorsCard : Claim7 := { stood := { row := certificateFactorsRow, standIns := [], harness := (true, "5da64066f371192f837edadc508424f12473ecccdae292b3b788d2a5eae7efc2"), looks := false }, kinds := [], alts := [], laidByText := true, laidKinds := [.data], laidTests := true, laidLooks := .later }
def CertificateFactorsCardSaid : Prop := Claim7.holds Tryz.pinned (.plain (OpenSpec.ofChange certificateFactorsSpec)) certificateFactorsCard

/-- THE SECOND FORM's CARD OF 'dominolaw07.CertificateChecks'. -/
def certificateChecksUptoCard : Claim7 := { stood := { row := certificateChecksUptoRow, standIns := [], harness := (true, "5da64066f371192f837edadc508424f12473ecccdae292b3b788d2a5eae7efc2"), looks := false }, kinds := [], alts := [], laidByText := true, laidKinds := [.data], laidTests := true, laidLooks := .later }
def CertificateChecksUptoCardSaid : Prop := Claim7.holds Tryz.pinned (.plain (OpenSpec.upto certificateChecksSpec)) certificateChecksUptoCard

/-- THE SECOND FORM's CARD OF 'dominolaw07.CertificateFactors'. -/
def certificateFactorsUptoCard : Claim7 := { stood := { row := certificateFactorsUptoRow, standIns := [], harness := (true, "5da64066f371192f837edadc508424f12473ecccdae292b3b788d2a5eae7efc2"), looks := false }, kinds := [], alts := [], laidByText := true, laidKinds := [.data], laidTests := true, laidLooks := .later }
def CertificateFactorsUptoCardSaid : Prop := Claim7.holds Tryz.pinned (.plain (OpenSpec.upto certificateFactorsSpec)) certificateFactorsUptoCard
end Rows
end Go.Proofs.YtjminjliomffaaaGreatDoor
