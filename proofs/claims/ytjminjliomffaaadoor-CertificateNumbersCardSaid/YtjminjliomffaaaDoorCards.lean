/-
  DERIVED. GIVEN WITH THE SEED: THE CARDS: each row of YtjminjliomffaaaDoorRows.lean that lists a variable, with what it lists TIED to the program's text (the seventh form; the later family's looks); each row that meets fmt, with fmt's text TOLD by the authors' own Lean function (tested against real Go, not proved from fmt's source: count such statements apart). THE CARD IS WHAT COUNTS. Prove the row's statement (the work); the ties are given (YtjminjliomffaaaDoorTie.lean); close each card by the builder's one call (the guide's Derived/Test/ToyasCard.lean, 'card_holds'). Laid BY PROGRAM, IN A SANDBOX (cutbox-door.mjs). By AI agents, Wed Nov 11 2026. No macro, syntax, notation, axiom, sorry.
-/
import Derived.Test.YtjminjliomffaaaDoorRows
import GoSem.ClaimSeven
namespace Go.Proofs.YtjminjliomffaaaDoor
namespace Rows

/-- THE TIED CARD OF 'dominolaw04.PrimeDivides'. -/
def primeDividesCard : Claim7 := { stood := { row := primeDividesRow, standIns := [], harness := (true, "3b46480dde66e4f5414e7ce6d64898e2cad3f940a072ab01882502a7b5e15615"), looks := false }, kinds := [], alts := [], laidByText := true, laidKinds := [.data], laidTests := true, laidLooks := .later }
def PrimeDividesCardSaid : Prop := Claim7.holds Tryd.pinned (.plain (OpenSpec.ofChange primeDividesSpec)) primeDividesCard

/-- THE TIED CARD OF 'dominolaw07.CertificateAccepts'. -/
def certificateAcceptsCard : Claim7 := { stood := { row := certificateAcceptsRow, standIns := [], harness := (true, "3b46480dde66e4f5414e7ce6d64898e2cad3f940a072ab01882502a7b5e15615"), looks := false }, kinds := [], alts := [], laidByText := true, laidKinds := [.data], laidTests := true, laidLooks := .later }
def CertificateAcceptsCardSaid : Prop := Claim7.holds Tryd.pinned (.plain (OpenSpec.ofChange certificateAcceptsSpec)) certificateAcceptsCard

/-- THE TIED CARD OF 'dominolaw07.CertificateProves'. -/
def certificateProvesCard : Claim7 := { stood := { row := certificateProvesRow, standIns := [], harness := (true, "3b46480dde66e4f5414e7ce6d64898e2cad3f940a072ab01882502a7b5e15615"), looks := false }, kinds := [], alts := [], laidByText := true, laidKinds := [.data], laidTests := true, laidLooks := .later }
def CertificateProvesCardSaid : Prop := Claim7.holds Tryd.pinned (.plain (OpenSpec.ofChange certificateProvesSpec)) certificateProvesCard

/-- THE TIED CARD OF 'dominolaw07.CertificateNumbers'. -/
def certificateNumbersCard : Claim7 := { stood := { row := certificateNumbersRow, standIns := [], harness := (true, "3b46480dde66e4f5414e7ce6d64898e2cad3f940a072ab01882502a7b5e15615"), looks := false }, kinds := [], alts := [], laidByText := true, laidKinds := [.data], laidTests := true, laidLooks := .later }
def CertificateNumbersCardSaid : Prop := Claim7.holds Tryd.pinned (.plain (OpenSpec.ofChange certificateNumbersSpec)) certificateNumbersCard

/-- THE TIED CARD OF 'dominolaw07.CertificateBases'. -/
def certificateBasesCard : Claim7 := { stood := { row := certificateBasesRow, standIns := [], harness := (true, "3b46480dde66e4f5414e7ce6d64898e2cad3f940a072ab01882502a7b5e15615"), looks := false }, kinds := [], alts := [], laidByText := true, laidKinds := [.data], laidTests := true, laidLooks := .later }
def CertificateBasesCardSaid : Prop := Claim7.holds Tryd.pinned (.plain (OpenSpec.ofChange certificateBasesSpec)) certificateBasesCard

/-- THE SECOND FORM's CARD OF 'dominolaw04.PrimeDivides'. -/
def primeDividesUptoCard : Claim7 := { stood := { row := primeDividesUptoRow, standIns := [], harness := (true, "3b46480dde66e4f5414e7ce6d64898e2cad3f940a072ab01882502a7b5e15615"), looks := false }, kinds := [], alts := [], laidByText := true, laidKinds := [.data], laidTests := true, laidLooks := .later }
def PrimeDividesUptoCardSaid : Prop := Claim7.holds Tryd.pinned (.plain (OpenSpec.upto primeDividesSpec)) primeDividesUptoCard

/-- THE SECOND FORM's CARD OF 'dominolaw07.CertificateAccepts'. -/
def certificateAcceptsUptoCard : Claim7 := { stood := { row := certificateAcceptsUptoRow, standIns := [], harness := (true, "3b46480dde66e4f5414e7ce6d64898e2cad3f940a072ab01882502a7b5e15615"), looks := false }, kinds := [], alts := [], laidByText := true, laidKinds := [.data], laidTests := true, laidLooks := .later }
def CertificateAcceptsUptoCardSaid : Prop := Claim7.holds Tryd.pinned (.plain (OpenSpec.upto certificateAcceptsSpec)) certificateAcceptsUptoCard

/-- THE SECOND FORM's CARD OF 'dominolaw07.CertificateProves'. -/
def certificateProvesUptoCard : Claim7 := { stood := { row := certificateProvesUptoRow, standIns := [], harness := (true, "3b46480dde66e4f5414e7ce6d64898e2cad3f940a072ab01882502a7b5e15615"), looks := false }, kinds := [], alts := [], laidByText := true, laidKinds := [.data], laidTests := true, laidLooks := .later }
def CertificateProvesUptoCardSaid : Prop := Claim7.holds Tryd.pinned (.plain (OpenSpec.upto certificateProvesSpec)) certificateProvesUptoCard

/-- THE SECOND FORM's CARD OF 'dominolaw07.CertificateNumbers'. -/
def certificateNumbersUptoCard : Claim7 := { stood := { row := certificateNumbersUptoRow, standIns := [], harness := (true, "3b46480dde66e4f5414e7ce6d64898e2cad3f940a072ab01882502a7b5e15615"), looks := false }, kinds := [], alts := [], laidByText := true, laidKinds := [.data], laidTests := true, laidLooks := .later }
def CertificateNumbersUptoCardSaid : Prop := Claim7.holds Tryd.pinned (.plain (OpenSpec.upto certificateNumbersSpec)) certificateNumbersUptoCard

/-- THE SECOND FORM's CARD OF 'dominolaw07.CertificateBases'. -/
def certificateBasesUptoCard : Claim7 := { stood := { row := certificateBasesUptoRow, standIns := [], harness := (true, "3b46480dde66e4f5414e7ce6d64898e2cad3f940a072ab01882502a7b5e15615"), looks := false }, kinds := [], alts := [], laidByText := true, laidKinds := [.data], laidTests := true, laidLooks := .later }
def CertificateBasesUptoCardSaid : Prop := Claim7.holds Tryd.pinned (.plain (OpenSpec.upto certificateBasesSpec)) certificateBasesUptoCard
end Rows
end Go.Proofs.YtjminjliomffaaaDoor
