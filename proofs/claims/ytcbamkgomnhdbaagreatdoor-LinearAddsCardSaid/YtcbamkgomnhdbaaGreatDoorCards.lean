/-
  DERIVED. GIVEN WITH THE SEED: THE CARDS: each row of YtcbamkgomnhdbaaGreatDoorRows.lean that lists a variable, with what it lists TIED to the program's text (the seventh form; the later family's looks); each row that meets fmt, with fmt's text TOLD by the authors' own Lean function (tested against real Go, not proved from fmt's source: count such statements apart). THE CARD IS WHAT COUNTS. Prove the row's statement (the work); the ties are given (YtcbamkgomnhdbaaGreatDoorTie.lean); close each card by the builder's one call (the guide's Derived/Test/ToyasCard.lean, 'card_holds'). Laid BY PROGRAM, IN A SANDBOX (cutbox-door.mjs). By AI agents, Wed Nov 11 2026. No macro, syntax, notation, axiom, sorry.
-/
import Derived.Test.YtcbamkgomnhdbaaGreatDoorRows
import GoSem.ClaimSeven
namespace Go.Proofs.YtcbamkgomnhdbaaGreatDoor
namespace Rows

/-- THE TIED CARD OF 'dominolaw15.LinearChecks'. -/
def linearChecksCard : Claim7 := { stood := { row := linearChecksRow, standIns := [], harness := (true, "b93675183e0bf2c808403724e405c374e97bbafa4223829105421d541a7fc16b"), looks := false }, kinds := [], alts := [], laidByText := true, laidKinds := [.data, .data, .data], laidTests := true, laidLooks := .later }
def LinearChecksCardSaid : Prop := Claim7.holds Tryz.pinned (.plain (OpenSpec.ofChange linearChecksSpec)) linearChecksCard

/-- THE TIED CARD OF 'dominolaw15.LinearHolds'. -/
def linearHoldsCard : Claim7 := { stood := { row := linearHoldsRow, standIns := [], harness := (true, "b93675183e0bf2c808403724e405c374e97bbafa4223829105421d541a7fc16b"), looks := false }, kinds := [], alts := [], laidByText := true, laidKinds := [.data, .data, .data], laidTests := true, laidLooks := .later }
def LinearHoldsCardSaid : Prop := Claim7.holds Tryz.pinned (.plain (OpenSpec.ofChange linearHoldsSpec)) linearHoldsCard

/-- THE TIED CARD OF 'dominolaw15.LinearImages'. -/
def linearImagesCard : Claim7 := { stood := { row := linearImagesRow, standIns := [], harness := (true, "b93675183e0bf2c808403724e405c374e97bbafa4223829105421d541a7fc16b"), looks := false }, kinds := [], alts := [], laidByText := true, laidKinds := [.data, .data, .data], laidTests := true, laidLooks := .later }
def LinearImagesCardSaid : Prop := Claim7.holds Tryz.pinned (.plain (OpenSpec.ofChange linearImagesSpec)) linearImagesCard

/-- THE TIED CARD OF 'dominolaw15.LinearAgrees'. -/
def linearAgreesCard : Claim7 := { stood := { row := linearAgreesRow, standIns := [], harness := (true, "b93675183e0bf2c808403724e405c374e97bbafa4223829105421d541a7fc16b"), looks := false }, kinds := [], alts := [], laidByText := true, laidKinds := [.data, .data, .data], laidTests := true, laidLooks := .later }
def LinearAgreesCardSaid : Prop := Claim7.holds Tryz.pinned (.plain (OpenSpec.ofChange linearAgreesSpec)) linearAgreesCard

/-- THE TIED CARD OF 'dominolaw15.LinearAdds'. -/
def linearAddsCard : Claim7 := { stood := { row := linearAddsRow, standIns := [], harness := (true, "b93675183e0bf2c808403724e405c374e97bbafa4223829105421d541a7fc16b"), looks := false }, kinds := [], alts := [], laidByText := true, laidKinds := [.data, .data, .data], laidTests := true, laidLooks := .later }
def LinearAddsCardSaid : Prop := Claim7.holds Tryz.pinned (.plain (OpenSpec.ofChange linearAddsSpec)) linearAddsCard

/-- THE TIED CARD OF 'dominolaw15.LinearJoins'. -/
def linearJoinsCard : Claim7 := { stood := { row := linearJoinsRow, standIns := [], harness := (true, "b93675183e0bf2c808403724e405c374e97bbafa4223829105421d541a7fc16b"), looks := false }, kinds := [], alts := [], laidByText := true, laidKinds := [.data, .data, .data], laidTests := true, laidLooks := .later }
def LinearJoinsCardSaid : Prop := Claim7.holds Tryz.pinned (.plain (OpenSpec.ofChange linearJoinsSpec)) linearJoinsCard

/-- THE TIED CARD OF 'dominolaw15.LinearShares'. -/
def linearSharesCard : Claim7 := { stood := { row := linearSharesRow, standIns := [], harness := (true, "b93675183e0bf2c808403724e405c374e97bbafa4223829105421d541a7fc16b"), looks := false }, kinds := [], alts := [], laidByText := true, laidKinds := [.data, .data, .data], laidTests := true, laidLooks := .later }
def LinearSharesCardSaid : Prop := Claim7.holds Tryz.pinned (.plain (OpenSpec.ofChange linearSharesSpec)) linearSharesCard

/-- THE SECOND FORM's CARD OF 'dominolaw15.LinearChecks'. -/
def linearChecksUptoCard : Claim7 := { stood := { row := linearChecksUptoRow, standIns := [], harness := (true, "b93675183e0bf2c808403724e405c374e97bbafa4223829105421d541a7fc16b"), looks := false }, kinds := [], alts := [], laidByText := true, laidKinds := [.data, .data, .data], laidTests := true, laidLooks := .later }
def LinearChecksUptoCardSaid : Prop := Claim7.holds Tryz.pinned (.plain (OpenSpec.upto linearChecksSpec)) linearChecksUptoCard

/-- THE SECOND FORM's CARD OF 'dominolaw15.LinearHolds'. -/
def linearHoldsUptoCard : Claim7 := { stood := { row := linearHoldsUptoRow, standIns := [], harness := (true, "b93675183e0bf2c808403724e405c374e97bbafa4223829105421d541a7fc16b"), looks := false }, kinds := [], alts := [], laidByText := true, laidKinds := [.data, .data, .data], laidTests := true, laidLooks := .later }
def LinearHoldsUptoCardSaid : Prop := Claim7.holds Tryz.pinned (.plain (OpenSpec.upto linearHoldsSpec)) linearHoldsUptoCard

/-- THE SECOND FORM's CARD OF 'dominolaw15.LinearImages'. -/
def linearImagesUptoCard : Claim7 := { stood := { row := linearImagesUptoRow, standIns := [], harness := (true, "b93675183e0bf2c808403724e405c374e97bbafa4223829105421d541a7fc16b"), looks := false }, kinds := [], alts := [], laidByText := true, laidKinds := [.data, .data, .data], laidTests := true, laidLooks := .later }
def LinearImagesUptoCardSaid : Prop := Claim7.holds Tryz.pinned (.plain (OpenSpec.upto linearImagesSpec)) linearImagesUptoCard

/-- THE SECOND FORM's CARD OF 'dominolaw15.LinearAgrees'. -/
def linearAgreesUptoCard : Claim7 := { stood := { row := linearAgreesUptoRow, standIns := [], harness := (true, "b93675183e0bf2c808403724e405c374e97bbafa4223829105421d541a7fc16b"), looks := false }, kinds := [], alts := [], laidByText := true, laidKinds := [.data, .data, .data], laidTests := true, laidLooks := .later }
def LinearAgreesUptoCardSaid : Prop := Claim7.holds Tryz.pinned (.plain (OpenSpec.upto linearAgreesSpec)) linearAgreesUptoCard

/-- THE SECOND FORM's CARD OF 'dominolaw15.LinearAdds'. -/
def linearAddsUptoCard : Claim7 := { stood := { row := linearAddsUptoRow, standIns := [], harness := (true, "b93675183e0bf2c808403724e405c374e97bbafa4223829105421d541a7fc16b"), looks := false }, kinds := [], alts := [], laidByText := true, laidKinds := [.data, .data, .data], laidTests := true, laidLooks := .later }
def LinearAddsUptoCardSaid : Prop := Claim7.holds Tryz.pinned (.plain (OpenSpec.upto linearAddsSpec)) linearAddsUptoCard

/-- THE SECOND FORM's CARD OF 'dominolaw15.LinearJoins'. -/
def linearJoinsUptoCard : Claim7 := { stood := { row := linearJoinsUptoRow, standIns := [], harness := (true, "b93675183e0bf2c808403724e405c374e97bbafa4223829105421d541a7fc16b"), looks := false }, kinds := [], alts := [], laidByText := true, laidKinds := [.data, .data, .data], laidTests := true, laidLooks := .later }
def LinearJoinsUptoCardSaid : Prop := Claim7.holds Tryz.pinned (.plain (OpenSpec.upto linearJoinsSpec)) linearJoinsUptoCard

/-- THE SECOND FORM's CARD OF 'dominolaw15.LinearShares'. -/
def linearSharesUptoCard : Claim7 := { stood := { row := linearSharesUptoRow, standIns := [], harness := (true, "b93675183e0bf2c808403724e405c374e97bbafa4223829105421d541a7fc16b"), looks := false }, kinds := [], alts := [], laidByText := true, laidKinds := [.data, .data, .data], laidTests := true, laidLooks := .later }
def LinearSharesUptoCardSaid : Prop := Claim7.holds Tryz.pinned (.plain (OpenSpec.upto linearSharesSpec)) linearSharesUptoCard
end Rows
end Go.Proofs.YtcbamkgomnhdbaaGreatDoor
