/-
  DERIVED. GIVEN WITH THE SEED: THE CARDS: each row of YtgeimnknmljplaaDoorRows.lean that lists a variable, with what it lists TIED to the program's text (the seventh form; the later family's looks); each row that meets fmt, with fmt's text TOLD by the authors' own Lean function (tested against real Go, not proved from fmt's source: count such statements apart). THE CARD IS WHAT COUNTS. Prove the row's statement (the work); the ties are given (YtgeimnknmljplaaDoorTie.lean); close each card by the builder's one call (the guide's Derived/Test/ToyasCard.lean, 'card_holds'). Laid BY PROGRAM, IN A SANDBOX (cutbox-door.mjs). By AI agents, Wed Nov 11 2026. No macro, syntax, notation, axiom, sorry.
-/
import Derived.Test.YtgeimnknmljplaaDoorRows
import GoSem.ClaimSeven
namespace Go.Proofs.YtgeimnknmljplaaDoor
namespace Rows

/-- THE TIED CARD OF 'gavellaw19.AppSale'. -/
def appSaleCard : Claim7 := { stood := { row := appSaleRow, standIns := [], harness := (true, "ba64c6d4d5cf4b72b872a512fa665cfe33afe478ccb54c29b17ae3c06dcb5912"), looks := false }, kinds := [], alts := [], laidByText := true, laidKinds := [.data, .data, .data, .data, .pinned], laidTests := true, laidLooks := .later }
def AppSaleCardSaid : Prop := Claim7.holds Tryd.pinned (.plain (OpenSpec.ofChange appSaleSpec)) appSaleCard

/-- THE TIED CARD OF 'gavellaw19.AppFirst'. -/
def appFirstCard : Claim7 := { stood := { row := appFirstRow, standIns := [], harness := (true, "ba64c6d4d5cf4b72b872a512fa665cfe33afe478ccb54c29b17ae3c06dcb5912"), looks := false }, kinds := [], alts := [], laidByText := true, laidKinds := [.data, .data, .data, .data, .pinned], laidTests := true, laidLooks := .later }
def AppFirstCardSaid : Prop := Claim7.holds Tryd.pinned (.plain (OpenSpec.ofChange appFirstSpec)) appFirstCard

/-- THE SECOND FORM's CARD OF 'gavellaw19.AppSale'. -/
def appSaleUptoCard : Claim7 := { stood := { row := appSaleUptoRow, standIns := [], harness := (true, "ba64c6d4d5cf4b72b872a512fa665cfe33afe478ccb54c29b17ae3c06dcb5912"), looks := false }, kinds := [], alts := [], laidByText := true, laidKinds := [.data, .data, .data, .data, .pinned], laidTests := true, laidLooks := .later }
def AppSaleUptoCardSaid : Prop := Claim7.holds Tryd.pinned (.plain (OpenSpec.upto appSaleSpec)) appSaleUptoCard

/-- THE SECOND FORM's CARD OF 'gavellaw19.AppFirst'. -/
def appFirstUptoCard : Claim7 := { stood := { row := appFirstUptoRow, standIns := [], harness := (true, "ba64c6d4d5cf4b72b872a512fa665cfe33afe478ccb54c29b17ae3c06dcb5912"), looks := false }, kinds := [], alts := [], laidByText := true, laidKinds := [.data, .data, .data, .data, .pinned], laidTests := true, laidLooks := .later }
def AppFirstUptoCardSaid : Prop := Claim7.holds Tryd.pinned (.plain (OpenSpec.upto appFirstSpec)) appFirstUptoCard
end Rows
end Go.Proofs.YtgeimnknmljplaaDoor
