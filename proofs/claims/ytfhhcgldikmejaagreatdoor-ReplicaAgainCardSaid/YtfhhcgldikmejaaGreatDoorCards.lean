/-
  DERIVED. GIVEN WITH THE SEED: THE CARDS: each row of YtfhhcgldikmejaaGreatDoorRows.lean that lists a variable, with what it lists TIED to the program's text (the seventh form; the later family's looks); each row that meets fmt, with fmt's text TOLD by the authors' own Lean function (tested against real Go, not proved from fmt's source: count such statements apart). THE CARD IS WHAT COUNTS. Prove the row's statement (the work); the ties are given (YtfhhcgldikmejaaGreatDoorTie.lean); close each card by the builder's one call (the guide's Derived/Test/ToyasCard.lean, 'card_holds'). Laid BY PROGRAM, IN A SANDBOX (cutbox-door.mjs). By AI agents, Wed Nov 11 2026. No macro, syntax, notation, axiom, sorry.
-/
import Derived.Test.YtfhhcgldikmejaaGreatDoorRows
import GoSem.ClaimSeven
namespace Go.Proofs.YtfhhcgldikmejaaGreatDoor
namespace Rows

/-- THE TIED CARD OF 'gavellaw20.ReplicaFloors'. -/
def replicaFloorsCard : Claim7 := { stood := { row := replicaFloorsRow, standIns := [], harness := (true, "7aa7149c22e1eb29a8c442b1ce7fbe9720cb29c07e3f38ccd89bccca60b45f55"), looks := true }, kinds := [], alts := [], laidByText := true, laidKinds := [.data, .data, .data, .data, .pinned], laidTests := true, laidLooks := .later }
def ReplicaFloorsCardSaid : Prop := Claim7.holds Tryz.pinned (.plain (OpenSpec.ofChange replicaFloorsSpec)) replicaFloorsCard

/-- THE TIED CARD OF 'gavellaw20.ReplicaAgain'. -/
def replicaAgainCard : Claim7 := { stood := { row := replicaAgainRow, standIns := [], harness := (true, "7aa7149c22e1eb29a8c442b1ce7fbe9720cb29c07e3f38ccd89bccca60b45f55"), looks := true }, kinds := [], alts := [], laidByText := true, laidKinds := [.data, .data, .data, .data, .pinned], laidTests := true, laidLooks := .later }
def ReplicaAgainCardSaid : Prop := Claim7.holds Tryz.pinned (.plain (OpenSpec.ofChange replicaAgainSpec)) replicaAgainCard

/-- THE TIED CARD OF 'gavellaw20.ReplicaStamps'. -/
def replicaStampsCard : Claim7 := { stood := { row := replicaStampsRow, standIns := [], harness := (true, "7aa7149c22e1eb29a8c442b1ce7fbe9720cb29c07e3f38ccd89bccca60b45f55"), looks := true }, kinds := [], alts := [], laidByText := true, laidKinds := [.data, .data, .data, .data, .pinned], laidTests := true, laidLooks := .later }
def ReplicaStampsCardSaid : Prop := Claim7.holds Tryz.pinned (.plain (OpenSpec.ofChange replicaStampsSpec)) replicaStampsCard

/-- THE SECOND FORM's CARD OF 'gavellaw20.ReplicaFloors'. -/
def replicaFloorsUptoCard : Claim7 := { stood := { row := replicaFloorsUptoRow, standIns := [], harness := (true, "7aa7149c22e1eb29a8c442b1ce7fbe9720cb29c07e3f38ccd89bccca60b45f55"), looks := true }, kinds := [], alts := [], laidByText := true, laidKinds := [.data, .data, .data, .data, .pinned], laidTests := true, laidLooks := .later }
def ReplicaFloorsUptoCardSaid : Prop := Claim7.holds Tryz.pinned (.plain (OpenSpec.upto replicaFloorsSpec)) replicaFloorsUptoCard

/-- THE SECOND FORM's CARD OF 'gavellaw20.ReplicaAgain'. -/
def replicaAgainUptoCard : Claim7 := { stood := { row := replicaAgainUptoRow, standIns := [], harness := (true, "7aa7149c22e1eb29a8c442b1ce7fbe9720cb29c07e3f38ccd89bccca60b45f55"), looks := true }, kinds := [], alts := [], laidByText := true, laidKinds := [.data, .data, .data, .data, .pinned], laidTests := true, laidLooks := .later }
def ReplicaAgainUptoCardSaid : Prop := Claim7.holds Tryz.pinned (.plain (OpenSpec.upto replicaAgainSpec)) replicaAgainUptoCard

/-- THE SECOND FORM's CARD OF 'gavellaw20.ReplicaStamps'. -/
def replicaStampsUptoCard : Claim7 := { stood := { row := replicaStampsUptoRow, standIns := [], harness := (true, "7aa7149c22e1eb29a8c442b1ce7fbe9720cb29c07e3f38ccd89bccca60b45f55"), looks := true }, kinds := [], alts := [], laidByText := true, laidKinds := [.data, .data, .data, .data, .pinned], laidTests := true, laidLooks := .later }
def ReplicaStampsUptoCardSaid : Prop := Claim7.holds Tryz.pinned (.plain (OpenSpec.upto replicaStampsSpec)) replicaStampsUptoCard
end Rows
end Go.Proofs.YtfhhcgldikmejaaGreatDoor
