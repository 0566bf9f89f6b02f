/-
  DERIVED. GIVEN WITH THE SEED: THE CARDS: each row of YteockodnfempfaaGreatDoorRows.lean that lists a variable, with what it lists TIED to the program's text (the seventh form; the later family's looks); each row that meets fmt, with fmt's text TOLD by the authors' own Lean function (tested against real Go, not proved from fmt's source: count such statements apart). THE CARD IS WHAT COUNTS. Prove the row's statement (the work); the ties are given (YteockodnfempfaaGreatDoorTie.lean); close each card by the builder's one call (the guide's Derived/Test/ToyasCard.lean, 'card_holds'). Laid BY PROGRAM, IN A SANDBOX (cutbox-door.mjs). By AI agents, Wed Nov 11 2026. No macro, syntax, notation, axiom, sorry.
-/
import Derived.Test.YteockodnfempfaaGreatDoorRows
import GoSem.ClaimSeven
namespace Go.Proofs.YteockodnfempfaaGreatDoor
namespace Rows

/-- THE TIED CARD OF 'gavellaw19.AppAgain'. -/
def appAgainCard : Claim7 := { stood := { row := appAgainRow, standIns := [], harness := (true, "5bb5e46bce99e867be3fbdfe9e799ea9a596899ca75d40b2bc330795629eb174"), looks := true }, kinds := [], alts := [], laidByText := true, laidKinds := [.data, .data, .data, .data, .pinned], laidTests := true, laidLooks := .later }
def AppAgainCardSaid : Prop := Claim7.holds Tryz.pinned (.plain (OpenSpec.ofChange appAgainSpec)) appAgainCard

/-- THE TIED CARD OF 'gavellaw26.AuditReplies'. -/
def auditRepliesCard : Claim7 := { stood := { row := auditRepliesRow, standIns := [], harness := (true, "5bb5e46bce99e867be3fbdfe9e799ea9a596899ca75d40b2bc330795629eb174"), looks := true }, kinds := [], alts := [], laidByText := true, laidKinds := [.data, .data, .data, .data, .pinned], laidTests := true, laidLooks := .later }
def AuditRepliesCardSaid : Prop := Claim7.holds Tryz.pinned (.plain (OpenSpec.ofChange auditRepliesSpec)) auditRepliesCard

/-- THE TIED CARD OF 'gavellaw26.AuditSame'. -/
def auditSameCard : Claim7 := { stood := { row := auditSameRow, standIns := [], harness := (true, "5bb5e46bce99e867be3fbdfe9e799ea9a596899ca75d40b2bc330795629eb174"), looks := true }, kinds := [], alts := [], laidByText := true, laidKinds := [.data, .data, .data, .data, .pinned], laidTests := true, laidLooks := .later }
def AuditSameCardSaid : Prop := Claim7.holds Tryz.pinned (.plain (OpenSpec.ofChange auditSameSpec)) auditSameCard

/-- THE TIED CARD OF 'gavellaw19.AppApart'. -/
def appApartCard : Claim7 := { stood := { row := appApartRow, standIns := [], harness := (true, "5bb5e46bce99e867be3fbdfe9e799ea9a596899ca75d40b2bc330795629eb174"), looks := true }, kinds := [], alts := [], laidByText := true, laidKinds := [.data, .data, .data, .data, .pinned], laidTests := true, laidLooks := .later }
def AppApartCardSaid : Prop := Claim7.holds Tryz.pinned (.plain (OpenSpec.ofChange appApartSpec)) appApartCard

/-- THE SECOND FORM's CARD OF 'gavellaw19.AppAgain'. -/
def appAgainUptoCard : Claim7 := { stood := { row := appAgainUptoRow, standIns := [], harness := (true, "5bb5e46bce99e867be3fbdfe9e799ea9a596899ca75d40b2bc330795629eb174"), looks := true }, kinds := [], alts := [], laidByText := true, laidKinds := [.data, .data, .data, .data, .pinned], laidTests := true, laidLooks := .later }
def AppAgainUptoCardSaid : Prop := Claim7.holds Tryz.pinned (.plain (OpenSpec.upto appAgainSpec)) appAgainUptoCard

/-- THE SECOND FORM's CARD OF 'gavellaw26.AuditReplies'. -/
def auditRepliesUptoCard : Claim7 := { stood := { row := auditRepliesUptoRow, standIns := [], harness := (true, "5bb5e46bce99e867be3fbdfe9e799ea9a596899ca75d40b2bc330795629eb174"), looks := true }, kinds := [], alts := [], laidByText := true, laidKinds := [.data, .data, .data, .data, .pinned], laidTests := true, laidLooks := .later }
def AuditRepliesUptoCardSaid : Prop := Claim7.holds Tryz.pinned (.plain (OpenSpec.upto auditRepliesSpec)) auditRepliesUptoCard

/-- THE SECOND FORM's CARD OF 'gavellaw26.AuditSame'. -/
def auditSameUptoCard : Claim7 := { stood := { row := auditSameUptoRow, standIns := [], harness := (true, "5bb5e46bce99e867be3fbdfe9e799ea9a596899ca75d40b2bc330795629eb174"), looks := true }, kinds := [], alts := [], laidByText := true, laidKinds := [.data, .data, .data, .data, .pinned], laidTests := true, laidLooks := .later }
def AuditSameUptoCardSaid : Prop := Claim7.holds Tryz.pinned (.plain (OpenSpec.upto auditSameSpec)) auditSameUptoCard

/-- THE SECOND FORM's CARD OF 'gavellaw19.AppApart'. -/
def appApartUptoCard : Claim7 := { stood := { row := appApartUptoRow, standIns := [], harness := (true, "5bb5e46bce99e867be3fbdfe9e799ea9a596899ca75d40b2bc330795629eb174"), looks := true }, kinds := [], alts := [], laidByText := true, laidKinds := [.data, .data, .data, .data, .pinned], laidTests := true, laidLooks := .later }
def AppApartUptoCardSaid : Prop := Claim7.holds Tryz.pinned (.plain (OpenSpec.upto appApartSpec)) appApartUptoCard
end Rows
end Go.Proofs.YteockodnfempfaaGreatDoor
