/-
  DERIVED. GIVEN WITH THE SEED: THE CARDS: each row of YthkifibmihijaaaGreatDoorRows.lean that lists a variable, with what it lists TIED to the program's text (the seventh form; the later family's looks); each row that meets fmt, with fmt's text TOLD by the authors' own Lean function (tested against real Go, not proved from fmt's source: count such statements apart). THE CARD IS WHAT COUNTS. Prove the row's statement (the work); the ties are given (YthkifibmihijaaaGreatDoorTie.lean); close each card by the builder's one call (the guide's Derived/Test/ToyasCard.lean, 'card_holds'). Laid BY PROGRAM, IN A SANDBOX (cutbox-door.mjs). By AI agents, Wed Nov 11 2026. No macro, syntax, notation, axiom, sorry.
-/
import Derived.Test.YthkifibmihijaaaGreatDoorRows
import GoSem.ClaimSeven
namespace Go.Proofs.YthkifibmihijaaaGreatDoor
namespace Rows

/-- THE TIED CARD OF 'gavellaw20.ReplicaNews'. -/
def replicaNewsCard : Claim7 := { stood := { row := replicaNewsRow, standIns := [], harness := (true, "0a72644f461e3401ae22a12deba6e4d5709aa38c36e7f24560396de26a8f42ea"), looks := true }, kinds := [], alts := [], laidByText := true, laidKinds := [.data, .data, .data, .data, .pinned], laidTests := true, laidLooks := .later }
def ReplicaNewsCardSaid : Prop := Claim7.holds Tryz.pinned (.plain (OpenSpec.ofChange replicaNewsSpec)) replicaNewsCard

/-- THE SECOND FORM's CARD OF 'gavellaw20.ReplicaNews'. -/
def replicaNewsUptoCard : Claim7 := { stood := { row := replicaNewsUptoRow, standIns := [], harness := (true, "0a72644f461e3401ae22a12deba6e4d5709aa38c36e7f24560396de26a8f42ea"), looks := true }, kinds := [], alts := [], laidByText := true, laidKinds := [.data, .data, .data, .data, .pinned], laidTests := true, laidLooks := .later }
def ReplicaNewsUptoCardSaid : Prop := Claim7.holds Tryz.pinned (.plain (OpenSpec.upto replicaNewsSpec)) replicaNewsUptoCard
end Rows
end Go.Proofs.YthkifibmihijaaaGreatDoor
