/-
  No cell of these rows narrows 'for every input' (looked for: loops, veiled, ifaces, maps, wideKeys, modest, calm, conditions, laid).
  DERIVED. THE GIVEN ROWS OF THIS SEAT. 18 by the template 'for every input the law returns true; each argument reads behind the call as it read before'; 0 by the template 'total and deterministic' (their statements: YteockodnfempfaaTotals.lean).
  GIVEN WITH THE SEED: the statements are not yours to turn. If you find one false, say at which input.
  Laid BY PROGRAM, IN A SANDBOX (cutbox-rows.mjs): the forced cells as the released guide's own fill.sh prints them over the translation 0727ae64bc422971… (all of the seat's roots in one cut). By AI agents, Wed Nov 11 2026. No macro, syntax, notation, axiom, sorry.
-/
import Derived.Test.YteockodnfempfaaChecked
import GoSem.Claim
import GoSem.ClaimJoined
import GoSem.ClaimMapViews
import Derived.JoinedTies
import Derived.KernelRfl
namespace Go.Proofs.Yteockodnfempfaa
/- THE CELL 'sum', in the pinned program and in every row, IS THE sha256 OF THE DUMP (.gsa) THAT YteockodnfempfaaProg.lean LOADS. Nothing in Lean hashes anything: it is a label: what it is worth is what the hold of that sum in a sandbox is worth. -/
noncomputable def Try.pinned : Pinned := { name := "yteockodnfempfaa", sum := "0727ae64bc422971990a47d94a5b220e5bc2979d1c0028f45e18a3bc8af759ee", checked := Try.checked }
namespace Rows
def none {H : Type} : Left H := { results := [], args := [] }

/-- 'gavellaw26.AuditGrows': WHATEVER THE INPUT: true; the input reads as it did. -/
def auditGrowsSpec : ChangeSpec := { name := "auditGrows", fn := fun _ => fun
  | [d1, d2, d3] => { results := [.lit (.bool true)], args := [d1, d2, d3] }
  | _ => none }
def auditGrowsRow : OpenClaim := { program := "yteockodnfempfaa", sum := "0727ae64bc422971990a47d94a5b220e5bc2979d1c0028f45e18a3bc8af759ee", func := "gavel/gavellaw26.AuditGrows", spec := "auditGrows", plainKeys := false, apart := false }
def AuditGrowsSaid : Prop := auditGrowsRow.holds Try.pinned (OpenSpec.ofChange auditGrowsSpec)

/-- ITS FALSE NEIGHBOUR: 'it returns false'. Refute it at one input. -/
def auditGrowsWrong : ChangeSpec := { name := "auditGrows", fn := fun _ => fun
  | [d1, d2, d3] => { results := [.lit (.bool false)], args := [d1, d2, d3] }
  | _ => none }
def AuditGrowsWrongFalsely : Prop := auditGrowsRow.holds Try.pinned (OpenSpec.ofChange auditGrowsWrong)

/-- 'gavellaw26.AuditTurned': WHATEVER THE INPUT: true; the input reads as it did. -/
def auditTurnedSpec : ChangeSpec := { name := "auditTurned", fn := fun _ => fun
  | [d1, d2] => { results := [.lit (.bool true)], args := [d1, d2] }
  | _ => none }
def auditTurnedRow : OpenClaim := { program := "yteockodnfempfaa", sum := "0727ae64bc422971990a47d94a5b220e5bc2979d1c0028f45e18a3bc8af759ee", func := "gavel/gavellaw26.AuditTurned", spec := "auditTurned", plainKeys := false, apart := false }
def AuditTurnedSaid : Prop := auditTurnedRow.holds Try.pinned (OpenSpec.ofChange auditTurnedSpec)

/-- ITS FALSE NEIGHBOUR: 'it returns false'. Refute it at one input. -/
def auditTurnedWrong : ChangeSpec := { name := "auditTurned", fn := fun _ => fun
  | [d1, d2] => { results := [.lit (.bool false)], args := [d1, d2] }
  | _ => none }
def AuditTurnedWrongFalsely : Prop := auditTurnedRow.holds Try.pinned (OpenSpec.ofChange auditTurnedWrong)

/-- 'gavellaw26.AuditFair': WHATEVER THE INPUT: true; the input reads as it did. -/
def auditFairSpec : ChangeSpec := { name := "auditFair", fn := fun _ => fun
  | [d1, d2, d3] => { results := [.lit (.bool true)], args := [d1, d2, d3] }
  | _ => none }
def auditFairRow : OpenClaim := { program := "yteockodnfempfaa", sum := "0727ae64bc422971990a47d94a5b220e5bc2979d1c0028f45e18a3bc8af759ee", func := "gavel/gavellaw26.AuditFair", spec := "auditFair", plainKeys := false, apart := false }
def AuditFairSaid : Prop := auditFairRow.holds Try.pinned (OpenSpec.ofChange auditFairSpec)

/-- ITS FALSE NEIGHBOUR: 'it returns false'. Refute it at one input. -/
def auditFairWrong : ChangeSpec := { name := "auditFair", fn := fun _ => fun
  | [d1, d2, d3] => { results := [.lit (.bool false)], args := [d1, d2, d3] }
  | _ => none }
def AuditFairWrongFalsely : Prop := auditFairRow.holds Try.pinned (OpenSpec.ofChange auditFairWrong)

/-- 'gavellaw26.AuditLogs': WHATEVER THE INPUT: true; the input reads as it did. -/
def auditLogsSpec : ChangeSpec := { name := "auditLogs", fn := fun _ => fun
  | [d1, d2] => { results := [.lit (.bool true)], args := [d1, d2] }
  | _ => none }
def auditLogsRow : OpenClaim := { program := "yteockodnfempfaa", sum := "0727ae64bc422971990a47d94a5b220e5bc2979d1c0028f45e18a3bc8af759ee", func := "gavel/gavellaw26.AuditLogs", spec := "auditLogs", plainKeys := false, apart := false }
def AuditLogsSaid : Prop := auditLogsRow.holds Try.pinned (OpenSpec.ofChange auditLogsSpec)

/-- ITS FALSE NEIGHBOUR: 'it returns false'. Refute it at one input. -/
def auditLogsWrong : ChangeSpec := { name := "auditLogs", fn := fun _ => fun
  | [d1, d2] => { results := [.lit (.bool false)], args := [d1, d2] }
  | _ => none }
def AuditLogsWrongFalsely : Prop := auditLogsRow.holds Try.pinned (OpenSpec.ofChange auditLogsWrong)

/-- 'gavellaw26.AuditBeginnings': WHATEVER THE INPUT: true; the input reads as it did. -/
def auditBeginningsSpec : ChangeSpec := { name := "auditBeginnings", fn := fun _ => fun
  | [d1, d2, d3, d4] => { results := [.lit (.bool true)], args := [d1, d2, d3, d4] }
  | _ => none }
def auditBeginningsRow : OpenClaim := { program := "yteockodnfempfaa", sum := "0727ae64bc422971990a47d94a5b220e5bc2979d1c0028f45e18a3bc8af759ee", func := "gavel/gavellaw26.AuditBeginnings", spec := "auditBeginnings", plainKeys := false, apart := false }
def AuditBeginningsSaid : Prop := auditBeginningsRow.holds Try.pinned (OpenSpec.ofChange auditBeginningsSpec)

/-- ITS FALSE NEIGHBOUR: 'it returns false'. Refute it at one input. -/
def auditBeginningsWrong : ChangeSpec := { name := "auditBeginnings", fn := fun _ => fun
  | [d1, d2, d3, d4] => { results := [.lit (.bool false)], args := [d1, d2, d3, d4] }
  | _ => none }
def AuditBeginningsWrongFalsely : Prop := auditBeginningsRow.holds Try.pinned (OpenSpec.ofChange auditBeginningsWrong)

/-- 'gavellaw17.AuctionWins': WHATEVER THE INPUT: true; the input reads as it did. -/
def auctionWinsSpec : ChangeSpec := { name := "auctionWins", fn := fun _ => fun
  | [d1, d2, d3, d4] => { results := [.lit (.bool true)], args := [d1, d2, d3, d4] }
  | _ => none }
def auctionWinsRow : OpenClaim := { program := "yteockodnfempfaa", sum := "0727ae64bc422971990a47d94a5b220e5bc2979d1c0028f45e18a3bc8af759ee", func := "gavel/gavellaw17.AuctionWins", spec := "auctionWins", unfollowed := true, recurses := true, plainKeys := false, apart := false }
def AuctionWinsSaid : Prop := auctionWinsRow.holds Try.pinned (OpenSpec.ofChange auctionWinsSpec)

/-- ITS FALSE NEIGHBOUR: 'it returns false'. Refute it at one input. -/
def auctionWinsWrong : ChangeSpec := { name := "auctionWins", fn := fun _ => fun
  | [d1, d2, d3, d4] => { results := [.lit (.bool false)], args := [d1, d2, d3, d4] }
  | _ => none }
def AuctionWinsWrongFalsely : Prop := auctionWinsRow.holds Try.pinned (OpenSpec.ofChange auctionWinsWrong)

/-- 'gavellaw17.AuctionOrder': WHATEVER THE INPUT: true; the input reads as it did. -/
def auctionOrderSpec : ChangeSpec := { name := "auctionOrder", fn := fun _ => fun
  | [d1, d2, d3, d4] => { results := [.lit (.bool true)], args := [d1, d2, d3, d4] }
  | _ => none }
def auctionOrderRow : OpenClaim := { program := "yteockodnfempfaa", sum := "0727ae64bc422971990a47d94a5b220e5bc2979d1c0028f45e18a3bc8af759ee", func := "gavel/gavellaw17.AuctionOrder", spec := "auctionOrder", unfollowed := true, recurses := true, plainKeys := false, apart := false }
def AuctionOrderSaid : Prop := auctionOrderRow.holds Try.pinned (OpenSpec.ofChange auctionOrderSpec)

/-- ITS FALSE NEIGHBOUR: 'it returns false'. Refute it at one input. -/
def auctionOrderWrong : ChangeSpec := { name := "auctionOrder", fn := fun _ => fun
  | [d1, d2, d3, d4] => { results := [.lit (.bool false)], args := [d1, d2, d3, d4] }
  | _ => none }
def AuctionOrderWrongFalsely : Prop := auctionOrderRow.holds Try.pinned (OpenSpec.ofChange auctionOrderWrong)

/-- 'gavellaw17.AuctionReserve': WHATEVER THE INPUT: true; the input reads as it did. -/
def auctionReserveSpec : ChangeSpec := { name := "auctionReserve", fn := fun _ => fun
  | [d1, d2, d3, d4] => { results := [.lit (.bool true)], args := [d1, d2, d3, d4] }
  | _ => none }
def auctionReserveRow : OpenClaim := { program := "yteockodnfempfaa", sum := "0727ae64bc422971990a47d94a5b220e5bc2979d1c0028f45e18a3bc8af759ee", func := "gavel/gavellaw17.AuctionReserve", spec := "auctionReserve", unfollowed := true, recurses := true, plainKeys := false, apart := false }
def AuctionReserveSaid : Prop := auctionReserveRow.holds Try.pinned (OpenSpec.ofChange auctionReserveSpec)

/-- ITS FALSE NEIGHBOUR: 'it returns false'. Refute it at one input. -/
def auctionReserveWrong : ChangeSpec := { name := "auctionReserve", fn := fun _ => fun
  | [d1, d2, d3, d4] => { results := [.lit (.bool false)], args := [d1, d2, d3, d4] }
  | _ => none }
def AuctionReserveWrongFalsely : Prop := auctionReserveRow.holds Try.pinned (OpenSpec.ofChange auctionReserveWrong)

/-- 'gavellaw17.AuctionTimes': WHATEVER THE INPUT: true; the input reads as it did. -/
def auctionTimesSpec : ChangeSpec := { name := "auctionTimes", fn := fun _ => fun
  | [d1, d2, d3, d4] => { results := [.lit (.bool true)], args := [d1, d2, d3, d4] }
  | _ => none }
def auctionTimesRow : OpenClaim := { program := "yteockodnfempfaa", sum := "0727ae64bc422971990a47d94a5b220e5bc2979d1c0028f45e18a3bc8af759ee", func := "gavel/gavellaw17.AuctionTimes", spec := "auctionTimes", unfollowed := true, recurses := true, plainKeys := false, apart := false }
def AuctionTimesSaid : Prop := auctionTimesRow.holds Try.pinned (OpenSpec.ofChange auctionTimesSpec)

/-- ITS FALSE NEIGHBOUR: 'it returns false'. Refute it at one input. -/
def auctionTimesWrong : ChangeSpec := { name := "auctionTimes", fn := fun _ => fun
  | [d1, d2, d3, d4] => { results := [.lit (.bool false)], args := [d1, d2, d3, d4] }
  | _ => none }
def AuctionTimesWrongFalsely : Prop := auctionTimesRow.holds Try.pinned (OpenSpec.ofChange auctionTimesWrong)

/-- 'gavellaw15.LedgerRefuses': WHATEVER THE INPUT: true; the input reads as it did. -/
def ledgerRefusesSpec : ChangeSpec := { name := "ledgerRefuses", fn := fun _ => fun
  | [d1, d2, d3] => { results := [.lit (.bool true)], args := [d1, d2, d3] }
  | _ => none }
def ledgerRefusesRow : OpenClaim := { program := "yteockodnfempfaa", sum := "0727ae64bc422971990a47d94a5b220e5bc2979d1c0028f45e18a3bc8af759ee", func := "gavel/gavellaw15.LedgerRefuses", spec := "ledgerRefuses", inPlace := ["internal/bytealg.Compare"], unfollowed := true, recurses := true, plainKeys := false, apart := false }
def LedgerRefusesSaid : Prop := ledgerRefusesRow.holds Try.pinned (OpenSpec.ofChange ledgerRefusesSpec)

/-- ITS FALSE NEIGHBOUR: 'it returns false'. Refute it at one input. -/
def ledgerRefusesWrong : ChangeSpec := { name := "ledgerRefuses", fn := fun _ => fun
  | [d1, d2, d3] => { results := [.lit (.bool false)], args := [d1, d2, d3] }
  | _ => none }
def LedgerRefusesWrongFalsely : Prop := ledgerRefusesRow.holds Try.pinned (OpenSpec.ofChange ledgerRefusesWrong)

/-- 'gavellaw15.LedgerEnds': WHATEVER THE INPUT: true; the input reads as it did. -/
def ledgerEndsSpec : ChangeSpec := { name := "ledgerEnds", fn := fun _ => fun
  | [d1, d2, d3, d4] => { results := [.lit (.bool true)], args := [d1, d2, d3, d4] }
  | _ => none }
def ledgerEndsRow : OpenClaim := { program := "yteockodnfempfaa", sum := "0727ae64bc422971990a47d94a5b220e5bc2979d1c0028f45e18a3bc8af759ee", func := "gavel/gavellaw15.LedgerEnds", spec := "ledgerEnds", inPlace := ["internal/bytealg.Compare"], unfollowed := true, recurses := true, plainKeys := false, apart := false }
def LedgerEndsSaid : Prop := ledgerEndsRow.holds Try.pinned (OpenSpec.ofChange ledgerEndsSpec)

/-- ITS FALSE NEIGHBOUR: 'it returns false'. Refute it at one input. -/
def ledgerEndsWrong : ChangeSpec := { name := "ledgerEnds", fn := fun _ => fun
  | [d1, d2, d3, d4] => { results := [.lit (.bool false)], args := [d1, d2, d3, d4] }
  | _ => none }
def LedgerEndsWrongFalsely : Prop := ledgerEndsRow.holds Try.pinned (OpenSpec.ofChange ledgerEndsWrong)

/-- 'gavellaw15.LedgerGrows': WHATEVER THE INPUT: true; the input reads as it did. -/
def ledgerGrowsSpec : ChangeSpec := { name := "ledgerGrows", fn := fun _ => fun
  | [d] => { results := [.lit (.bool true)], args := [d] }
  | _ => none }
def ledgerGrowsRow : OpenClaim := { program := "yteockodnfempfaa", sum := "0727ae64bc422971990a47d94a5b220e5bc2979d1c0028f45e18a3bc8af759ee", func := "gavel/gavellaw15.LedgerGrows", spec := "ledgerGrows", inPlace := ["internal/bytealg.Compare"], unfollowed := true, recurses := true, plainKeys := false, apart := false }
def LedgerGrowsSaid : Prop := ledgerGrowsRow.holds Try.pinned (OpenSpec.ofChange ledgerGrowsSpec)

/-- ITS FALSE NEIGHBOUR: 'it returns false'. Refute it at one input. -/
def ledgerGrowsWrong : ChangeSpec := { name := "ledgerGrows", fn := fun _ => fun
  | [d] => { results := [.lit (.bool false)], args := [d] }
  | _ => none }
def LedgerGrowsWrongFalsely : Prop := ledgerGrowsRow.holds Try.pinned (OpenSpec.ofChange ledgerGrowsWrong)

/-- 'gavellaw15.LedgerDone': WHATEVER THE INPUT: true; the input reads as it did. -/
def ledgerDoneSpec : ChangeSpec := { name := "ledgerDone", fn := fun _ => fun
  | [d1, d2] => { results := [.lit (.bool true)], args := [d1, d2] }
  | _ => none }
def ledgerDoneRow : OpenClaim := { program := "yteockodnfempfaa", sum := "0727ae64bc422971990a47d94a5b220e5bc2979d1c0028f45e18a3bc8af759ee", func := "gavel/gavellaw15.LedgerDone", spec := "ledgerDone", inPlace := ["internal/bytealg.Compare"], unfollowed := true, recurses := true, plainKeys := false, apart := false }
def LedgerDoneSaid : Prop := ledgerDoneRow.holds Try.pinned (OpenSpec.ofChange ledgerDoneSpec)

/-- ITS FALSE NEIGHBOUR: 'it returns false'. Refute it at one input. -/
def ledgerDoneWrong : ChangeSpec := { name := "ledgerDone", fn := fun _ => fun
  | [d1, d2] => { results := [.lit (.bool false)], args := [d1, d2] }
  | _ => none }
def LedgerDoneWrongFalsely : Prop := ledgerDoneRow.holds Try.pinned (OpenSpec.ofChange ledgerDoneWrong)

/-- 'gavellaw15.LedgerBase': WHATEVER THE INPUT: true; the input reads as it did. -/
def ledgerBaseSpec : ChangeSpec := { name := "ledgerBase", fn := fun _ => fun
  | [d1, d2] => { results := [.lit (.bool true)], args := [d1, d2] }
  | _ => none }
def ledgerBaseRow : OpenClaim := { program := "yteockodnfempfaa", sum := "0727ae64bc422971990a47d94a5b220e5bc2979d1c0028f45e18a3bc8af759ee", func := "gavel/gavellaw15.LedgerBase", spec := "ledgerBase", inPlace := ["internal/bytealg.Compare"], unfollowed := true, recurses := true, plainKeys := false, apart := false }
def LedgerBaseSaid : Prop := ledgerBaseRow.holds Try.pinned (OpenSpec.ofChange ledgerBaseSpec)

/-- ITS FALSE NEIGHBOUR: 'it returns false'. Refute it at one input. -/
def ledgerBaseWrong : ChangeSpec := { name := "ledgerBase", fn := fun _ => fun
  | [d1, d2] => { results := [.lit (.bool false)], args := [d1, d2] }
  | _ => none }
def LedgerBaseWrongFalsely : Prop := ledgerBaseRow.holds Try.pinned (OpenSpec.ofChange ledgerBaseWrong)

/-- 'gavellaw26.AuditLog': WHATEVER THE INPUT: true; the input reads as it did. -/
def auditLogSpec : ChangeSpec := { name := "auditLog", fn := fun _ => fun
  | [d] => { results := [.lit (.bool true)], args := [d] }
  | _ => none }
def auditLogRow : OpenClaim := { program := "yteockodnfempfaa", sum := "0727ae64bc422971990a47d94a5b220e5bc2979d1c0028f45e18a3bc8af759ee", func := "gavel/gavellaw26.AuditLog", spec := "auditLog", inPlace := ["internal/bytealg.Compare"], unfollowed := true, recurses := true, plainKeys := false, apart := false }
def AuditLogSaid : Prop := auditLogRow.holds Try.pinned (OpenSpec.ofChange auditLogSpec)

/-- ITS FALSE NEIGHBOUR: 'it returns false'. Refute it at one input. -/
def auditLogWrong : ChangeSpec := { name := "auditLog", fn := fun _ => fun
  | [d] => { results := [.lit (.bool false)], args := [d] }
  | _ => none }
def AuditLogWrongFalsely : Prop := auditLogRow.holds Try.pinned (OpenSpec.ofChange auditLogWrong)

/-- 'gavellaw15.LedgerPlays': WHATEVER THE INPUT: true; the input reads as it did. -/
def ledgerPlaysSpec : ChangeSpec := { name := "ledgerPlays", fn := fun _ => fun
  | [d1, d2, d3] => { results := [.lit (.bool true)], args := [d1, d2, d3] }
  | _ => none }
def ledgerPlaysRow : OpenClaim := { program := "yteockodnfempfaa", sum := "0727ae64bc422971990a47d94a5b220e5bc2979d1c0028f45e18a3bc8af759ee", func := "gavel/gavellaw15.LedgerPlays", spec := "ledgerPlays", inPlace := ["internal/bytealg.Compare", "maps.clone"], unfollowed := true, recurses := true, plainKeys := false, apart := false }
def LedgerPlaysSaid : Prop := ledgerPlaysRow.holds Try.pinned (OpenSpec.ofChange ledgerPlaysSpec)

/-- ITS FALSE NEIGHBOUR: 'it returns false'. Refute it at one input. -/
def ledgerPlaysWrong : ChangeSpec := { name := "ledgerPlays", fn := fun _ => fun
  | [d1, d2, d3] => { results := [.lit (.bool false)], args := [d1, d2, d3] }
  | _ => none }
def LedgerPlaysWrongFalsely : Prop := ledgerPlaysRow.holds Try.pinned (OpenSpec.ofChange ledgerPlaysWrong)

/-- 'gavellaw17.AuctionMany': WHATEVER THE INPUT: true; the input reads as it did. -/
def auctionManySpec : ChangeSpec := { name := "auctionMany", fn := fun _ => fun
  | [d1, d2, d3] => { results := [.lit (.bool true)], args := [d1, d2, d3] }
  | _ => none }
def auctionManyRow : OpenClaim := { program := "yteockodnfempfaa", sum := "0727ae64bc422971990a47d94a5b220e5bc2979d1c0028f45e18a3bc8af759ee", func := "gavel/gavellaw17.AuctionMany", spec := "auctionMany", unfollowed := true, recurses := true, plainKeys := false, apart := false }
def AuctionManySaid : Prop := auctionManyRow.holds Try.pinned (OpenSpec.ofChange auctionManySpec)

/-- ITS FALSE NEIGHBOUR: 'it returns false'. Refute it at one input. -/
def auctionManyWrong : ChangeSpec := { name := "auctionMany", fn := fun _ => fun
  | [d1, d2, d3] => { results := [.lit (.bool false)], args := [d1, d2, d3] }
  | _ => none }
def AuctionManyWrongFalsely : Prop := auctionManyRow.holds Try.pinned (OpenSpec.ofChange auctionManyWrong)

/-- 'gavellaw17.AuctionPlays': WHATEVER THE INPUT: true; the input reads as it did. -/
def auctionPlaysSpec : ChangeSpec := { name := "auctionPlays", fn := fun _ => fun
  | [d1, d2] => { results := [.lit (.bool true)], args := [d1, d2] }
  | _ => none }
def auctionPlaysRow : OpenClaim := { program := "yteockodnfempfaa", sum := "0727ae64bc422971990a47d94a5b220e5bc2979d1c0028f45e18a3bc8af759ee", func := "gavel/gavellaw17.AuctionPlays", spec := "auctionPlays", inPlace := ["maps.clone"], unfollowed := true, recurses := true, plainKeys := false, apart := false }
def AuctionPlaysSaid : Prop := auctionPlaysRow.holds Try.pinned (OpenSpec.ofChange auctionPlaysSpec)

/-- ITS FALSE NEIGHBOUR: 'it returns false'. Refute it at one input. -/
def auctionPlaysWrong : ChangeSpec := { name := "auctionPlays", fn := fun _ => fun
  | [d1, d2] => { results := [.lit (.bool false)], args := [d1, d2] }
  | _ => none }
def AuctionPlaysWrongFalsely : Prop := auctionPlaysRow.holds Try.pinned (OpenSpec.ofChange auctionPlaysWrong)

/- THE SECOND FORM. 'bulk': how many values and letters a reading holds, each counted each time it is reached (what is shared counts as often as it is met; a slice's spare places count too). A statement '..UptoSaid' is the law's where the arguments, and the package variables that the reading takes, are together of bulk at most 1048576: NARROWER than '..Said'. Prove '..Said' where nothing that the law and all that it calls make is longer than what came in: it says more and counts as full. Else prove '..UptoSaid'. A law counts once. -/
mutual
def uptoBulk {H : Type} : DataW H → Nat
  | .lit (.string bytes) => bytes.length + 1
  | .lit _ => 1
  | .nil => 1
  | .ptr d => uptoBulk d + 1
  | .slice elems spare => uptoBulkAll elems + uptoBulkAll spare + 1
  | .agg parts => uptoBulkAll parts + 1
  | .iface _ d => uptoBulk d + 1
  | .map entries => uptoBulkEntries entries + 1
  | .held _ => 1
def uptoBulkAll {H : Type} : List (DataW H) → Nat
  | [] => 0
  | d :: r => uptoBulk d + uptoBulkAll r
def uptoBulkEntries {H : Type} : List (Lit × DataW H) → Nat
  | [] => 0
  | x :: r => uptoBulkEntry x + uptoBulkEntries r
def uptoBulkEntry {H : Type} : Lit × DataW H → Nat
  | (.string bytes, d) => bytes.length + uptoBulk d + 1
  | (_, d) => uptoBulk d + 1
 end
def uptoSmall : (H : Type) → List (DataW H) → Bool := fun _ ds => decide (uptoBulkAll ds ≤ 1048576)
def OpenSpec.upto (s : _root_.Go.ChangeSpec) : _root_.Go.OpenSpec := { _root_.Go.OpenSpec.ofChange s with cond := some uptoSmall }

/-- 'gavellaw26.AuditGrows', WHERE WHAT IT READS IS OF BULK AT MOST 1048576: true; the input reads as it did. -/
def auditGrowsUptoRow : OpenClaim := { program := "yteockodnfempfaa", sum := "0727ae64bc422971990a47d94a5b220e5bc2979d1c0028f45e18a3bc8af759ee", func := "gavel/gavellaw26.AuditGrows", spec := "auditGrows", plainKeys := false, apart := false, narrowed := true }
def AuditGrowsUptoSaid : Prop := auditGrowsUptoRow.holds Try.pinned (OpenSpec.upto auditGrowsSpec)

/-- 'gavellaw26.AuditTurned', WHERE WHAT IT READS IS OF BULK AT MOST 1048576: true; the input reads as it did. -/
def auditTurnedUptoRow : OpenClaim := { program := "yteockodnfempfaa", sum := "0727ae64bc422971990a47d94a5b220e5bc2979d1c0028f45e18a3bc8af759ee", func := "gavel/gavellaw26.AuditTurned", spec := "auditTurned", plainKeys := false, apart := false, narrowed := true }
def AuditTurnedUptoSaid : Prop := auditTurnedUptoRow.holds Try.pinned (OpenSpec.upto auditTurnedSpec)

/-- 'gavellaw26.AuditFair', WHERE WHAT IT READS IS OF BULK AT MOST 1048576: true; the input reads as it did. -/
def auditFairUptoRow : OpenClaim := { program := "yteockodnfempfaa", sum := "0727ae64bc422971990a47d94a5b220e5bc2979d1c0028f45e18a3bc8af759ee", func := "gavel/gavellaw26.AuditFair", spec := "auditFair", plainKeys := false, apart := false, narrowed := true }
def AuditFairUptoSaid : Prop := auditFairUptoRow.holds Try.pinned (OpenSpec.upto auditFairSpec)

/-- 'gavellaw26.AuditLogs', WHERE WHAT IT READS IS OF BULK AT MOST 1048576: true; the input reads as it did. -/
def auditLogsUptoRow : OpenClaim := { program := "yteockodnfempfaa", sum := "0727ae64bc422971990a47d94a5b220e5bc2979d1c0028f45e18a3bc8af759ee", func := "gavel/gavellaw26.AuditLogs", spec := "auditLogs", plainKeys := false, apart := false, narrowed := true }
def AuditLogsUptoSaid : Prop := auditLogsUptoRow.holds Try.pinned (OpenSpec.upto auditLogsSpec)

/-- 'gavellaw26.AuditBeginnings', WHERE WHAT IT READS IS OF BULK AT MOST 1048576: true; the input reads as it did. -/
def auditBeginningsUptoRow : OpenClaim := { program := "yteockodnfempfaa", sum := "0727ae64bc422971990a47d94a5b220e5bc2979d1c0028f45e18a3bc8af759ee", func := "gavel/gavellaw26.AuditBeginnings", spec := "auditBeginnings", plainKeys := false, apart := false, narrowed := true }
def AuditBeginningsUptoSaid : Prop := auditBeginningsUptoRow.holds Try.pinned (OpenSpec.upto auditBeginningsSpec)

/-- 'gavellaw17.AuctionWins', WHERE WHAT IT READS IS OF BULK AT MOST 1048576: true; the input reads as it did. -/
def auctionWinsUptoRow : OpenClaim := { program := "yteockodnfempfaa", sum := "0727ae64bc422971990a47d94a5b220e5bc2979d1c0028f45e18a3bc8af759ee", func := "gavel/gavellaw17.AuctionWins", spec := "auctionWins", unfollowed := true, recurses := true, plainKeys := false, apart := false, narrowed := true }
def AuctionWinsUptoSaid : Prop := auctionWinsUptoRow.holds Try.pinned (OpenSpec.upto auctionWinsSpec)

/-- 'gavellaw17.AuctionOrder', WHERE WHAT IT READS IS OF BULK AT MOST 1048576: true; the input reads as it did. -/
def auctionOrderUptoRow : OpenClaim := { program := "yteockodnfempfaa", sum := "0727ae64bc422971990a47d94a5b220e5bc2979d1c0028f45e18a3bc8af759ee", func := "gavel/gavellaw17.AuctionOrder", spec := "auctionOrder", unfollowed := true, recurses := true, plainKeys := false, apart := false, narrowed := true }
def AuctionOrderUptoSaid : Prop := auctionOrderUptoRow.holds Try.pinned (OpenSpec.upto auctionOrderSpec)

/-- 'gavellaw17.AuctionReserve', WHERE WHAT IT READS IS OF BULK AT MOST 1048576: true; the input reads as it did. -/
def auctionReserveUptoRow : OpenClaim := { program := "yteockodnfempfaa", sum := "0727ae64bc422971990a47d94a5b220e5bc2979d1c0028f45e18a3bc8af759ee", func := "gavel/gavellaw17.AuctionReserve", spec := "auctionReserve", unfollowed := true, recurses := true, plainKeys := false, apart := false, narrowed := true }
def AuctionReserveUptoSaid : Prop := auctionReserveUptoRow.holds Try.pinned (OpenSpec.upto auctionReserveSpec)

/-- 'gavellaw17.AuctionTimes', WHERE WHAT IT READS IS OF BULK AT MOST 1048576: true; the input reads as it did. -/
def auctionTimesUptoRow : OpenClaim := { program := "yteockodnfempfaa", sum := "0727ae64bc422971990a47d94a5b220e5bc2979d1c0028f45e18a3bc8af759ee", func := "gavel/gavellaw17.AuctionTimes", spec := "auctionTimes", unfollowed := true, recurses := true, plainKeys := false, apart := false, narrowed := true }
def AuctionTimesUptoSaid : Prop := auctionTimesUptoRow.holds Try.pinned (OpenSpec.upto auctionTimesSpec)

/-- 'gavellaw15.LedgerRefuses', WHERE WHAT IT READS IS OF BULK AT MOST 1048576: true; the input reads as it did. -/
def ledgerRefusesUptoRow : OpenClaim := { program := "yteockodnfempfaa", sum := "0727ae64bc422971990a47d94a5b220e5bc2979d1c0028f45e18a3bc8af759ee", func := "gavel/gavellaw15.LedgerRefuses", spec := "ledgerRefuses", inPlace := ["internal/bytealg.Compare"], unfollowed := true, recurses := true, plainKeys := false, apart := false, narrowed := true }
def LedgerRefusesUptoSaid : Prop := ledgerRefusesUptoRow.holds Try.pinned (OpenSpec.upto ledgerRefusesSpec)

/-- 'gavellaw15.LedgerEnds', WHERE WHAT IT READS IS OF BULK AT MOST 1048576: true; the input reads as it did. -/
def ledgerEndsUptoRow : OpenClaim := { program := "yteockodnfempfaa", sum := "0727ae64bc422971990a47d94a5b220e5bc2979d1c0028f45e18a3bc8af759ee", func := "gavel/gavellaw15.LedgerEnds", spec := "ledgerEnds", inPlace := ["internal/bytealg.Compare"], unfollowed := true, recurses := true, plainKeys := false, apart := false, narrowed := true }
def LedgerEndsUptoSaid : Prop := ledgerEndsUptoRow.holds Try.pinned (OpenSpec.upto ledgerEndsSpec)

/-- 'gavellaw15.LedgerGrows', WHERE WHAT IT READS IS OF BULK AT MOST 1048576: true; the input reads as it did. -/
def ledgerGrowsUptoRow : OpenClaim := { program := "yteockodnfempfaa", sum := "0727ae64bc422971990a47d94a5b220e5bc2979d1c0028f45e18a3bc8af759ee", func := "gavel/gavellaw15.LedgerGrows", spec := "ledgerGrows", inPlace := ["internal/bytealg.Compare"], unfollowed := true, recurses := true, plainKeys := false, apart := false, narrowed := true }
def LedgerGrowsUptoSaid : Prop := ledgerGrowsUptoRow.holds Try.pinned (OpenSpec.upto ledgerGrowsSpec)

/-- 'gavellaw15.LedgerDone', WHERE WHAT IT READS IS OF BULK AT MOST 1048576: true; the input reads as it did. -/
def ledgerDoneUptoRow : OpenClaim := { program := "yteockodnfempfaa", sum := "0727ae64bc422971990a47d94a5b220e5bc2979d1c0028f45e18a3bc8af759ee", func := "gavel/gavellaw15.LedgerDone", spec := "ledgerDone", inPlace := ["internal/bytealg.Compare"], unfollowed := true, recurses := true, plainKeys := false, apart := false, narrowed := true }
def LedgerDoneUptoSaid : Prop := ledgerDoneUptoRow.holds Try.pinned (OpenSpec.upto ledgerDoneSpec)

/-- 'gavellaw15.LedgerBase', WHERE WHAT IT READS IS OF BULK AT MOST 1048576: true; the input reads as it did. -/
def ledgerBaseUptoRow : OpenClaim := { program := "yteockodnfempfaa", sum := "0727ae64bc422971990a47d94a5b220e5bc2979d1c0028f45e18a3bc8af759ee", func := "gavel/gavellaw15.LedgerBase", spec := "ledgerBase", inPlace := ["internal/bytealg.Compare"], unfollowed := true, recurses := true, plainKeys := false, apart := false, narrowed := true }
def LedgerBaseUptoSaid : Prop := ledgerBaseUptoRow.holds Try.pinned (OpenSpec.upto ledgerBaseSpec)

/-- 'gavellaw26.AuditLog', WHERE WHAT IT READS IS OF BULK AT MOST 1048576: true; the input reads as it did. -/
def auditLogUptoRow : OpenClaim := { program := "yteockodnfempfaa", sum := "0727ae64bc422971990a47d94a5b220e5bc2979d1c0028f45e18a3bc8af759ee", func := "gavel/gavellaw26.AuditLog", spec := "auditLog", inPlace := ["internal/bytealg.Compare"], unfollowed := true, recurses := true, plainKeys := false, apart := false, narrowed := true }
def AuditLogUptoSaid : Prop := auditLogUptoRow.holds Try.pinned (OpenSpec.upto auditLogSpec)

/-- 'gavellaw15.LedgerPlays', WHERE WHAT IT READS IS OF BULK AT MOST 1048576: true; the input reads as it did. -/
def ledgerPlaysUptoRow : OpenClaim := { program := "yteockodnfempfaa", sum := "0727ae64bc422971990a47d94a5b220e5bc2979d1c0028f45e18a3bc8af759ee", func := "gavel/gavellaw15.LedgerPlays", spec := "ledgerPlays", inPlace := ["internal/bytealg.Compare", "maps.clone"], unfollowed := true, recurses := true, plainKeys := false, apart := false, narrowed := true }
def LedgerPlaysUptoSaid : Prop := ledgerPlaysUptoRow.holds Try.pinned (OpenSpec.upto ledgerPlaysSpec)

/-- 'gavellaw17.AuctionMany', WHERE WHAT IT READS IS OF BULK AT MOST 1048576: true; the input reads as it did. -/
def auctionManyUptoRow : OpenClaim := { program := "yteockodnfempfaa", sum := "0727ae64bc422971990a47d94a5b220e5bc2979d1c0028f45e18a3bc8af759ee", func := "gavel/gavellaw17.AuctionMany", spec := "auctionMany", unfollowed := true, recurses := true, plainKeys := false, apart := false, narrowed := true }
def AuctionManyUptoSaid : Prop := auctionManyUptoRow.holds Try.pinned (OpenSpec.upto auctionManySpec)

/-- 'gavellaw17.AuctionPlays', WHERE WHAT IT READS IS OF BULK AT MOST 1048576: true; the input reads as it did. -/
def auctionPlaysUptoRow : OpenClaim := { program := "yteockodnfempfaa", sum := "0727ae64bc422971990a47d94a5b220e5bc2979d1c0028f45e18a3bc8af759ee", func := "gavel/gavellaw17.AuctionPlays", spec := "auctionPlays", inPlace := ["maps.clone"], unfollowed := true, recurses := true, plainKeys := false, apart := false, narrowed := true }
def AuctionPlaysUptoSaid : Prop := auctionPlaysUptoRow.holds Try.pinned (OpenSpec.upto auctionPlaysSpec)

end Rows
end Go.Proofs.Yteockodnfempfaa
