/- Toward sale.end. Conditions: those named in each theorem. -/
import Derived.Test.YteockodnfempfaaAuK
import Derived.Test.YteockodnfempfaaAudI
import Derived.Test.YteockodnfempfaaPl
namespace Go.Proofs.Yteockodnfempfaa
open Go Go.RowKit Go.Gv Go.Sort
/-- The bids that reach the reserve, highest first. -/
def endBids (s : MSale) : List GAuctionBid := sortL GAuctionBid.amount (s.bids.filter fun b => decide (s.reserve ≤ b.amount))
def endPrice (s : MSale) : List GAuctionBid → Int
  | [] => 0
  | b :: r => if s.vickrey = true then (match r with | [] => s.reserve | c :: _ => c.amount) else b.amount
def endR (s : MSale) : GAuctionResult :=
  match endBids s with
  | [] => ⟨s.name, -1, 0⟩
  | b :: r => ⟨s.name, b.client, endPrice s (b :: r)⟩
end Go.Proofs.Yteockodnfempfaa
