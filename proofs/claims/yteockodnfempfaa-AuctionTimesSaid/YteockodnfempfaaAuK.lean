/- What SortStableFunc at bids computes. Conditions: those named in each theorem. -/
import Derived.Test.YteockodnfempfaaAuJ
namespace Go.Proofs.Yteockodnfempfaa
open Go Go.RowKit Go.Gv Go.Sort

set_option maxRecDepth 100000 in
set_option maxHeartbeats 1000000 in
theorem stableBid_any (blk off cap : Nat) (bs : List GAuctionBid) (w : World) (hx : Sl GAuctionBid w w.heap.size (some ⟨blk, off, none⟩) bs.length bs) (hb : blk < w.heap.size) (hf : blkFree w blk = true) (hn : bs.length < 20) :
    Calls Try.prog 142 #[.slice (some ⟨blk, off, none⟩) bs.length cap, .int .i64 bs.length, .func (.func 115) #[] #[]] w fun e w' => e = .returned (.tuple #[]) ∧
      Sl GAuctionBid w' w.heap.size (some ⟨blk, off, none⟩) bs.length (sortL GAuctionBid.amount bs) ∧ GX blk w w' := by
  have H := Lib.hid (insBid_any blk off cap bs w hx hb hf (by omega))
  clear hx hb hf
  generalize sortL GAuctionBid.amount bs = ss at H ⊢
  generalize bs.length = n at H hn ⊢
  go_enter Try.func142, Try.ntmps142
  go_wp2_with fail
  go_loop [7, 8] (fun a b => a = .int .i64 0 ∧ b = .int .i64 20) (fun _ _ => 0)
  case atStart => exact ⟨rfl, rfl⟩
  case round =>
    obtain ⟨rfl, rfl⟩ := hrel
    go_wp2_with fail
    refine H.out.mono ?_
    rintro _ w1 ⟨rfl, hs, hg⟩
    have HS := Lib.hid hs; have HG := Lib.hid hg; clear hs hg
    go_wp2_with fail
    go_loop [6] (fun a => a = .int .i64 20) (fun _ => 0)
    case atStart => rfl
    case round =>
      subst hrel
      go_wp2_with fail
      go_end0
      exact ⟨rfl, HS.out, HG.out⟩
theorem sortBid_any (blk off cap : Nat) (bs : List GAuctionBid) (w : World) (hx : Sl GAuctionBid w w.heap.size (some ⟨blk, off, none⟩) bs.length bs) (hb : blk < w.heap.size) (hf : blkFree w blk = true) (hn : bs.length < 20) :
    Calls Try.prog 114 #[.slice (some ⟨blk, off, none⟩) bs.length cap, .func (.func 115) #[] #[]] w fun e w' => e = .returned (.tuple #[]) ∧
      Sl GAuctionBid w' w.heap.size (some ⟨blk, off, none⟩) bs.length (sortL GAuctionBid.amount bs) ∧ GX blk w w' := by
  have H := Lib.hid (stableBid_any blk off cap bs w hx hb hf hn)
  clear hx hb hf hn
  generalize sortL GAuctionBid.amount bs = ss at H ⊢
  generalize bs.length = n at H ⊢
  go_enter Try.func114, Try.ntmps114
  go_wp2_with fail
  refine H.out.mono ?_
  rintro _ w1 ⟨rfl, hs, hg⟩
  have HS := Lib.hid hs; have HG := Lib.hid hg; clear hs hg
  go_wp2_with fail
  go_end0
  exact ⟨rfl, HS.out, HG.out⟩
end Go.Proofs.Yteockodnfempfaa
