/- What SortStableFunc at bids computes. Conditions: those named in each theorem. -/
import Derived.Test.YteockodnfempfaaAuI
namespace Go.Proofs.Yteockodnfempfaa
open Go Go.RowKit Go.Gv Go.Sort Go.Proofs

def bidCmp (x y : GAuctionBid) : Int := cmpI y.amount x.amount
theorem ltOf_bidCmp : ltOf bidCmp = ltK GAuctionBid.amount := by
  funext x y
  unfold ltOf bidCmp cmpI ltK
  by_cases h1 : y.amount < x.amount
  · simp [h1]
  · by_cases h2 : x.amount < y.amount
    · simp [h1, h2]
    · simp [h1, h2]
set_option maxRecDepth 100000 in
theorem endFn_lays (blk off size : Nat) (w : World) : CmpLays Try.prog 115 #[] (Enc.enc : GAuctionBid → List Value) 2 bidCmp blk off size w := by
  intro m os dk _ x y
  generalize sortWorldK (Enc.enc : GAuctionBid → List Value) 2 w blk off m dk os = W
  rw [Array.append_empty]
  rw [← GAuctionBid.val_eq, ← GAuctionBid.val_eq]
  refine (endFn_any x y W).mono ?_
  rintro e w' ⟨rfl, rfl⟩
  refine ⟨rfl, 0, #[.cells x.enc.toArray 151] ++ #[.cells y.enc.toArray 151], ?_⟩
  rw [alloc_eq_grow, alloc_eq_grow, grow_grow]
  rfl
theorem insBid_any (blk off cap : Nat) (bs : List GAuctionBid) (w : World) (hx : Sl GAuctionBid w w.heap.size (some ⟨blk, off, none⟩) bs.length bs) (hb : blk < w.heap.size) (hf : blkFree w blk = true) (hn : bs.length ≤ 1000000) :
    Calls Try.prog 154 #[.slice (some ⟨blk, off, none⟩) bs.length cap, .int .i64 0, .int .i64 bs.length, .func (.func 115) #[] #[]] w fun e w' => e = .returned (.tuple #[]) ∧
      Sl GAuctionBid w' w.heap.size (some ⟨blk, off, none⟩) bs.length (sortL GAuctionBid.amount bs) ∧ GX blk w w' := by
  have hH := hx.holdsK hf
  have := AnyQ.insertionSortCmpFunc Try.insBid 2 Try.isAgg151 Try.sizeOf151 (Enc.enc : GAuctionBid → List Value) GAuctionBid.enc_len GAuctionBid.enc_one bidCmp 115 #[] blk off cap 0 bs.toArray.size bs.toArray w
    (enters_of Try.func115 (by kernel_rfl) rfl) (endFn_lays _ _ _ _) hH hb (Nat.zero_le _) (Nat.le_refl _) (by simp; omega)
  have e1 : bs.toArray.size = bs.length := by simp
  rw [e1] at this
  refine this.mono ?_
  rintro e w' ⟨rfl, n, os, rfl⟩
  have hs : (insertionSort (ltOf bidCmp) bs.toArray 0 bs.toArray.size).toList = sortL GAuctionBid.amount bs := by
    rw [ltOf_bidCmp, insertionSort_sortL]
  rw [e1] at hs
  have hz : (insertionSort (ltOf bidCmp) bs.toArray 0 bs.length).size = bs.toArray.size := by
    rw [← Array.length_toList, hs, length_sortL, e1]
  obtain ⟨h1, h2⟩ := sorted_is (m := n) (os := os) hH hb hz
  rw [hs, hz, e1] at h1
  exact ⟨rfl, h1, h2⟩
end Go.Proofs.Yteockodnfempfaa
