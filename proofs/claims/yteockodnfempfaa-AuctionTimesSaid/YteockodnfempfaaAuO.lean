/- What SortFunc at sales computes. Conditions: those named in each theorem. -/
import Derived.Test.YteockodnfempfaaAuN
namespace Go.Proofs.Yteockodnfempfaa
open Go Go.RowKit Go.Gv Go.Sort Go.Proofs
set_option maxRecDepth 100000 in
theorem settleFn_lays (blk off size : Nat) (w : World) : CmpLays Try.prog 76 #[] (Enc.enc : GAuctionSale → List Value) 9 saleCmp blk off size w := by
  intro m os dk _ x y
  generalize sortWorldK (Enc.enc : GAuctionSale → List Value) 9 w blk off m dk os = W
  rw [Array.append_empty]
  rw [← GAuctionSale.val_eq, ← GAuctionSale.val_eq]
  exact settleFn_any x y W
theorem sortSale_any (blk off cap : Nat) (xs : List GAuctionSale) (w : World) (hx : Sl GAuctionSale w w.heap.size (some ⟨blk, off, none⟩) xs.length xs) (hb : blk < w.heap.size) (hf : blkFree w blk = true) (hn : xs.length ≤ 1000000) :
    Calls Try.prog 75 #[.slice (some ⟨blk, off, none⟩) xs.length cap, .func (.func 76) #[] #[]] w fun e w' => e = .returned (.tuple #[]) ∧
      ∃ d' : Array GAuctionSale, PermIn 0 xs.toArray.size xs.toArray d' ∧ SortedIn (ltOf saleCmp) 0 xs.toArray.size d' ∧ Sl GAuctionSale w' w.heap.size (some ⟨blk, off, none⟩) xs.length d'.toList ∧ GX blk w w' := by
  have hH := hx.holdsK hf
  have := AnyQ.slices_SortFunc Try.sortSale 9 Try.isAgg146 Try.sizeOf146 (Enc.enc : GAuctionSale → List Value) GAuctionSale.enc_len GAuctionSale.enc_one saleCmp saleCmp_swo 76 #[] blk off cap xs.toArray w
    (enters_of Try.func76 (by kernel_rfl) rfl) (settleFn_lays _ _ _ _) hH hb (by simp; omega)
  have e1 : xs.toArray.size = xs.length := by simp
  rw [e1] at this ⊢
  refine this.mono ?_
  rintro e w' ⟨rfl, d', n, os, hp, hs, rfl⟩
  have hz : d'.size = xs.toArray.size := hp.1
  obtain ⟨h1, h2⟩ := sorted_is (m := n) (os := os) hH hb hz
  rw [hz, e1] at h1
  exact ⟨rfl, d', hp, hs, h1, h2⟩
end Go.Proofs.Yteockodnfempfaa
