/- Where own lists lie. Conditions: those named in each theorem. -/
import Derived.Test.YteockodnfempfaaAudI
namespace Go.Gv
open Go
theorem addN (blk off n : Nat) : (⟨blk, off, none⟩ : Addr).add n = ⟨blk, off + n, none⟩ := by
  unfold Addr.add
  by_cases h : n = 0
  · subst h; rfl
  · rw [if_neg h]
end Go.Gv
namespace Go.Proofs.Yteockodnfempfaa
open Go Go.RowKit Go.Gv
theorem OwnA.place {α : Type} [Enc α] {w : World} {base c : Nat} {e : TypeId} {A : Option Addr} {xs : List α} (h : OwnA w base e A c xs) (hn : 0 < xs.length) :
    ∃ g, A = some ⟨g, 0, none⟩ ∧ base ≤ g ∧ g < w.heap.size ∧ blkFree w g = true := by
  rcases h with ⟨_, ⟨h1, h2⟩ | ⟨g, cap, cur, h1, h2, h3, _⟩⟩
  · omega
  · injection h1 with h1 _ _
    refine ⟨g, h1, h2, ?_, by unfold blkFree; rw [h3]; rfl⟩
    exact (Array.getElem?_eq_some_iff.1 h3).1
end Go.Proofs.Yteockodnfempfaa
