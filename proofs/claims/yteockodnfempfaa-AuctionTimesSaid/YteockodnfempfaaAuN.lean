/- The order in which Settle sorts. Conditions: those named in each theorem. -/
import Derived.Test.YteockodnfempfaaAuM
import Derived.Sort.Walk0
namespace Go.Proofs.Yteockodnfempfaa
open Go Go.RowKit Go.Gv Go.Sort Go.Proofs
/-- Less, as a statement. -/
theorem saleLt_iff (x y : GAuctionSale) : ltOf saleCmp x y = true ↔ x.close < y.close ∨ (x.close = y.close ∧ x.name.toList < y.name.toList) := by
  unfold ltOf saleCmp orI cmpI cmpS
  rw [bytesLess_eq, decide_eq_true_eq]
  by_cases h1 : x.close < y.close
  · simp [h1]
  · by_cases h2 : y.close < x.close
    · simp [h1, h2]; omega
    · have h3 : x.close = y.close := by omega
      by_cases h4 : x.name.toList < y.name.toList
      · simp [h3, h4]
      · by_cases h5 : x.name.toList = y.name.toList
        · simp [h3, h5]
        · simp [h3, h4, h5]
theorem saleCmp_swo : SWO (ltOf saleCmp) := by
  constructor
  · intro x
    rw [Bool.eq_false_iff]; intro h
    rcases (saleLt_iff _ _).1 h with h | ⟨_, h⟩
    · omega
    · exact absurd h (List.lt_irrefl _)
  · intro x y z h1 h2
    rw [saleLt_iff] at *
    rcases h1 with h1 | ⟨h1, h3⟩ <;> rcases h2 with h2 | ⟨h2, h4⟩
    · left; omega
    · left; omega
    · left; omega
    · right; exact ⟨by omega, List.lt_trans h3 h4⟩
  · intro x y z h1 h2
    rw [Bool.eq_false_iff, ne_eq, saleLt_iff] at *
    rintro (h | ⟨h, h3⟩)
    · exact h1 (.inl (by
        by_cases h4 : y.close < z.close
        · exact absurd (.inl h4) h2
        · omega))
    · have e1 : ¬ x.close < y.close := fun h => h1 (.inl h)
      have e2 : ¬ y.close < z.close := fun h => h2 (.inl h)
      have e3 : ¬ x.name.toList < y.name.toList := fun h' => h1 (.inr ⟨by omega, h'⟩)
      have e4 : ¬ y.name.toList < z.name.toList := fun h' => h2 (.inr ⟨by omega, h'⟩)
      have := List.le_trans (List.not_lt.1 e4) (List.not_lt.1 e3)
      exact List.not_lt.2 this h3
end Go.Proofs.Yteockodnfempfaa
