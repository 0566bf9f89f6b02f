/- What the comparisons compute. Conditions: those named in each theorem. -/
import Derived.Test.YteockodnfempfaaAuF
import Derived.Test.YteockodnfempfaaAudD
namespace Go.Proofs.Yteockodnfempfaa
open Go Go.RowKit Go.Gv

theorem compareU_any (a b : Int) (w : World) :
    Calls Try.prog 78 #[.int .u64 a, .int .u64 b] w fun e w' => e = .returned (.int .i64 (cmpI a b)) ∧ w = w' := by
  by_cases h1 : a < b
  · go_enter Try.func78, Try.ntmps78
    go_wp2
    go_ret
    exact ⟨ret_int (by unfold cmpI; rw [if_pos h1]), rfl⟩
  · by_cases h2 : b < a
    · go_enter Try.func78, Try.ntmps78
      go_wp2
      go_ret
      exact ⟨ret_int (by unfold cmpI; rw [if_neg (by omega), if_pos h2]), rfl⟩
    · go_enter Try.func78, Try.ntmps78
      go_wp2
      go_ret
      exact ⟨ret_int (by unfold cmpI; rw [if_neg (by omega), if_neg (by omega)]), rfl⟩
def cmpS (a b : ByteArray) : Int := if Op.bytesLess a.toList b.toList = true then -1 else if (a.toList == b.toList) = true then 0 else 1
theorem compareS_any (a b : ByteArray) (w : World) :
    Calls Try.prog 79 #[.string a, .string b] w fun e w' => e = .returned (.int .i64 (cmpS a b)) ∧ w = w' := by
  go_enter Try.func79, Try.ntmps79
  cases h1 : Op.bytesLess a.toList b.toList
  · cases h2 : (a.toList == b.toList)
    · go_wp2
      go_ret
      exact ⟨ret_int (by unfold cmpS; rw [h1, h2]; rfl), rfl⟩
    · go_wp2
      go_ret
      exact ⟨ret_int (by unfold cmpS; rw [h1, h2]; rfl), rfl⟩
  · go_wp2
    go_ret
    exact ⟨ret_int (by unfold cmpS; rw [h1]; rfl), rfl⟩
theorem endFn_any (x y : GAuctionBid) (w : World) :
    Calls Try.prog 115 #[x.val, y.val] w fun e w' => e = .returned (.int .i64 (cmpI y.amount x.amount)) ∧ w' = (w.alloc (.cells x.enc.toArray 151)).alloc (.cells y.enc.toArray 151) := by
  go_enter Try.func115, Try.ntmps115
  go_wp2_with fail
  refine (compare_any _ _ _).mono ?_
  rintro _ w1 ⟨rfl, rfl⟩
  go_wp2_with fail
  go_ret
  exact ⟨ret_int rfl, rfl⟩
end Go.Proofs.Yteockodnfempfaa
