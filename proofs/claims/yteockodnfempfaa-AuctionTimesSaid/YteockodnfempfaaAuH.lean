/- What Settle's comparison computes. Conditions: those named in each theorem. -/
import Derived.Test.YteockodnfempfaaAuG
import Derived.StillTailTactics
import Derived.Sort.Grow
namespace Go.Proofs.Yteockodnfempfaa
open Go Go.RowKit Go.Gv Go.Sort

def saleCmp (x y : GAuctionSale) : Int := orI [cmpI x.close y.close, cmpS x.name y.name]
/-- Nothing but draws and new blocks. -/
def GrewD (w w' : World) : Prop := ∃ q os, w' = grow (w.drewN q) os
theorem GrewD.refl (w : World) : GrewD w w := ⟨0, #[], by rw [grow_empty]; rfl⟩
theorem GrewD.alloc {w w' : World} (h : GrewD w w') (o : Obj) : GrewD w (w'.alloc o) := by
  obtain ⟨q, os, rfl⟩ := h
  exact ⟨q, os ++ #[o], by rw [alloc_eq_grow, grow_grow]⟩
theorem GrewD.drew {w w' : World} (h : GrewD w w') : GrewD w w'.drew := by
  obtain ⟨q, os, rfl⟩ := h
  exact ⟨q + 1, os, by unfold grow World.drew World.drewN; simp [Nat.add_assoc]⟩
set_option maxRecDepth 100000 in
set_option maxHeartbeats 1000000 in
theorem settleFn_any (x y : GAuctionSale) (w : World) :
    Calls Try.prog 76 #[x.val, y.val] w fun e w' => e = .returned (.int .i64 (saleCmp x y)) ∧ GrewD w w' := by
  go_enter Try.func76, Try.ntmps76
  go_wp2_with fail
  refine wp_region_tail 10 (by kernel_rfl) (by kernel_rfl) ?_
  simp only [List.take_succ_cons, List.take_zero, List.drop_succ_cons, List.drop_zero]
  repeat still_step
  still_call (flipC (compareU_any _ _ _))
  repeat still_step
  still_call (flipC (compareS_any _ _ _))
  refine wpStill_nil ?_
  go_wp2_with fail
  refine (or_any _ _ _ [⟨cmpI x.close y.close⟩, ⟨cmpS x.name y.name⟩] _ (w.heap.size + 1 + 1 + 1) ?_ (by decide)).mono ?_
  · exact Sl.drew_ (Sl.new_ rfl rfl (by simp only [World.size_alloc]) (by omega))
  · rintro e w' ⟨rfl, rfl⟩
    go_wp2
    go_ret
    exact ⟨ret_int rfl, ((((GrewD.refl _).alloc _).alloc _).alloc _).drew⟩
end Go.Proofs.Yteockodnfempfaa
