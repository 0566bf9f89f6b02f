/- What Bids and Result compute. Conditions: those named in each theorem. -/
import Derived.Test.YteockodnfempfaaAuE
import Derived.Test.YteockodnfempfaaRc
namespace Go.Proofs.Yteockodnfempfaa
open Go Go.RowKit Go.Gv

def bidsN (H : MHouse) (name : ByteArray) : Int := match mget H name with
  | none => 0
  | some x => x.bids.length
set_option maxHeartbeats 400000 in
theorem bids_any (p : Addr) (r : Nat) (H : MHouse) (name : ByteArray) (w : World) (hH : HouseIs w p r H) :
    Calls Try.prog 39 #[.pointer (some p), .string name] w fun e w' => e = .returned (.int .i64 (bidsN H name)) ∧ w = w' := by
  obtain ⟨hc, m, hm, hr⟩ := hH
  rcases hr.get name with ⟨hm0, hH0⟩ | ⟨s, x, hms, hHx, hsx⟩
  · have HO := Lib.hid (show bidsN H name = 0 by unfold bidsN; rw [hH0])
    clear hH0 hr
    go_enter Try.func39, Try.ntmps39
    go_wp2
    go_ret
    exact ⟨ret_int (by rw [HO.out]; rfl), rfl⟩
  · obtain ⟨hd, rfl, hsl, hdc, hdm⟩ := hsx
    have HO := Lib.hid (show bidsN H name = hd.len by unfold bidsN; rw [hHx]; simp only; rw [hsl.1])
    clear hHx hsl hr
    go_enter Try.func39, Try.ntmps39
    go_wp2
    go_ret
    exact ⟨ret_int (by rw [HO.out]; rfl), rfl⟩

@[go_sem ↓ high] theorem build_result_none (w : World) : (gBuild 59 #[]).run Try.prog w = .ok (GAuctionResult.val default) w := by
  rw [GAuctionResult.val_eq]
  exact run_gBuild_of uu59 zr59 pl59 rfl w
def resultR (H : MHouse) (name : ByteArray) : GAuctionResult × Int := match mget H name with
  | none => (default, 6)
  | some x => if x.settled = true then (x.result, 0) else (default, 12)
set_option maxHeartbeats 400000 in
theorem result_any (p : Addr) (r : Nat) (H : MHouse) (name : ByteArray) (w : World) (hH : HouseIs w p r H) :
    Calls Try.prog 40 #[.pointer (some p), .string name] w fun e w' => e = .returned (.tuple #[(resultR H name).1.val, .int .i64 (resultR H name).2]) ∧ Bel w w' := by
  obtain ⟨hc, m, hm, hr⟩ := hH
  have hrl := mapAt_lt hm
  have hrl2 : r < w.heap.size + 1 := by omega
  have hcA : ∀ o, (w.alloc o).cell? p = some (.map (some r)) := fun o => GB.cell (GB.al w o) hc
  rcases hr.get name with ⟨hm0, hH0⟩ | ⟨s, x, hms, hHx, hsx⟩
  · have HO := Lib.hid (show resultR H name = (default, 6) by unfold resultR; rw [hH0])
    clear hH0 hr
    go_enter Try.func40, Try.ntmps40
    go_wp2
    refine bodyPost_ret (results_cell_tmp (x := (default : GAuctionResult)) rfl rfl ag59 sz59 (get?_alloc _ (nw59 w w.heap.size default rfl))) rfl ⟨?_, ((Bel.refl w).alloc _).alloc _⟩
    rw [HO.out]; simp only [GAuctionResult.val_eq]; rfl
  · obtain ⟨hd, rfl, hsl, hdc, hdm⟩ := hsx
    by_cases hst : x.settled = true
    · have HO := Lib.hid (show resultR H name = (x.result, 0) by unfold resultR; rw [hHx]; simp only; rw [if_pos hst])
      have hst2 : (x.at hd).settled = true := hst
      clear hHx hsl hr hst
      go_enter Try.func40, Try.ntmps40
      go_wp2
      refine bodyPost_ret (results_cell_tmp (x := x.result) rfl rfl ag59 sz59 (get?_alloc _ (nw59 w w.heap.size x.result rfl))) rfl ⟨?_, ((Bel.refl w).alloc _).alloc _⟩
      rw [HO.out]; simp only [GAuctionResult.val_eq]; rfl
    · have HO := Lib.hid (show resultR H name = (default, 12) by unfold resultR; rw [hHx]; simp only; rw [if_neg hst])
      have hst2 : (x.at hd).settled = false := Bool.eq_false_iff.2 hst
      clear hHx hsl hr hst
      go_enter Try.func40, Try.ntmps40
      go_wp2
      refine bodyPost_ret (results_cell_tmp (x := (default : GAuctionResult)) rfl rfl ag59 sz59 (get?_alloc _ (nw59 w w.heap.size default rfl))) rfl ⟨?_, ((Bel.refl w).alloc _).alloc _⟩
      rw [HO.out]; simp only [GAuctionResult.val_eq]; rfl
end Go.Proofs.Yteockodnfempfaa
