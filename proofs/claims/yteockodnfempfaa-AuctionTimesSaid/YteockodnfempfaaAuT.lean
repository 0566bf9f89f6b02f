/- The document's example of an auction. Conditions: none. -/
import Derived.Test.YteockodnfempfaaAuS
namespace Go.Proofs.Yteockodnfempfaa
open Go Go.RowKit Go.Gv Go.Sort

theorem _root_.Go.Gv.Bel.gxb {w w1 w2 : World} {r : Nat} (hb : Bel w w1) (hg : GX r w1 w2) (hr : w.heap.size ≤ r) : Bel w w2 := Bel.grown hb hg (fun k hk => by injection hk with hk; omega)
def wakeS : MSale := ((newSale ⟨#[97]⟩ true 5 10).bid 1 9).bid 2 7
theorem wakeS_end : endR wakeS = ⟨⟨#[97]⟩, 1, 7⟩ := by
  have h : atLeast wakeS = [] ++ (⟨1, 9⟩ : GAuctionBid) :: [⟨2, 7⟩] := rfl
  rw [endR_first h (by simp) (by simp)]
  rfl
set_option maxRecDepth 100000 in
set_option maxHeartbeats 2000000 in
theorem wakesA_any (w : World) : Calls Try.prog 38 #[] w fun e w' => e = .returned (.bool true) ∧ Bel w w' := by
  have HO := Lib.hid (open_first (name := ⟨#[97]⟩) (reserve := 5) (close := 10) (now := 1) rfl (by omega) (by omega) (by omega))
  go_enter Try.func38, Try.ntmps38
  go_wp2_with fail
  refine (new_any _).mono ?_
  rintro _ w1 ⟨g, r, rfl, hH, hg, hr, hne, hlt, hb⟩
  have HH := Lib.hid hH; have HB := Lib.hid hb; clear hH hb
  go_wp2_with fail
  refine (open_is 0 _ ⟨g, 0, none⟩ r [] ⟨#[97]⟩ true 5 10 1 _ HO.out (open_first_H HO.out) HH.out hne (by decide) (by decide)).mono ?_
  rintro _ w2 ⟨rfl, hH, hg2⟩
  have HH2 := Lib.hid hH; have HB2 := Lib.hid (HB.out.gxb hg2 hr); clear hH hg2 HH HB
  go_wp2_with fail
  refine (bid_one ⟨g, 0, none⟩ r ⟨#[97]⟩ (newSale ⟨#[97]⟩ true 5 10) 1 9 2 _ HH2.out hne rfl (by decide) (by decide) (by decide) (by decide) (by decide) rfl (by decide)).mono ?_
  rintro _ w3 ⟨rfl, hH, hg2⟩
  have HH3 := Lib.hid hH; have HB3 := Lib.hid (HB2.out.gxb hg2 hr); clear hH hg2 HH2 HB2
  go_wp2_with fail
  refine (bid_one ⟨g, 0, none⟩ r ⟨#[97]⟩ ((newSale ⟨#[97]⟩ true 5 10).bid 1 9) 2 7 3 _ HH3.out hne rfl (by decide) (by decide) (by decide) (by decide) (by decide) rfl (by decide)).mono ?_
  rintro _ w4 ⟨rfl, hH, hg2⟩
  have HH4 := Lib.hid hH; have HB4 := Lib.hid (HB3.out.gxb hg2 hr); clear hH hg2 HH3 HB3
  go_wp2_with fail
  refine (settle_due ⟨g, 0, none⟩ r ⟨#[97]⟩ wakeS 11 _ HH4.out hne rfl rfl (by decide) (by decide)).mono ?_
  rintro _ w5 ⟨g5, c5, rfl, hget, _, _, hg2⟩
  rw [wakeS_end] at hget
  have HB5 := Lib.hid (HB4.out.gxb hg2 hr); clear hg2 HH4 HB4
  have f1 : w5.cell? ⟨g5, 1, none⟩ = some (.int .i64 1) := by simpa using cell_off (by omega) (GAuctionResult.at_winner hget)
  have f2 : w5.cell? ⟨g5, 2, none⟩ = some (.int .i64 7) := by simpa using cell_off (by omega) (GAuctionResult.at_price hget)
  clear hget
  go_wp2_with fail
  go_ret
  exact ⟨rfl, HB5.out⟩
end Go.Proofs.Yteockodnfempfaa
