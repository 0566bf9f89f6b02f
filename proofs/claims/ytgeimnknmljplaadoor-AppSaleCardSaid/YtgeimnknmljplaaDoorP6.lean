/- What Settle computes. Conditions: those named in each theorem. -/
import Derived.Test.YtgeimnknmljplaaDoorP5
import Derived.Test.YtgeimnknmljplaaDoorP3
import Derived.Sort.Walk0
import Derived.Test.YtgeimnknmljplaaDoorP1
import Derived.Maps.RangeWalk
/- What SortStableFunc at bids computes. Conditions: those named in each theorem. -/
namespace Go.Proofs.YtgeimnknmljplaaDoor
open Go Go.RowKit Go.Gv Go.Sort

set_option maxRecDepth 100000 in
set_option maxHeartbeats 1000000 in
theorem sortBid_any (blk cap : Nat) (bs : List GAuctionBid) (w : World) (hx : Sl GAuctionBid w w.heap.size (some ⟨blk, 0, none⟩) bs.length bs) (hb : blk < w.heap.size) (hf : blkFree w blk = true) (hn : bs.length ≤ 1000000) :
    Calls Tryd.prog 43 #[.slice (some ⟨blk, 0, none⟩) bs.length cap, .func (.func 44) #[] #[]] w fun e w' => e = .returned (.tuple #[]) ∧
      Sl GAuctionBid w' w.heap.size (some ⟨blk, 0, none⟩) bs.length (sortL GAuctionBid.amount bs) ∧ GX blk w w' := by
  have e1 : bs.toArray.size = bs.length := by simp
  have H0 := stableRow_any blk cap bs.toArray w ⟨by rw [e1]; exact hx, hf, hb⟩ (by rw [e1]; exact hn)
  rw [e1] at H0
  have H := Lib.hid H0
  clear hx hf hn H0
  obtain ⟨n, hbn⟩ : ∃ n, bs.length = n := ⟨_, rfl⟩
  rw [hbn] at H ⊢
  have HBN := Lib.hid hbn
  clear hbn e1
  go_enter Tryd.func43, Tryd.ntmps43
  go_wp2_with fail
  refine H.out.mono ?_
  rintro _ w1 ⟨rfl, d', hs, hr, hg, hm⟩
  have HS := Lib.hid hs; have HR := Lib.hid hr; have HG := Lib.hid hg; have HM := Lib.hid hm; clear hs hr hg hm
  go_wp2_with fail
  go_end0
  have hz : d'.size = n := by rw [HS.out]; simpa using HBN.out
  have hl : d'.toList = sortL GAuctionBid.amount bs := by
    have := sorted_one HS.out (by rw [show bs.toArray.size = n by simpa using HBN.out]; exact HM.out)
    simpa using this
  have h1 := HR.out.sl
  rw [hl, hz] at h1
  refine ⟨rfl, ⟨h1.1, fun h2 => ?_⟩, HG.out⟩
  obtain ⟨ad, e, _, h3⟩ := h1.2 h2
  injection e with e
  subst e
  exact ⟨_, rfl, hb, h3⟩
end Go.Proofs.YtgeimnknmljplaaDoor
/- Toward sale.end. Conditions: those named in each theorem. -/
namespace Go.Proofs.YtgeimnknmljplaaDoor
open Go Go.RowKit Go.Gv Go.Sort
/-- The bids that reach the reserve, highest first. -/
def endBids (s : MSale) : List GAuctionBid := sortL GAuctionBid.amount (s.bids.filter fun b => decide (s.reserve ≤ b.amount))
def endPrice (s : MSale) : List GAuctionBid → Int
  | [] => 0
  | b :: r => if s.vickrey = true then (match r with | [] => s.reserve | c :: _ => c.amount) else b.amount
def endR (s : MSale) : GAuctionResult :=
  match endBids s with
  | [] => ⟨s.name, -1, 0⟩
  | b :: r => ⟨s.name, b.client, endPrice s (b :: r)⟩
end Go.Proofs.YtgeimnknmljplaaDoor
/- What sale.end computes. Conditions: those named in each theorem. -/
namespace Go.Proofs.YtgeimnknmljplaaDoor
open Go Go.RowKit Go.Gv Go.Sort
theorem GX.getS {α : Type} [Enc α] {w w' : World} {r : Nat} {a : Addr} {x : α} (h : GX r w w') (hg : get? α w a = some x) (hne : a.block ≠ r) : get? α w' a = some x :=
  (get?_keep (h.block _ (get?_lt hg) (fun e => hne (by injection e)))).trans hg
theorem get?_put {α : Type} [Enc α] {w : World} {b o : Nat} {y : α} (x : α) (h : get? α w ⟨b, o, none⟩ = some y) : get? α (World.putCells w ⟨b, o, none⟩ (Enc.enc x)) ⟨b, o, none⟩ = some x := by
  refine get?_iff.2 fun j v hv => ?_
  have hj : j < (Enc.enc x).length := (List.getElem?_eq_some_iff.1 hv).1
  have hjy : j < (Enc.enc y).length := by rw [Enc.len] at hj ⊢; exact hj
  have hc := (get?_iff.1 h) j _ (List.getElem?_eq_getElem hjy)
  rw [addN] at hc ⊢
  unfold World.putCells
  rw [cell_putFrom rfl _ _ _ _ rfl (by rw [hc]; rfl), if_pos ⟨rfl, by simp, by simp; exact hj⟩]
  simpa using hv
theorem GX.below {w w' : World} {r B : Nat} (h : GX r w w') (hr : B ≤ r) (hB : B ≤ w.heap.size) : Below B w w' :=
  ⟨h.os, h.tape, h.output, h.size, fun k hk => h.block k (by omega) (fun e => by injection e; omega)⟩
theorem GX.free {w w' : World} {r n : Nat} (h : GX r w w') (hf : blkFree w n = true) (hl : n < w.heap.size) (hne : n ≠ r) : blkFree w' n = true :=
  (blkFree_keep (h.block _ hl (fun e => hne (by injection e)))).trans hf
set_option maxRecDepth 100000 in
set_option maxHeartbeats 4000000 in
theorem end_any (s : GAuctionSale) (x : MSale) (w : World) (hS : SaleIs w s x) (hn : x.bids.length ≤ 1000000) :
    Calls Tryd.prog 29 #[s.val] w fun e w' => e = .returned (endR x).val ∧ Bel w w' := by
  obtain ⟨h, rfl, hx, hc1, hc2⟩ := hS
  obtain ⟨A, n, c⟩ := h
  have hl : x.bids.length = n := hx.1
  simp only at hx hc1 hc2
  have HX := Lib.hid hx; clear hx
  obtain ⟨s, hs⟩ : ∃ s, s = x.at ⟨A, n, c⟩ := ⟨_, rfl⟩
  have hsb : s.bids = ⟨A, n, c⟩ := by rw [hs]; rfl
  have hsr : s.reserve = x.reserve := by rw [hs]; rfl
  obtain ⟨w2, hw2⟩ : ∃ w2, w2 = (w.alloc (.cells s.enc.toArray 70)).alloc (.cells (default : GAuctionResult).enc.toArray 68) := ⟨_, rfl⟩
  have hg : get? GAuctionSale w2 ⟨w.heap.size, 0, none⟩ = some s := by rw [hw2]; exact get?_alloc _ (get?_new _ _)
  have hb2 : Bel w w2 := by rw [hw2]; exact ((Bel.refl w).alloc _).alloc _
  have hz2 : w2.heap.size = w.heap.size + 2 := by rw [hw2]; simp [World.size_alloc]
  rw [← hs]
  have HS := Lib.hid hs; have HG := Lib.hid hg; have HB2 := Lib.hid hb2; clear hs hg hb2
  go_enter Tryd.func29, Tryd.ntmps29
  go_wp2_with fail
  go_loopw [3, 10] (fun v i wr => ∃ (k : Nat), k ≤ n ∧ i = .int .i64 k ∧ OwnS wr w2.heap.size 82 v ((x.bids.take k).filter fun b => decide (x.reserve ≤ b.amount)) ∧ Bel w2 wr) (fun _ i _ => n - (intOf i).toNat)
  case atStart => exact ⟨0, by omega, rfl, OwnS.nil _ _ _, by rw [hw2]; exact Bel.refl _⟩
  case round =>
    obtain ⟨k, hk, rfl, hown, hb⟩ := hrel
    have HO := Lib.hid hown; have HB := Lib.hid hb; clear hown hb
    have hgr : get? GAuctionSale wr ⟨w.heap.size, 0, none⟩ = some s := GB.get HB.out HG.out
    have f2 := cell_off (by omega) (GAuctionSale.at_reserve hgr)
    rw [hsr] at f2
    clear hgr
    have f2A : ∀ o, (wr.alloc o).cell? ⟨w.heap.size, 2, none⟩ = some (.int .i64 x.reserve) := fun o => GB.cell (GB.al wr o) (by simpa using f2)
    by_cases hlt : k < n
    · obtain ⟨ad, b, rfl, hab, hbk, hgb⟩ := (HX.out.stepB (HB2.out.trans HB.out)).at_ (k := k) hlt
      have HBK := Lib.hid hbk; clear hbk
      change get? GAuctionBid wr (ad.add (k * 2)) = some b at hgb
      by_cases hq : x.reserve ≤ b.amount
      · have hlen : ((x.bids.take k).filter fun b => decide (x.reserve ≤ b.amount)).length ≤ k := by
          refine Nat.le_trans (List.length_filter_le _ _) ?_
          rw [List.length_take]; omega
        have e : (x.bids.take (k + 1)).filter (fun b => decide (x.reserve ≤ b.amount)) = (x.bids.take k).filter (fun b => decide (x.reserve ≤ b.amount)) ++ [b] := by
          rw [List.take_add_one, HBK.out, List.filter_append]; simp [hq]
        have HE := Lib.hid e; clear e
        obtain ⟨v4, w4, hrun4, ho4, hg4, _⟩ := gAppend_S (P := Tryd.prog) ei66 (t := 66) ((HO.out.alloc (.cells b.enc.toArray 82)).alloc (.cells b.enc.toArray 82)) (c := 1) (m := 1) (A := some ⟨wr.heap.size + 1, 0, none⟩) (Sl.new_ (B := wr.heap.size + 2) (xs := [b]) (by simp; rfl) rfl (by simp [World.size_alloc]) (by omega)) (Nat.le_trans (Nat.add_le_add_right hlen 1) (by unfold maxLen; omega)) (Nat.le_trans (Nat.mul_le_mul_right _ (Nat.add_le_add_right hlen 1)) (by omega)) (by have := HB.out.size; simp only [World.size_alloc]; omega) 66
        rw [← HE.out] at ho4
        have hbB := Gv.Below.appS ((HB.out.alloc (.cells b.enc.toArray 82)).alloc (.cells b.enc.toArray 82)) hg4 ((HO.out.alloc (.cells b.enc.toArray 82)).alloc (.cells b.enc.toArray 82)) (Nat.le_refl _) (by have := HB.out.size; simp only [World.size_alloc]; omega)
        have HO4 := Lib.hid ho4; have HG4 := Lib.hid hg4; have HB4 := Lib.hid hbB; clear ho4 hg4 hbB
        clear hlen
        go_wp2_with fail
        exact ⟨⟨k + 1, by omega, by go_num, HO4.out, HB4.out⟩, by simp [intOf]; omega⟩
      · go_wp2_with fail
        refine ⟨⟨k + 1, by omega, by go_num, ?_, ?_⟩, by simp [intOf]; omega⟩
        · have e : (x.bids.take (k + 1)).filter (fun b => decide (x.reserve ≤ b.amount)) = (x.bids.take k).filter (fun b => decide (x.reserve ≤ b.amount)) := by
            rw [List.take_add_one, HBK.out, List.filter_append]; simp [hq]
          rw [e]
          exact HO.out.alloc _
        · exact HB.out.alloc _
    · obtain rfl : k = n := by omega
      obtain ⟨ys, hys⟩ : ∃ ys, ((x.bids.take k).filter fun b => decide (x.reserve ≤ b.amount)) = ys := ⟨_, rfl⟩
      have ho := HO.out
      rw [hys] at ho
      have hE : endBids x = sortL GAuctionBid.amount ys := by
        unfold endBids
        rw [← hys, List.take_of_length_le (by rw [hl]; exact Nat.le_refl _)]
      have hlen : ys.length ≤ 1000000 := by
        rw [← hys]
        refine Nat.le_trans (List.length_filter_le _ _) ?_
        rw [List.length_take]; omega
      clear hys HO
      obtain ⟨A4, c4, rfl, ho4, hc4, hm4⟩ := OwnS.ownA ho
      have HO := Lib.hid ho4; have HE := Lib.hid hE; clear ho ho4 hE
      by_cases h0 : ys.length = 0
      · have hbz := HB.out.size
        have hgr5 : get? GAuctionSale wr ⟨w.heap.size, 0, none⟩ = some s := GB.get HB.out HG.out
        have f0 : wr.cell? ⟨w.heap.size, 0, none⟩ = some (.string s.name) := cell_zero (GAuctionSale.at_name hgr5)
        clear hgr5
        have hR : get? GAuctionResult wr ⟨w.heap.size + 1, 0, none⟩ = some default := by
          refine GB.get HB.out ?_
          have := get?_new (w := w.alloc (.cells s.enc.toArray 70)) 68 (default : GAuctionResult)
          rw [World.size_alloc] at this
          rw [hw2]; exact this
        have hF : blkFree wr (w.heap.size + 1) = true := by
          refine GX.free (GX.of_bel HB.out (w.heap.size + 2)) ?_ (by omega) (by omega)
          rw [hw2]; exact blkFree_new _ _ (by simp [World.size_alloc])
        go_wp2_with fail
        have hgn : get? GAuctionResult _ ⟨w.heap.size + 1, 0, none⟩ = some ⟨s.name, -1, 0⟩ := get?_put ⟨s.name, -1, 0⟩ hR
        refine bodyPost_ret (results_cell (x := (⟨s.name, -1, 0⟩ : GAuctionResult)) rfl rfl ag68 sz68 hgn) rfl ⟨?_, ?_⟩
        · have hbs := HE.out
          obtain rfl : ys = [] := List.eq_nil_of_length_eq_zero h0
          have hsn : s.name = x.name := by rw [HS.out]; rfl
          unfold endR
          rw [hbs, GAuctionResult.val_eq, hsn]; rfl
        · have h1 : Below w.heap.size w wr := Below.trans HB2.out (Below.mono HB.out (by omega))
          exact Below_putCells (a := ⟨w.heap.size + 1, 0, none⟩) h1 (by show w.heap.size ≤ w.heap.size + 1; omega) _
      · go_wp2_with fail
        obtain ⟨g, rfl, hg1, hg2, hg3⟩ := OwnA.place HO.out (by omega)
        refine (sortBid_any g c4 ys wr HO.out.sl hg2 hg3 hlen).mono ?_
        rintro _ w5 ⟨rfl, hs5, hgx⟩
        have HS5 := Lib.hid hs5; have HGX := Lib.hid hgx; clear hs5 hgx
        have hne1 : (⟨w.heap.size, 2, none⟩ : Addr).block ≠ g := by show w.heap.size ≠ g; omega
        have hne0 : (⟨w.heap.size, 0, none⟩ : Addr).block ≠ g := by show w.heap.size ≠ g; omega
        have hgr5 : get? GAuctionSale wr ⟨w.heap.size, 0, none⟩ = some s := GB.get HB.out HG.out
        have f2 : w5.cell? ⟨w.heap.size, 2, none⟩ = some (.int .i64 x.reserve) := GX.cell HGX.out (by simpa using f2) hne1
        have f0 : w5.cell? ⟨w.heap.size, 0, none⟩ = some (.string s.name) := GX.cell HGX.out (cell_zero (GAuctionSale.at_name hgr5)) hne0
        have f1 : w5.cell? ⟨w.heap.size, 1, none⟩ = some (.bool s.vickrey) := GX.cell HGX.out (by simpa using cell_off (by omega) (GAuctionSale.at_vickrey hgr5)) hne0
        clear hgr5
        obtain ⟨ad0, b0, he0, _, hk0, hgb0⟩ := HS5.out.at_ (k := 0) (by omega)
        obtain rfl : ad0 = ⟨g, 0, none⟩ := by injection he0 with he0; exact he0.symm
        clear he0
        rw [Nat.zero_mul, Addr.add_zero'] at hgb0
        have f3 : w5.cell? ⟨g, 0, none⟩ = some (.int .i64 b0.client) := cell_zero (GAuctionBid.at_client hgb0)
        have f4 : w5.cell? ⟨g, 1, none⟩ = some (.int .i64 b0.amount) := by simpa using cell_off (by omega) (GAuctionBid.at_amount hgb0)
        have HK0 := Lib.hid hk0; clear hk0 hgb0
        cases hv : s.vickrey
        · rw [hv] at f1
          go_wp2_with fail
          refine wp_region_G GB [8] GB.rf (by kernel_rfl) ?_
          refine wpG_looks 1 9 [0,1,2,3,4,5,6,7] rfl GB.rf GB.tr (by kernel_rfl) (fun _ _ _ _ hd h => And.intro (hd ▸ And.left h) (And.right h)) rfl (by kernel_rfl) ?_
          intro ι W hne CW
          have hp1 : (0 : Int) < (ys.length : Int) := by omega
          have hp2 : 0 < ys.length := by omega
          have g0 : ∀ z, (W z).cell? ⟨w.heap.size, 0, none⟩ = some (.string s.name) := fun z => (CW.out z).cell f0
          have g1 : ∀ z, (W z).cell? ⟨g, 0, none⟩ = some (.int .i64 b0.client) := fun z => (CW.out z).cell f3
          repeat (refine wpLooksG_step (fun K hK => ?_); go_simp; refine hK _ ?_; clear hK K)
          refine wpLooksG_nil ?_
          clear g0 g1 CW hne W ι
          refine wpG_force 8 _ rfl (by kernel_rfl) rfl fun wa hwa K hK => ?_
          have hR : get? GAuctionResult wa ⟨w.heap.size + 1, 0, none⟩ = some default := by
            refine GB.get hwa.undrew (GX.getS HGX.out (GB.get HB.out ?_) (by show w.heap.size + 1 ≠ g; omega))
            have := get?_new (w := w.alloc (.cells s.enc.toArray 70)) 68 (default : GAuctionResult)
            rw [World.size_alloc] at this
            rw [hw2]; exact this
          have hbz := HB.out.size
          have hF : blkFree wa (w.heap.size + 1) = true := by
            refine GX.free (GX.of_bel hwa.undrew (w.heap.size + 2 + g)) (GX.free HGX.out (GX.free (GX.of_bel HB.out (w.heap.size + 2 + g)) ?_ (by omega) (by omega)) (by omega) (by omega)) (Nat.lt_of_lt_of_le (by omega) HGX.out.size) (by omega)
            rw [hw2]; exact blkFree_new _ _ (by simp [World.size_alloc])
          go_simp
          refine hK _ _ (fun h => absurd (by simp) h) ?_
          clear hK K
          refine wpG_end (by kernel_rfl) (fun wn hwn => ?_) _
          go_wp2
          have hgn : get? GAuctionResult wn ⟨w.heap.size + 1, 0, none⟩ = some ⟨s.name, b0.client, b0.amount⟩ := GB.get hwn (get?_put ⟨s.name, b0.client, b0.amount⟩ hR)
          refine bodyPost_ret (results_cell (x := (⟨s.name, b0.client, b0.amount⟩ : GAuctionResult)) rfl rfl ag68 sz68 hgn) rfl ⟨?_, ?_⟩
          · have hbs := HE.out
            have hl5 : (sortL GAuctionBid.amount ys) = b0 :: (sortL GAuctionBid.amount ys).tail := by
              have := HK0.out
              cases hq : sortL GAuctionBid.amount ys with
              | nil => rw [hq] at this; simp at this
              | cons a r => rw [hq] at this; simp at this; rw [this]; rfl
            rw [hl5] at hbs
            have hxv : x.vickrey = false := by rw [← hv, HS.out]; rfl
            have hsn : s.name = x.name := by rw [HS.out]; rfl
            unfold endR
            rw [hbs]
            simp only [endPrice, hxv, hsn]
            rw [GAuctionResult.val_eq]; rfl
          · have h1 : Below w.heap.size w wr := Below.trans HB2.out (Below.mono HB.out (by omega))
            have h2 : Below w.heap.size w w5 := Below.trans h1 (GX.below HGX.out (by omega) (by omega))
            have h3 : Below w.heap.size w wa := Below.trans h2 (Below.mono hwa.undrew (Below.size h2))
            have h4 := Below_putCells (a := ⟨w.heap.size + 1, 0, none⟩) h3 (by show w.heap.size ≤ w.heap.size + 1; omega) (GAuctionResult.enc ⟨s.name, b0.client, b0.amount⟩)
            exact Below.trans h4 (Below.mono hwn (Below.size h4))
        · rw [hv] at f1
          by_cases h1 : ys.length = 1
          · have hp3 : ¬ (1 : Int) < (ys.length : Int) := by omega
            go_wp2_with fail
            refine wp_region_G GB [8] GB.rf (by kernel_rfl) ?_
            refine wpG_looks 1 9 [0,1,2,3,4,5,6,7] rfl GB.rf GB.tr (by kernel_rfl) (fun _ _ _ _ hd h => And.intro (hd ▸ And.left h) (And.right h)) rfl (by kernel_rfl) ?_
            intro ι W hne CW
            have hp1 : (0 : Int) < (ys.length : Int) := by omega
            have hp2 : 0 < ys.length := by omega
            have g0 : ∀ z, (W z).cell? ⟨w.heap.size, 0, none⟩ = some (.string s.name) := fun z => (CW.out z).cell f0
            have g1 : ∀ z, (W z).cell? ⟨g, 0, none⟩ = some (.int .i64 b0.client) := fun z => (CW.out z).cell f3
            repeat (refine wpLooksG_step (fun K hK => ?_); go_simp; refine hK _ ?_; clear hK K)
            refine wpLooksG_nil ?_
            clear g0 g1 CW hne W ι
            refine wpG_force 8 _ rfl (by kernel_rfl) rfl fun wa hwa K hK => ?_
            have hR : get? GAuctionResult wa ⟨w.heap.size + 1, 0, none⟩ = some default := by
              refine GB.get hwa.undrew (GX.getS HGX.out (GB.get HB.out ?_) (by show w.heap.size + 1 ≠ g; omega))
              have := get?_new (w := w.alloc (.cells s.enc.toArray 70)) 68 (default : GAuctionResult)
              rw [World.size_alloc] at this
              rw [hw2]; exact this
            have hbz := HB.out.size
            have hF : blkFree wa (w.heap.size + 1) = true := by
              refine GX.free (GX.of_bel hwa.undrew (w.heap.size + 2 + g)) (GX.free HGX.out (GX.free (GX.of_bel HB.out (w.heap.size + 2 + g)) ?_ (by omega) (by omega)) (by omega) (by omega)) (Nat.lt_of_lt_of_le (by omega) HGX.out.size) (by omega)
              rw [hw2]; exact blkFree_new _ _ (by simp [World.size_alloc])
            go_simp
            refine hK _ _ (fun h => absurd (by simp) h) ?_
            clear hK K
            refine wpG_end (by kernel_rfl) (fun wn hwn => ?_) _
            go_wp2
            have hgn : get? GAuctionResult wn ⟨w.heap.size + 1, 0, none⟩ = some ⟨s.name, b0.client, x.reserve⟩ := GB.get hwn (get?_put ⟨s.name, b0.client, x.reserve⟩ hR)
            refine bodyPost_ret (results_cell (x := (⟨s.name, b0.client, x.reserve⟩ : GAuctionResult)) rfl rfl ag68 sz68 hgn) rfl ⟨?_, ?_⟩
            · have hbs := HE.out
              have hl5 : (sortL GAuctionBid.amount ys) = b0 :: (sortL GAuctionBid.amount ys).tail := by
                have := HK0.out
                cases hq : sortL GAuctionBid.amount ys with
                | nil => rw [hq] at this; simp at this
                | cons a r => rw [hq] at this; simp at this; rw [this]; rfl
              have ht : (sortL GAuctionBid.amount ys).tail = [] := List.eq_nil_of_length_eq_zero (by rw [List.length_tail, length_sortL]; omega)
              rw [hl5, ht] at hbs
              have hxv : x.vickrey = true := by rw [← hv, HS.out]; rfl
              have hsn : s.name = x.name := by rw [HS.out]; rfl
              unfold endR
              rw [hbs]
              simp only [endPrice, hxv, hsn]
              rw [GAuctionResult.val_eq]; rfl
            · have h1 : Below w.heap.size w wr := Below.trans HB2.out (Below.mono HB.out (by omega))
              have h2 : Below w.heap.size w w5 := Below.trans h1 (GX.below HGX.out (by omega) (by omega))
              have h3 : Below w.heap.size w wa := Below.trans h2 (Below.mono hwa.undrew (Below.size h2))
              have h4 := Below_putCells (a := ⟨w.heap.size + 1, 0, none⟩) h3 (by show w.heap.size ≤ w.heap.size + 1; omega) (GAuctionResult.enc ⟨s.name, b0.client, x.reserve⟩)
              exact Below.trans h4 (Below.mono hwn (Below.size h4))
          · have hp3 : (1 : Int) < (ys.length : Int) := by omega
            obtain ⟨ad1, b1, he1, _, hk1, hgb1⟩ := HS5.out.at_ (k := 1) (by omega)
            obtain rfl : ad1 = ⟨g, 0, none⟩ := by injection he1 with he1; exact he1.symm
            clear he1
            rw [addN] at hgb1
            have f5 : w5.cell? ⟨g, 3, none⟩ = some (.int .i64 b1.amount) := by have := GAuctionBid.at_amount hgb1; rw [addN] at this; exact this
            have HK1 := Lib.hid hk1; clear hk1 hgb1
            go_wp2_with fail
            refine wp_region_G GB [8] GB.rf (by kernel_rfl) ?_
            refine wpG_looks 1 9 [0,1,2,3,4,5,6,7] rfl GB.rf GB.tr (by kernel_rfl) (fun _ _ _ _ hd h => And.intro (hd ▸ And.left h) (And.right h)) rfl (by kernel_rfl) ?_
            intro ι W hne CW
            have hp1 : (0 : Int) < (ys.length : Int) := by omega
            have hp2 : 0 < ys.length := by omega
            have g0 : ∀ z, (W z).cell? ⟨w.heap.size, 0, none⟩ = some (.string s.name) := fun z => (CW.out z).cell f0
            have g1 : ∀ z, (W z).cell? ⟨g, 0, none⟩ = some (.int .i64 b0.client) := fun z => (CW.out z).cell f3
            repeat (refine wpLooksG_step (fun K hK => ?_); go_simp; refine hK _ ?_; clear hK K)
            refine wpLooksG_nil ?_
            clear g0 g1 CW hne W ι
            refine wpG_force 8 _ rfl (by kernel_rfl) rfl fun wa hwa K hK => ?_
            have hR : get? GAuctionResult wa ⟨w.heap.size + 1, 0, none⟩ = some default := by
              refine GB.get hwa.undrew (GX.getS HGX.out (GB.get HB.out ?_) (by show w.heap.size + 1 ≠ g; omega))
              have := get?_new (w := w.alloc (.cells s.enc.toArray 70)) 68 (default : GAuctionResult)
              rw [World.size_alloc] at this
              rw [hw2]; exact this
            have hbz := HB.out.size
            have hF : blkFree wa (w.heap.size + 1) = true := by
              refine GX.free (GX.of_bel hwa.undrew (w.heap.size + 2 + g)) (GX.free HGX.out (GX.free (GX.of_bel HB.out (w.heap.size + 2 + g)) ?_ (by omega) (by omega)) (by omega) (by omega)) (Nat.lt_of_lt_of_le (by omega) HGX.out.size) (by omega)
              rw [hw2]; exact blkFree_new _ _ (by simp [World.size_alloc])
            go_simp
            refine hK _ _ (fun h => absurd (by simp) h) ?_
            clear hK K
            refine wpG_end (by kernel_rfl) (fun wn hwn => ?_) _
            go_wp2
            have hgn : get? GAuctionResult wn ⟨w.heap.size + 1, 0, none⟩ = some ⟨s.name, b0.client, b1.amount⟩ := GB.get hwn (get?_put ⟨s.name, b0.client, b1.amount⟩ hR)
            refine bodyPost_ret (results_cell (x := (⟨s.name, b0.client, b1.amount⟩ : GAuctionResult)) rfl rfl ag68 sz68 hgn) rfl ⟨?_, ?_⟩
            · have hbs := HE.out
              have hl5 : (sortL GAuctionBid.amount ys) = b0 :: (sortL GAuctionBid.amount ys).tail := by
                have := HK0.out
                cases hq : sortL GAuctionBid.amount ys with
                | nil => rw [hq] at this; simp at this
                | cons a r => rw [hq] at this; simp at this; rw [this]; rfl
              have ht : (sortL GAuctionBid.amount ys).tail = b1 :: (sortL GAuctionBid.amount ys).tail.tail := by
                have := HK1.out
                rw [hl5] at this
                cases hq : (sortL GAuctionBid.amount ys).tail with
                | nil => rw [hq] at this; simp at this
                | cons a r => rw [hq] at this; simp at this; rw [this]; rfl
              rw [hl5, ht] at hbs
              have hxv : x.vickrey = true := by rw [← hv, HS.out]; rfl
              have hsn : s.name = x.name := by rw [HS.out]; rfl
              unfold endR
              rw [hbs]
              simp only [endPrice, hxv, hsn]
              rw [GAuctionResult.val_eq]; rfl
            · have h1 : Below w.heap.size w wr := Below.trans HB2.out (Below.mono HB.out (by omega))
              have h2 : Below w.heap.size w w5 := Below.trans h1 (GX.below HGX.out (by omega) (by omega))
              have h3 : Below w.heap.size w wa := Below.trans h2 (Below.mono hwa.undrew (Below.size h2))
              have h4 := Below_putCells (a := ⟨w.heap.size + 1, 0, none⟩) h3 (by show w.heap.size ≤ w.heap.size + 1; omega) (GAuctionResult.enc ⟨s.name, b0.client, b1.amount⟩)
              exact Below.trans h4 (Below.mono hwn (Below.size h4))
end Go.Proofs.YtgeimnknmljplaaDoor
/- The order in which Settle sorts. Conditions: those named in each theorem. -/
namespace Go.Proofs.YtgeimnknmljplaaDoor
open Go Go.RowKit Go.Gv Go.Sort Go.Proofs
/-- Less, as a statement. -/
theorem saleLt_iff (x y : GAuctionSale) : ltOf saleCmp x y = true ↔ x.close < y.close ∨ (x.close = y.close ∧ x.name.toList < y.name.toList) := by
  unfold ltOf saleCmp orI cmpI cmpS
  rw [bytesLess_eq, decide_eq_true_eq]
  by_cases h1 : x.close < y.close
  · simp [h1]
  · by_cases h2 : y.close < x.close
    · simp [h1, h2]; omega
    · have h3 : x.close = y.close := by omega
      by_cases h4 : x.name.toList < y.name.toList
      · simp [h3, h4]
      · by_cases h5 : x.name.toList = y.name.toList
        · simp [h3, h5]
        · simp [h3, h4, h5]
theorem saleCmp_swo : SWO (ltOf saleCmp) := by
  constructor
  · intro x
    rw [Bool.eq_false_iff]; intro h
    rcases (saleLt_iff _ _).1 h with h | ⟨_, h⟩
    · omega
    · exact absurd h (List.lt_irrefl _)
  · intro x y z h1 h2
    rw [saleLt_iff] at *
    rcases h1 with h1 | ⟨h1, h3⟩ <;> rcases h2 with h2 | ⟨h2, h4⟩
    · left; omega
    · left; omega
    · left; omega
    · right; exact ⟨by omega, List.lt_trans h3 h4⟩
  · intro x y z h1 h2
    rw [Bool.eq_false_iff, ne_eq, saleLt_iff] at *
    rintro (h | ⟨h, h3⟩)
    · exact h1 (.inl (by
        by_cases h4 : y.close < z.close
        · exact absurd (.inl h4) h2
        · omega))
    · have e1 : ¬ x.close < y.close := fun h => h1 (.inl h)
      have e2 : ¬ y.close < z.close := fun h => h2 (.inl h)
      have e3 : ¬ x.name.toList < y.name.toList := fun h' => h1 (.inr ⟨by omega, h'⟩)
      have e4 : ¬ y.name.toList < z.name.toList := fun h' => h2 (.inr ⟨by omega, h'⟩)
      have := List.le_trans (List.not_lt.1 e4) (List.not_lt.1 e3)
      exact List.not_lt.2 this h3
end Go.Proofs.YtgeimnknmljplaaDoor
/- What SortFunc at sales computes. Conditions: those named in each theorem. -/
namespace Go.Proofs.YtgeimnknmljplaaDoor
open Go Go.RowKit Go.Gv Go.Sort Go.Proofs
set_option maxRecDepth 100000 in
theorem settleFn_lays (blk off size : Nat) (w : World) : CmpLays Tryd.prog 25 #[] (Enc.enc : GAuctionSale → List Value) 9 saleCmp blk off size w := by
  intro m os dk _ x y
  generalize sortWorldK (Enc.enc : GAuctionSale → List Value) 9 w blk off m dk os = W
  rw [Array.append_empty]
  rw [← GAuctionSale.val_eq, ← GAuctionSale.val_eq]
  exact settleFn_any x y W
theorem sortSale_any (blk off cap : Nat) (xs : List GAuctionSale) (w : World) (hx : Sl GAuctionSale w w.heap.size (some ⟨blk, off, none⟩) xs.length xs) (hb : blk < w.heap.size) (hf : blkFree w blk = true) (hn : xs.length ≤ 1000000) :
    Calls Tryd.prog 24 #[.slice (some ⟨blk, off, none⟩) xs.length cap, .func (.func 25) #[] #[]] w fun e w' => e = .returned (.tuple #[]) ∧
      ∃ d' : Array GAuctionSale, PermIn 0 xs.toArray.size xs.toArray d' ∧ SortedIn (ltOf saleCmp) 0 xs.toArray.size d' ∧ Sl GAuctionSale w' w.heap.size (some ⟨blk, off, none⟩) xs.length d'.toList ∧ GX blk w w' := by
  have hH := hx.holdsK hf
  have := AnyQ.slices_SortFunc Tryd.sortSale 9 Tryd.isAgg70 Tryd.sizeOf70 (Enc.enc : GAuctionSale → List Value) GAuctionSale.enc_len GAuctionSale.enc_one saleCmp saleCmp_swo 25 #[] blk off cap xs.toArray w
    (enters_of Tryd.func25 (by kernel_rfl) rfl) (settleFn_lays _ _ _ _) hH hb (by simp; omega)
  have e1 : xs.toArray.size = xs.length := by simp
  rw [e1] at this ⊢
  refine this.mono ?_
  rintro e w' ⟨rfl, d', n, os, hp, hs, rfl⟩
  have hz : d'.size = xs.toArray.size := hp.1
  obtain ⟨h1, h2⟩ := sorted_is (m := n) (os := os) hH hb hz
  rw [hz, e1] at h1
  exact ⟨rfl, d', hp, hs, h1, h2⟩
end Go.Proofs.YtgeimnknmljplaaDoor
/- Ranging over a map that reads as a list. Conditions: those named in each theorem. -/
namespace Go.Gv
open Go Go.RowKit Go.ChangeMaps Go.MapKept
set_option linter.unusedSectionVars false

theorem leftOf_push (es : Array MapEntry) (seen : Array Nat) (k : Nat) : (leftOf es (seen.push k)).toList = (leftOf es seen).toList.filter fun x => !(x.born == k) := by
  unfold leftOf
  rw [Array.toList_filter, Array.toList_filter, List.filter_filter]
  apply List.filter_congr
  intro x _
  rw [Go.contains_push]
  cases seen.contains x.born <;> cases (x.born == k) <;> rfl
theorem filter_born {a b : List MapEntry} {e : MapEntry} (hp : (a ++ e :: b).Pairwise fun x y => x.born < y.born) : (a ++ e :: b).filter (fun x => !(x.born == e.born)) = a ++ b := by
  rw [List.pairwise_append] at hp
  obtain ⟨_, h2, h3⟩ := hp
  rw [List.pairwise_cons] at h2
  rw [List.filter_append, List.filter_cons]
  have ha : a.filter (fun x => !(x.born == e.born)) = a := by
    rw [List.filter_eq_self]
    intro x hx
    have := h3 x hx e (by simp)
    simp; omega
  have hb : b.filter (fun x => !(x.born == e.born)) = b := by
    rw [List.filter_eq_self]
    intro x hx
    have := h2.1 x hx
    simp; omega
  simp [ha, hb]
section
variable {K V : Type} [DecidableEq K] [KEnc K] [VEnc V] {P : Program} {w w' : World} {r it : Nat} {m left : List (K × V)}
/-- Block it is an iterator over the map in block r, which reads as m; left: what is still to come. -/
def Ranges (w : World) (r it : Nat) (m left : List (K × V)) : Prop :=
  ∃ es clock since seen c0, w.heap[r]? = some (.map es clock) ∧ es.toList.map (fun e => (e.key, e.val)) = m.map (fun p => (KEnc.kv p.1, VEnc.vv p.2)) ∧ (m.map (·.1)).Nodup ∧
    es.toList.Pairwise (fun a b => a.born < b.born) ∧ (∀ e ∈ es.toList, e.born < clock) ∧
    w.heap[it]? = some (.mapIter (some r) since seen c0) ∧ (∀ x ∈ es.toList, x.born < since) ∧ since ≤ c0 ∧ since ≤ clock ∧
    (leftOf es seen).toList.map (fun e => (e.key, e.val)) = left.map (fun p => (KEnc.kv p.1, VEnc.vv p.2))
theorem Ranges.is (h : Ranges w r it m left) : mapAt K V w r = some m := by
  obtain ⟨es, clock, since, seen, c0, hb, he, hn, hp, hc, _⟩ := h
  exact mapAt_iff.2 ⟨es, clock, hb, he, hn, hp, hc⟩
theorem Ranges.lt (h : Ranges w r it m left) : it < w.heap.size := by
  obtain ⟨es, clock, since, seen, c0, _, _, _, _, _, hi, _⟩ := h
  exact (Array.getElem?_eq_some_iff.1 hi).1
theorem Ranges.ne (h : Ranges w r it m left) : it ≠ r := by
  obtain ⟨es, clock, since, seen, c0, hb, _, _, _, _, hi, _⟩ := h
  intro e
  rw [e, hb] at hi
  cases hi
theorem Ranges.leftN (h : Ranges w r it m left) : w.rangeLeft r it = left.length := by
  obtain ⟨es, clock, since, seen, c0, hb, _, _, _, _, hi, _, _, _, hl⟩ := h
  simp only [World.rangeLeft, hb, hi]
  have := congrArg List.length hl
  simpa using this
theorem Ranges.kept {row : Option Nat} (h : Ranges w r it m left) (hg : w.grownBy w' row) (hr : some r ≠ row) (hi : some it ≠ row) : Ranges w' r it m left := by
  have h1 := mapAt_lt h.is
  have h2 := h.lt
  obtain ⟨es, clock, since, seen, c0, hb, he, hn, hp, hc, hit, rest⟩ := h
  exact ⟨es, clock, since, seen, c0, (hg.block r h1 hr).trans hb, he, hn, hp, hc, (hg.block it h2 hi).trans hit, rest⟩
theorem Ranges.below (h : Ranges w r it m left) (hb : Below w.heap.size w w') : Ranges w' r it m left := by
  have h1 := mapAt_lt h.is
  have h2 := h.lt
  obtain ⟨es, clock, since, seen, c0, hbk, he, hn, hp, hc, hit, rest⟩ := h
  exact ⟨es, clock, since, seen, c0, (hb.block r h1).trans hbk, he, hn, hp, hc, (hb.block it h2).trans hit, rest⟩
/-- 'range m'. -/
theorem ranges_start {tM tK tV : TypeId} (hM : P.underlying tM = some (.map tK tV)) (h : mapAt K V w r = some m) :
    ∃ o, (Instr.range tM (.map (some r))).run P w = .ok (.pointer (some ⟨w.heap.size, 0, none⟩)) (w.alloc o) ∧ Ranges (w.alloc o) r w.heap.size m m := by
  have hlt := mapAt_lt h
  obtain ⟨es, clock, hb, he, hn, hp, hc⟩ := mapAt_iff.1 h
  refine ⟨_, run_range_map w tM tK tV r es clock hM hb, es, clock, clock, #[], clock, (Go.heap_alloc_old w _ hlt).trans hb, he, hn, hp, hc, Go.heap_alloc_new w _, hc, Nat.le_refl _, Nat.le_refl _, ?_⟩
  rw [← he]
  unfold leftOf
  rw [Array.toList_filter, List.filter_eq_self.2 (by intro x _; simp)]
/-- The step: nothing is left, or one that is left comes, whichever. -/
theorem Ranges.next (P : Program) (h : Ranges w r it m left) :
    (left = [] ∧ ∀ ty : TypeId, (Instr.next (.pointer (some ⟨it, 0, none⟩)) false ty).run P w = .ok (.tuple #[.bool false]) w) ∨
    ∃ l1 p l2 w', left = l1 ++ p :: l2 ∧ (∀ ty : TypeId, (Instr.next (.pointer (some ⟨it, 0, none⟩)) false ty).run P w = .ok (.tuple #[.bool true, KEnc.kv p.1, VEnc.vv p.2]) w') ∧ Ranges w' r it m (l1 ++ l2) ∧
      w.grownBy w' (some it) ∧ w'.heap.size = w.heap.size ∧ (Instr.entry (.pointer (some ⟨it, 0, none⟩))).run P w' = .ok (.tuple #[KEnc.kv p.1, VEnc.vv p.2]) w' := by
  have hne := h.ne
  obtain ⟨es, clock, since, seen, c0, hb, he, hn, hp, hc, hit, hold, hsc, hsk, hl⟩ := h
  rcases run_next_at (P := P) w 0 it r since c0 seen es clock hit hb hold hsc with ⟨h0, hrun⟩ | ⟨e, hel, w1, hal, hrun⟩
  · refine .inl ⟨?_, fun _ => hrun⟩
    have := congrArg List.length hl
    simp only [List.length_map, Array.length_toList, h0] at this
    exact List.eq_nil_of_length_eq_zero this.symm
  · obtain ⟨hem, hes⟩ := mem_left hel
    obtain ⟨a, b, hab⟩ := List.append_of_mem hel
    have hl2 := hl
    rw [hab, List.map_append, List.map_cons] at hl2
    obtain ⟨l1, lr, rfl, e1, e2⟩ := List.map_eq_append_iff.1 hl2.symm
    obtain ⟨p, l2, rfl, e3, e4⟩ := List.map_eq_cons_iff.1 e2
    simp only [Prod.mk.injEq] at e3
    have hr1 : w1.heap[it]? = some (.mapIter (some r) since seen c0) := by rcases hal with rfl | rfl <;> exact hit
    have hb1 : w1.heap[r]? = some (.map es clock) := by rcases hal with rfl | rfl <;> exact hb
    have hset := heap_set (o' := .mapIter (some r) since (seen.push e.born) clock) hr1
    have hb' : (setBlock w1 it (.mapIter (some r) since (seen.push e.born) clock)).heap[r]? = some (.map es clock) := (hset.2 r (fun e1 => hne e1.symm)).trans hb1
    have hborn : (es.toList.map (·.born)).Nodup := by
      rw [List.Nodup, List.pairwise_map]
      exact hp.imp fun h => by omega
    refine .inr ⟨l1, p, l2, _, rfl, fun ty => by rw [e3.1, e3.2]; exact hrun, ⟨es, clock, since, seen.push e.born, clock, hb', he, hn, hp, hc, hset.1, hold, hsk, hsk, ?_⟩, ?_, ?_, ?_⟩
    · rw [leftOf_push, hab, filter_born, List.map_append, List.map_append, e1, e4]
      rw [← hab]
      unfold leftOf
      rw [Array.toList_filter]
      exact hp.filter _
    · rcases hal with rfl | rfl <;> exact ⟨rfl, rfl, rfl, by simp [setBlock], fun i _ hi => hset.2 i (fun e1 => hi (by rw [e1]))⟩
    · rcases hal with rfl | rfl <;> simp [setBlock]
    · rw [e3.1, e3.2]
      exact run_entry_at _ it r since seen es clock e hset.1 hb' hem hborn
end
end Go.Gv
/- Two lists, place by place. Conditions: those named in each theorem. -/
namespace Go.Gv
/-- Two lists, place by place. -/
def R2 {α β : Type} (R : α → β → Prop) : List α → List β → Prop
  | [], [] => True
  | a :: l, b :: m => R a b ∧ R2 R l m
  | _, _ => False
section
variable {α β : Type} {R R' : α → β → Prop}
theorem R2.len : ∀ {l : List α} {m : List β}, R2 R l m → l.length = m.length
  | [], [], _ => rfl
  | _ :: _, _ :: _, h => by simp [R2.len h.2]
  | [], _ :: _, h => h.elim
  | _ :: _, [], h => h.elim
theorem R2.mono (hR : ∀ a b, R a b → R' a b) : ∀ {l : List α} {m : List β}, R2 R l m → R2 R' l m
  | [], [], h => h
  | _ :: _, _ :: _, h => ⟨hR _ _ h.1, R2.mono hR h.2⟩
  | [], _ :: _, h => h.elim
  | _ :: _, [], h => h.elim
theorem R2.at_ : ∀ {l : List α} {m : List β}, R2 R l m → ∀ {i : Nat} {a : α}, l[i]? = some a → ∃ b, m[i]? = some b ∧ R a b
  | [], [], _, i, a, e => by simp at e
  | x :: l, y :: m, h, 0, a, e => by simp at e; subst e; exact ⟨y, rfl, h.1⟩
  | x :: l, y :: m, h, i + 1, a, e => by
    obtain ⟨b, h1, h2⟩ := R2.at_ h.2 (i := i) (a := a) (by simpa using e)
    exact ⟨b, by simpa using h1, h2⟩
  | [], _ :: _, h, _, _, _ => h.elim
  | _ :: _, [], h, _, _, _ => h.elim
theorem R2.perm {l l' : List α} (hp : l.Perm l') : ∀ {m : List β}, R2 R l m → ∃ m', m.Perm m' ∧ R2 R l' m' := by
  induction hp with
  | nil => intro m h; exact ⟨m, .refl _, h⟩
  | cons x _ ih =>
    intro m h
    cases m with
    | nil => exact h.elim
    | cons y m =>
      obtain ⟨m', h1, h2⟩ := ih h.2
      exact ⟨y :: m', h1.cons y, h.1, h2⟩
  | swap x y l =>
    intro m h
    cases m with
    | nil => exact h.elim
    | cons a m =>
      cases m with
      | nil => exact h.2.elim
      | cons b m => exact ⟨b :: a :: m, .swap _ _ _, h.2.1, h.1, h.2.2⟩
  | trans _ _ ih1 ih2 =>
    intro m h
    obtain ⟨m1, h1, h2⟩ := ih1 h
    obtain ⟨m2, h3, h4⟩ := ih2 h2
    exact ⟨m2, h1.trans h3, h4⟩
theorem R2.filter {p : α → Bool} {q : β → Bool} (hpq : ∀ a b, R a b → p a = q b) : ∀ {l : List α} {m : List β}, R2 R l m → R2 R (l.filter p) (m.filter q)
  | [], [], h => h
  | a :: l, b :: m, h => by
    rw [List.filter_cons, List.filter_cons, hpq a b h.1]
    cases q b
    · exact R2.filter hpq h.2
    · exact ⟨h.1, R2.filter hpq h.2⟩
  | [], _ :: _, h => h.elim
  | _ :: _, [], h => h.elim
theorem R2.map {γ δ : Type} {S : γ → δ → Prop} {f : α → γ} {g : β → δ} (hfg : ∀ a b, R a b → S (f a) (g b)) : ∀ {l : List α} {m : List β}, R2 R l m → R2 S (l.map f) (m.map g)
  | [], [], h => h
  | _ :: _, _ :: _, h => ⟨hfg _ _ h.1, R2.map hfg h.2⟩
  | [], _ :: _, h => h.elim
  | _ :: _, [], h => h.elim
theorem R2.append {l2 : List α} {m2 : List β} (h2 : R2 R l2 m2) : ∀ {l : List α} {m : List β}, R2 R l m → R2 R (l ++ l2) (m ++ m2)
  | [], [], _ => h2
  | _ :: _, _ :: _, h => ⟨h.1, R2.append h2 h.2⟩
  | [], _ :: _, h => h.elim
  | _ :: _, [], h => h.elim
theorem R2.set {a : α} {b : β} (hab : R a b) : ∀ {l : List α} {m : List β}, R2 R l m → ∀ i, R2 R (l.set i a) (m.set i b)
  | [], [], _, _ => trivial
  | _ :: _, _ :: _, h, 0 => ⟨hab, h.2⟩
  | _ :: _, _ :: _, h, i + 1 => ⟨h.1, R2.set hab h.2 i⟩
  | [], _ :: _, h, _ => h.elim
  | _ :: _, [], h, _ => h.elim
theorem R2.pairwise {P : α → α → Prop} {P' : β → β → Prop} (hP : ∀ a b a' b', R a a' → R b b' → P a b → P' a' b') : ∀ {l : List α} {m : List β}, R2 R l m → l.Pairwise P → m.Pairwise P'
  | [], [], _, _ => List.Pairwise.nil
  | a :: l, b :: m, h, hp => by
    rw [List.pairwise_cons] at hp ⊢
    refine ⟨fun y hy => ?_, R2.pairwise hP h.2 hp.2⟩
    obtain ⟨i, hi⟩ := List.getElem?_of_mem hy
    have hil : i < l.length := by rw [h.2.len]; exact (List.getElem?_eq_some_iff.1 hi).1
    obtain ⟨y', hy', hr⟩ := h.2.at_ (List.getElem?_eq_getElem hil)
    rw [hi] at hy'; injection hy' with hy'; subst hy'
    exact hP _ _ _ _ h.1 hr (hp.1 _ (List.getElem_mem _))
  | [], _ :: _, h, _ => h.elim
  | _ :: _, [], h, _ => h.elim
end
end Go.Gv
/- Settle, its plain law. Conditions: those named in each theorem. -/
namespace Go.Proofs.YtgeimnknmljplaaDoor
open Go Go.RowKit Go.Gv Go.Sort Go.Proofs

def dueB (now : Int) (x : MSale) : Bool := !x.settled && decide (x.close < now)
def dueG (now : Int) (x : GAuctionSale) : Bool := !x.settled && decide (x.close < now)
def dueM (H : MHouse) (now : Int) : List MSale := (H.filter fun q => dueB now q.2).map (·.2)
def doneM (x : MSale) : MSale := { x with settled := true, result := endR x }
def settleH (H : MHouse) (now : Int) : MHouse := H.map fun q => if dueB now q.2 = true then (q.1, doneM q.2) else q
def Named (H : MHouse) : Prop := ∀ q ∈ H, q.2.name = q.1
def saleLe (x y : MSale) : Prop := x.close < y.close ∨ (x.close = y.close ∧ ¬ y.name.toList < x.name.toList)
open Classical in
noncomputable def settleBy (S : List ByteArray) (H : MHouse) : MHouse := H.map fun (q : ByteArray × MSale) => if q.1 ∈ S then (q.1, doneM q.2) else q
theorem settleBy_nil (H : MHouse) : settleBy [] H = H := by unfold settleBy; simp
theorem settleBy_keys (S : List ByteArray) (H : MHouse) : (settleBy S H).map (·.1) = H.map (·.1) := by
  unfold settleBy
  rw [List.map_map]
  apply List.map_congr_left
  intro q _
  simp only [Function.comp]
  split <;> rfl
theorem entry_unique : ∀ {H : MHouse}, (H.map (·.1)).Nodup → ∀ {q p : ByteArray × MSale}, q ∈ H → p ∈ H → q.1 = p.1 → q = p
  | [], _, _, _, h, _, _ => by simp at h
  | a :: H, hn, q, p, hq, hp, e => by
    rw [List.map_cons, List.nodup_cons] at hn
    rcases List.mem_cons.1 hq with h1 | h1
    · rcases List.mem_cons.1 hp with h2 | h2
      · rw [h1, h2]
      · exact absurd (show a.1 ∈ H.map (·.1) from List.mem_map.2 ⟨p, h2, by rw [← e, h1]⟩) hn.1
    · rcases List.mem_cons.1 hp with h2 | h2
      · exact absurd (show a.1 ∈ H.map (·.1) from List.mem_map.2 ⟨q, h1, by rw [e, h2]⟩) hn.1
      · exact entry_unique hn.2 h1 h2 e
theorem settleBy_step {S : List ByteArray} {H : MHouse} {k : ByteArray} {x : MSale} (hn : (H.map (·.1)).Nodup) (hm : (k, x) ∈ H) (hS : k ∉ S) : mset (settleBy S H) k (doneM x) = settleBy (S ++ [k]) H := by
  unfold mset
  rw [settleBy_keys, if_pos (List.mem_map.2 ⟨_, hm, rfl⟩)]
  unfold settleBy
  rw [List.map_map]
  apply List.map_congr_left
  intro q hq
  simp only [Function.comp, List.mem_append, List.mem_singleton]
  by_cases hk : q.1 = k
  · obtain rfl : q = (k, x) := entry_unique hn hq hm hk
    simp [hS]
  · by_cases hs : q.1 ∈ S <;> simp [hk, hs]
theorem settleBy_end {D : List MSale} {H : MHouse} {now : Int} (hn : (H.map (·.1)).Nodup) (hN : Named H) (hD : D.Perm (dueM H now)) : settleBy (D.map (·.name)) H = settleH H now := by
  unfold settleBy settleH
  apply List.map_congr_left
  intro q hq
  have hiff : q.1 ∈ D.map (·.name) ↔ dueB now q.2 = true := by
    rw [List.mem_map]
    constructor
    · rintro ⟨x, hx, hxn⟩
      have hx2 := hD.mem_iff.1 hx
      unfold dueM at hx2
      rw [List.mem_map] at hx2
      obtain ⟨p, hp, rfl⟩ := hx2
      rw [List.mem_filter] at hp
      have := entry_unique hn hq hp.1 (by rw [← hxn, hN p hp.1])
      rw [this]; exact hp.2
    · intro h
      refine ⟨q.2, hD.mem_iff.2 ?_, hN q hq⟩
      unfold dueM
      rw [List.mem_map]
      exact ⟨q, List.mem_filter.2 ⟨hq, h⟩, rfl⟩
  by_cases h : dueB now q.2 = true
  · rw [if_pos (hiff.2 h), if_pos h]
  · rw [if_neg (fun h' => h (hiff.1 h')), if_neg h]
/-- The names of what is due are apart. -/
theorem due_names {D : List MSale} {H : MHouse} {now : Int} (hn : (H.map (·.1)).Nodup) (hN : Named H) (hD : D.Perm (dueM H now)) : (D.map (·.name)).Nodup := by
  refine (hD.map _).nodup_iff.2 ?_
  unfold dueM
  rw [List.map_map]
  have e : (H.filter fun q => dueB now q.2).map ((fun x => x.name) ∘ fun x => x.2) = (H.filter fun q => dueB now q.2).map (·.1) := by
    apply List.map_congr_left
    intro q hq
    exact hN q (List.mem_filter.1 hq).1
  rw [e]
  exact hn.sublist (List.Sublist.map _ List.filter_sublist)
theorem due_mem {D : List MSale} {H : MHouse} {now : Int} {x : MSale} (hN : Named H) (hD : D.Perm (dueM H now)) (hx : x ∈ D) : (x.name, x) ∈ H := by
  have hx2 := hD.mem_iff.1 hx
  unfold dueM at hx2
  rw [List.mem_map] at hx2
  obtain ⟨p, hp, rfl⟩ := hx2
  rw [hN p (List.mem_filter.1 hp).1]
  exact (List.mem_filter.1 hp).1
/-- The step of Settle's second loop. -/
theorem settle_step {D : List MSale} {H : MHouse} {now : Int} (hn : (H.map (·.1)).Nodup) (hN : Named H) (hD : D.Perm (dueM H now)) {i : Nat} {x : MSale} (hx : D[i]? = some x) :
    mset (settleBy ((D.take i).map (·.name)) H) x.name (doneM x) = settleBy ((D.take (i + 1)).map (·.name)) H := by
  have e : D.take (i + 1) = D.take i ++ [x] := by rw [List.take_add_one, hx]; rfl
  rw [e, List.map_append]
  refine settleBy_step hn (due_mem hN hD (List.mem_of_getElem? hx)) ?_
  have h2 := due_names hn hN hD
  have h3 : D.map (·.name) = ((D.take i).map (·.name)) ++ ([x.name] ++ (D.drop (i + 1)).map (·.name)) := by
    rw [← List.map_singleton (f := fun x : MSale => x.name), ← List.map_append, ← List.map_append, ← List.append_assoc, ← e, List.take_append_drop]
  rw [h3, List.nodup_append] at h2
  intro hmem
  exact h2.2.2 _ hmem _ (by simp) rfl
theorem settleH_keys (H : MHouse) (now : Int) : (settleH H now).map (·.1) = H.map (·.1) := by
  unfold settleH
  rw [List.map_map]
  apply List.map_congr_left
  intro q _
  simp only [Function.comp]
  split <;> rfl
theorem Named.settle {H : MHouse} (h : Named H) (now : Int) : Named (settleH H now) := by
  intro q hq
  unfold settleH at hq
  rw [List.mem_map] at hq
  obtain ⟨p, hp, rfl⟩ := hq
  split
  · exact h p hp
  · exact h p hp
theorem Named.set {H : MHouse} (h : Named H) {k : ByteArray} {x : MSale} (hx : x.name = k) : Named (mset H k x) := by
  intro q hq
  unfold mset at hq
  split at hq
  · rw [List.mem_map] at hq
    obtain ⟨p, hp, rfl⟩ := hq
    split
    · exact hx
    · exact h p hp
  · rw [List.mem_append, List.mem_singleton] at hq
    rcases hq with hq | rfl
    · exact h q hq
    · exact hx
/-- What HRel says, as R2. -/
theorem HRel.r2 {w : World} : ∀ {m : List (ByteArray × GAuctionSale)} {H : MHouse}, HRel w m H → R2 (fun p q => p.1 = q.1 ∧ SaleIs w p.2 q.2) m H
  | [], [], _ => trivial
  | _ :: _, _ :: _, h => ⟨h.1, HRel.r2 h.2⟩
  | [], _ :: _, h => h.elim
  | _ :: _, [], h => h.elim
theorem SaleIs.due {w : World} {s : GAuctionSale} {x : MSale} (h : SaleIs w s x) (now : Int) : dueG now s = dueB now x := by
  obtain ⟨hd, rfl, _⟩ := h; rfl
/-- What the first loop leaves is what is due, in some order. -/
theorem due_typed {w : World} {m V : List (ByteArray × GAuctionSale)} {H : MHouse} {now : Int} (h : HRel w m H) (hV : V.Perm m) {ds : List GAuctionSale} (hd : ds.Perm ((V.filter fun p => dueG now p.2).map (·.2))) : ∃ D, D.Perm (dueM H now) ∧ R2 (SaleIs w) ds D := by
  have h1 := (h.r2.filter (p := fun p => dueG now p.2) (q := fun q => dueB now q.2) (fun a b hab => hab.2.due now)).map (S := SaleIs w) (f := fun p => p.2) (g := fun q => q.2) (fun a b hab => hab.2)
  obtain ⟨D, h2, h3⟩ := h1.perm (((hd.trans ((hV.filter _).map _))).symm)
  exact ⟨D, h2.symm, h3⟩
end Go.Proofs.YtgeimnknmljplaaDoor
/- What Settle computes. Conditions: those named in each theorem. -/
namespace Go.Proofs.YtgeimnknmljplaaDoor
open Go Go.RowKit Go.Gv Go.Sort Go.Proofs
theorem get?_in_map {α : Type} [Enc α] {K V : Type} [DecidableEq K] [KEnc K] [VEnc V] {w : World} {r : Nat} {m : List (K × V)} (hm : mapAt K V w r = some m) {a : Addr} {x : α} (h : get? α w a = some x) : a.block ≠ r := by
  intro e
  obtain ⟨es, c, hb, _⟩ := mapAt_iff.1 hm
  have h0 : (Enc.enc x)[0]? = some ((Enc.enc x)[0]'(by rw [Enc.len]; exact Enc.pos)) := List.getElem?_eq_getElem _
  have := get?_iff.1 h 0 _ h0
  simp [World.cell?, add_block, e, hb] at this
theorem _root_.Go.Gv.Sl.gx {α : Type} [Enc α] {K V : Type} [DecidableEq K] [KEnc K] [VEnc V] {w w' : World} {r : Nat} {m : List (K × V)} (hm : mapAt K V w r = some m) (hg : GX r w w') {A : Option Addr} {n : Nat} {xs : List α} (h : Sl α w w.heap.size A n xs) : Sl α w' w'.heap.size A n xs := by
  refine ⟨h.1, fun hn => ?_⟩
  obtain ⟨ad, e, hb, hc⟩ := h.2 hn
  exact ⟨ad, e, Nat.lt_of_lt_of_le hb hg.size, fun k x hx => GX.getS hg (hc k x hx) (get?_in_map hm (hc k x hx))⟩
theorem SaleIs.gx {K V : Type} [DecidableEq K] [KEnc K] [VEnc V] {w w' : World} {r : Nat} {m : List (K × V)} (hm : mapAt K V w r = some m) (hg : GX r w w') {s : GAuctionSale} {x : MSale} (h : SaleIs w s x) : SaleIs w' s x := by
  obtain ⟨hd, h1, h2, h3⟩ := h
  exact ⟨hd, h1, h2.gx hm hg, h3⟩
theorem HouseAt.gx {w w' : World} {r r2 : Nat} {H : MHouse} {K V : Type} [DecidableEq K] [KEnc K] [VEnc V] {m : List (K × V)} (hm : mapAt K V w r = some m) (hg : GX r w w') (hne : r2 ≠ r) (h : HouseAt w r2 H) : HouseAt w' r2 H := by
  obtain ⟨m2, hm2, hr⟩ := h
  exact ⟨m2, (mapAt_keep (hg.block _ (mapAt_lt hm2) (fun e => hne (by injection e)))).trans hm2, HRel.mono (fun s x hs => SaleIs.gx hm hg hs) hr⟩
theorem HouseIs.gx {w w' : World} {p : Addr} {r r2 : Nat} {H : MHouse} {K V : Type} [DecidableEq K] [KEnc K] [VEnc V] {m : List (K × V)} (hm : mapAt K V w r = some m) (hg : GX r w w') (hne : r2 ≠ r) (hp : p.block ≠ r) (h : HouseIs w p r2 H) : HouseIs w' p r2 H :=
  ⟨GX.cell hg h.1 hp, h.2.gx hm hg hne⟩
theorem OwnS.gx {α : Type} [Enc α] {w w' : World} {r base : Nat} {e : TypeId} {v : Value} {xs : List α} (h : OwnS w base e v xs) (hg : GX r w w') (hr : r < base) : OwnS w' base e v xs := by
  refine h.kept hg ?_
  cases hv : v.ownBlock with
  | none => exact .inl rfl
  | some k => exact .inr (fun e => by injection e with e; have := (h.lt k hv).1; omega)
theorem Bel.gx {w0 w w' : World} {r : Nat} (hb : GX r w0 w) (h : Bel w w') : GX r w0 w' := GX.tr _ _ _ hb (GX.of_bel h r)

theorem permIn_list {α : Type} [Inhabited α] {xs : List α} {d : Array α} (h : PermIn 0 xs.toArray.size xs.toArray d) : d.toList.Perm xs := by
  obtain ⟨h1, _, h3⟩ := h
  rw [← h1] at h3
  have h4 : (List.take xs.length d.toList).Perm xs := by simpa [h1] using h3
  rwa [List.take_of_length_le (by have := h1; simp at this; simp; omega)] at h4
theorem sortedIn_list {α : Type} [Inhabited α] {lt : α → α → Bool} {d : Array α} (h : SortedIn lt 0 d.size d) : d.toList.Pairwise fun x y => lt y x = false := by
  rw [List.pairwise_iff_getElem]
  intro i j hi hj hij
  have h2 := h i j (Nat.zero_le _) hij (by simpa using hj)
  rw [getElem!_pos d i (by simpa using hi), getElem!_pos d j (by simpa using hj)] at h2
  simpa using h2
/-- SortFunc at a list of the call's own. -/
theorem sortSale_own (base c : Nat) (A : Option Addr) (xs : List GAuctionSale) (w : World) (h : OwnA w base 70 A c xs) (hn : xs.length ≤ 1000000) :
    Calls Tryd.prog 24 #[.slice A xs.length c, .func (.func 25) #[] #[]] w fun e w' => e = .returned (.tuple #[]) ∧
      ∃ (ys : List GAuctionSale) (gb : Nat), ys.Perm xs ∧ (ys.Pairwise fun x y => ltOf saleCmp y x = false) ∧ Sl GAuctionSale w' w'.heap.size A xs.length ys ∧ base ≤ gb ∧ GX gb w w' := by
  by_cases h0 : xs.length = 0
  · obtain rfl : xs = [] := List.eq_nil_of_length_eq_zero h0
    refine (AnyF.slices_SortFunc_none Tryd.sortSale A c _ w).mono ?_
    rintro e w' ⟨rfl, rfl⟩
    exact ⟨rfl, [], base, .refl _, List.Pairwise.nil, ⟨rfl, fun h => absurd h (by simp)⟩, Nat.le_refl _, GX.rf _⟩
  · obtain ⟨g, rfl, hg1, hg2, hg3⟩ := OwnA.place h (by omega)
    refine (sortSale_any g 0 c xs w h.sl hg2 hg3 hn).mono ?_
    rintro e w' ⟨rfl, d, hp, hs, hsl, hg⟩
    have hz : d.size = xs.toArray.size := hp.1
    refine ⟨rfl, d.toList, g, permIn_list hp, sortedIn_list (by rw [hz]; exact hs), hsl.more hg.size, hg1, hg⟩
theorem due_sorted {w : World} {ds : List GAuctionSale} {D : List MSale} (h : R2 (SaleIs w) ds D) (hs : ds.Pairwise fun x y => ltOf saleCmp y x = false) : D.Pairwise saleLe := by
  refine h.pairwise (fun a b a' b' ha hb hab => ?_) hs
  obtain ⟨h1, rfl, _⟩ := ha
  obtain ⟨h2, rfl, _⟩ := hb
  have : ¬ ltOf saleCmp (b'.at h2) (a'.at h1) = true := by rw [hab]; decide
  rw [saleLt_iff] at this
  unfold saleLe
  simp only [MSale.at] at this
  by_cases h1 : a'.close < b'.close
  · exact .inl h1
  · right
    by_cases h2 : b'.close < a'.close
    · exact absurd (.inl h2) this
    · exact ⟨by omega, fun h3 => this (.inr ⟨by omega, h3⟩)⟩
theorem atPoke {w : World} {g : Nat} {cs : List Value} (h : At w ⟨g, 0, none⟩ cs) {j : Nat} (hj : j < cs.length) (v : Value) : At (w.setCell ⟨g, j, none⟩ v) ⟨g, 0, none⟩ (cs.set j v) := by
  intro i u hu
  rw [addN, Nat.zero_add]
  have hi : i < cs.length := by have := (List.getElem?_eq_some_iff.1 hu).1; simpa using this
  have hx := h i _ (List.getElem?_eq_getElem hi)
  rw [addN, Nat.zero_add] at hx
  by_cases e : j = i
  · subst e
    rw [World.cell?_setCell_same w _ v hx]
    rw [List.getElem?_set_self hj] at hu; exact hu
  · rw [World.cell?_setCell_other w _ _ v (fun h => e (by injection h)), hx]
    rw [List.getElem?_set_ne e, List.getElem?_eq_getElem hi] at hu; exact hu
theorem atPutSeg {g j : Nat} : ∀ (vs : List Value) (i : Nat) (w : World) (cs : List Value), At w ⟨g, 0, none⟩ cs → j + i + vs.length ≤ cs.length → At (World.putFrom w ⟨g, j, none⟩ i vs) ⟨g, 0, none⟩ (setSeg cs (j + i) vs)
  | [], _, _, _, h, _ => h
  | v :: vs, i, w, cs, h, hl => by
    simp only [List.length_cons] at hl
    unfold World.putFrom setSeg
    rw [addN]
    exact atPutSeg vs (i + 1) _ _ (atPoke h (by omega) v) (by rw [List.length_set]; omega)
theorem get?_putSeg {α : Type} [Enc α] {w : World} {g j : Nat} {x y : α} {vs : List Value} (h : get? α w ⟨g, 0, none⟩ = some x) (hl : j + vs.length ≤ Enc.n α) (hy : Enc.enc y = setSeg (Enc.enc x) j vs) : get? α (World.putCells w ⟨g, j, none⟩ vs) ⟨g, 0, none⟩ = some y := by
  rw [get?_iff] at h ⊢
  rw [hy]
  unfold World.putCells
  exact atPutSeg vs 0 w _ h (by rw [Enc.len]; omega)
theorem sale_done (s : GAuctionSale) (x : GAuctionResult) : Enc.enc ({ s with settled := true, result := x } : GAuctionSale) = setSeg ((Enc.enc s).set 5 (.bool true)) 6 (Enc.enc x) := rfl

theorem mapAt_nodup_H {w : World} {r : Nat} {m : List (ByteArray × GAuctionSale)} {H : MHouse} (h : HRel w m H) (hm : mapAt ByteArray GAuctionSale w r = some m) : (H.map (·.1)).Nodup := by
  rw [← h.keys]; exact mapAt_nodup hm
/-- What Settle leaves. -/
def Settled (w : World) (p : Addr) (r : Nat) (H : MHouse) (now : Int) (e : Ending) (w' : World) : Prop :=
  ∃ (D : List MSale) (v : Value), e = .returned v ∧ D.Perm (dueM H now) ∧ D.Pairwise saleLe ∧ OwnS w' w.heap.size 68 v (D.map endR) ∧ HouseIs w' p r (settleH H now) ∧ GX r w w'

set_option maxRecDepth 100000 in
set_option maxHeartbeats 4000000 in
theorem settle_any (p : Addr) (r : Nat) (H : MHouse) (now : Int) (w : World) (hH : HouseIs w p r H) (hp : p.block ≠ r) (hN : Named H) (hlen : H.length ≤ 1000000) (hbids : ∀ q ∈ H, q.2.bids.length ≤ 1000000) :
    Calls Tryd.prog 13 #[.pointer (some p), .int .u64 now] w (Settled w p r H now) := by
  obtain ⟨hc, m, hm, hr⟩ := hH
  have hml := hr.len
  have hpl : p.block < w.heap.size := World.block_lt_of_cell? w _ hc
  have hrl := mapAt_lt hm
  have HR := Lib.hid hr; have HN := Lib.hid hN; have HB := Lib.hid hbids; clear hr hN hbids
  have HML := Lib.hid hml; clear hml
  obtain ⟨o, hrange, hR0⟩ := ranges_start (P := Tryd.prog) um59 hm
  have HR0 := Lib.hid hR0; clear hR0
  have HM := Lib.hid hm; have HC := Lib.hid hc; clear hm
  go_enter Tryd.func13, Tryd.ntmps13
  go_wp2_with fail
  clear hrange hc
  go_loopw [5] (fun v wr => ∃ V L, (V ++ L).Perm m ∧ Ranges wr r w.heap.size m L ∧ OwnS wr (w.heap.size + 1) 70 v ((V.filter fun p => dueG now p.2).map (·.2)) ∧ Bel w wr ∧ w.heap.size < wr.heap.size) (fun _ wr => wr.rangeLeft r w.heap.size)
  case atStart => exact ⟨[], m, by simp, HR0.out, OwnS.nil _ _ _, (Bel.refl w).alloc _, by simp⟩
  case round =>
    obtain ⟨V, L, hperm, hR, hown, hb, hsz⟩ := hrel
    have HP := Lib.hid hperm; have HRG := Lib.hid hR; have HO := Lib.hid hown; have HBL := Lib.hid hb; clear hperm hR hown hb
    rcases HRG.out.next Tryd.prog with ⟨rfl, hnext⟩ | ⟨l1, q, l2, w1, rfl, hnext, hR1, hg1, hs1, hen⟩
    · have hV : V.Perm m := by simpa using HP.out
      obtain ⟨ys, hys⟩ : ∃ ys, ((V.filter fun p => dueG now p.2).map (·.2) : List GAuctionSale) = ys := ⟨_, rfl⟩
      have ho := HO.out
      rw [hys] at ho
      have hyl : ys.length ≤ 1000000 := by
        rw [← hys, List.length_map]
        refine Nat.le_trans (List.length_filter_le _ _) ?_
        have h1 := hV.length_eq
        have h2 := HML.out
        omega
      obtain ⟨A, c, rfl, hoa, hc1, hc2⟩ := OwnS.ownA ho
      have HS := Lib.hid (sortSale_own _ c A ys wr hoa hyl)
      have HV := Lib.hid hV; have HYS := Lib.hid hys
      clear hV hys ho HO HP HRG
      go_wp2_with fail
      refine HS.out.mono ?_
      rintro _ w5 ⟨rfl, ds, gb, hdp, hds, hsl, hgb, hgx⟩
      have hb5 : Bel w w5 := HBL.out.grown hgx (fun k hk => by injection hk with hk; omega)
      obtain ⟨D, hD, hR2⟩ := due_typed (now := now) HR.out HV.out (ds := ds) (by rw [HYS.out]; exact hdp)
      have hDs := due_sorted hR2 hds
      have hdl : ds.length = ys.length := hdp.length_eq
      have hDl : D.length = ys.length := by rw [← hR2.len, hdl]
      have HSL := Lib.hid hsl; have HB5 := Lib.hid hb5; have HD := Lib.hid hD; have HR2 := Lib.hid hR2; have HDS := Lib.hid hDs
      have HHS := Lib.hid (show HouseIs w5 p r H from HouseIs.step ⟨HC.out, m, HM.out, HR.out⟩ hb5)
      have HDL := Lib.hid hDl
      clear hdp hds hsl hgx hb5 hD hR2 hDs hdl hDl HS HV HYS hoa HBL
      obtain ⟨n, hn⟩ : ∃ n, ys.length = n := ⟨_, rfl⟩
      rw [hn] at HSL HDL hyl hc1 ⊢
      clear hn
      obtain ⟨m5, hm5, _⟩ := HHS.out.2
      have hr5 := mapAt_lt hm5
      have HM5 := Lib.hid hm5; clear hm5
      go_wp2_with fail
      obtain ⟨m5', hm5', hr5'⟩ := HHS.out.2
      have HS5 := Lib.hid (show mapAt ByteArray GAuctionSale w5 r = some m5' ∧ HRel w5 m5' H from ⟨hm5', hr5'⟩)
      clear hm5' hr5'
      go_loopw [8, 37] (fun v i wr => ∃ (k : Nat) (mk : List (ByteArray × GAuctionSale)), k ≤ n ∧ i = .int .i64 k ∧ OwnS wr w5.heap.size 68 v ((D.take k).map endR) ∧ mapAt ByteArray GAuctionSale wr r = some mk ∧ HRel w5 mk (settleBy ((D.take k).map (·.name)) H) ∧ GX r w5 wr) (fun _ i _ => n - (intOf i).toNat)
      case atStart => exact ⟨0, m5', by omega, rfl, OwnS.nil _ _ _, HS5.out.1, by simpa [settleBy_nil] using HS5.out.2, GX.rf _⟩
      case round =>
        obtain ⟨k, mk, hk, rfl, hown, hmk, hrk, hgk⟩ := hrel
        have HO := Lib.hid hown; have HMK := Lib.hid hmk; have HRK := Lib.hid hrk; have HGK := Lib.hid hgk; clear hown hmk hrk hgk
        have hz5 := HGK.out.size
        have hck : wr.cell? p = some (.map (some r)) := GX.cell HGK.out HHS.out.1 hp
        by_cases hlt : k < n
        · obtain ⟨ad, s, rfl, hab, hsk, hgs⟩ := (Sl.gx HM5.out HGK.out HSL.out).at_ (k := k) hlt
          obtain ⟨x, hxk, hsx⟩ := HR2.out.at_ hsk
          have hsx5 := hsx.step HB5.out
          have hsxr := SaleIs.gx HM5.out HGK.out hsx5
          have hxb := HB.out _ (due_mem HN.out HD.out (List.mem_of_getElem? hxk))
          have hsn : s.name = x.name := by obtain ⟨hd, rfl, _⟩ := hsx; rfl
          have hs8 : SaleIs w5 ({ s with settled := true, result := endR x } : GAuctionSale) (doneM x) := by
            obtain ⟨hd, rfl, h2, h3⟩ := hsx5
            exact ⟨hd, rfl, h2, h3⟩
          obtain ⟨s8, e8⟩ : ∃ s8 : GAuctionSale, ({ s with settled := true, result := endR x } : GAuctionSale) = s8 := ⟨_, rfl⟩
          rw [e8] at hs8
          have e8n : s8.name = s.name := by rw [← e8]
          have e8r : s8.result = endR x := by rw [← e8]
          have E8N := Lib.hid e8n; have E8R := Lib.hid e8r; clear e8n e8r
          have E8 := Lib.hid e8; clear e8
          change get? GAuctionSale wr (ad.add (k * 9)) = some s at hgs
          have HXK := Lib.hid hxk; have HSX := Lib.hid hsxr; have HXB := Lib.hid hxb; have HSN := Lib.hid hsn; have HS8 := Lib.hid hs8; clear hsk hxk hsx hsxr hxb hsn hs8 hsx5
          go_wp2_with fail
          refine (end_any s x _ (HSX.out.step ((Bel.refl _).alloc _)) HXB.out).mono ?_
          rintro _ w6 ⟨rfl, hb6⟩
          have hgb0 := get?_new (w := wr) 70 s
          have hfr0 := blkFree_new (t := 70) (w := wr) s.enc.toArray wr.heap.size rfl
          have hgb := GB.get hb6 hgb0
          have hbz : wr.heap.size < w6.heap.size := by have := hb6.size; simp at this; omega
          have hfr := GX.free (GX.of_bel hb6 (w6.heap.size)) hfr0 (by simp) (by omega)
          have f5 : w6.cell? ⟨wr.heap.size, 5, none⟩ = some (.bool s.settled) := by simpa using cell_off (by omega) (GAuctionSale.at_settled hgb)
          have z5 := frozen_of_free (a := ⟨wr.heap.size, 5, none⟩) hfr
          have hg7 : get? GAuctionSale (w6.setCell ⟨wr.heap.size, 5, none⟩ (.bool true)) ⟨wr.heap.size, 0, none⟩ = some { s with settled := true } := get?_poke hgb rfl
          have f6 : get? GAuctionResult (w6.setCell ⟨wr.heap.size, 5, none⟩ (.bool true)) ⟨wr.heap.size, 6, none⟩ = some s.result := by
            have := GAuctionSale.at_result hg7
            rwa [addN] at this
          have z6 : blkFree (w6.setCell ⟨wr.heap.size, 5, none⟩ (.bool true)) wr.heap.size = true := by rw [blkFree_setCell]; exact hfr
          have hg8 : get? GAuctionSale (World.putCells (w6.setCell ⟨wr.heap.size, 5, none⟩ (.bool true)) ⟨wr.heap.size, 6, none⟩ (endR x).enc) ⟨wr.heap.size, 0, none⟩ = some s8 := get?_putSeg hg7 (by show 6 + (endR x).enc.length ≤ 9; rw [GAuctionResult.enc_len]; omega) (by rw [← E8.out]; rfl)
          have hb8 : Bel wr (World.putCells (w6.setCell ⟨wr.heap.size, 5, none⟩ (.bool true)) ⟨wr.heap.size, 6, none⟩ (endR x).enc) :=
            Below_putCells (a := ⟨wr.heap.size, 6, none⟩) (((((Bel.refl wr).alloc _).trans hb6)).setCell (p := ⟨wr.heap.size, 5, none⟩) (Nat.le_refl _) _) (Nat.le_refl _) _
          have HG8 := Lib.hid hg8; have HB8 := Lib.hid hb8
          clear hgb0 hfr0 hgb hfr hb6 hg7 hg8 hb8
          go_wp2_with fail
          clear f5 f6 z5 z6
          generalize World.putCells (w6.setCell ⟨wr.heap.size, 5, none⟩ (.bool true)) ⟨wr.heap.size, 6, none⟩ (endR x).enc = w8 at HG8 HB8 ⊢
          have hbz8 := HB8.out.size
          have k0 : w8.cell? p = some (.map (some r)) := GB.cell HB8.out hck
          have k1 : w8.cell? ⟨wr.heap.size, 0, none⟩ = some (.string s.name) := by rw [← E8N.out]; exact cell_zero (GAuctionSale.at_name HG8.out)
          have hm8 : mapAt ByteArray GAuctionSale w8 r = some mk := (mapAt_below HB8.out (mapAt_lt HMK.out)).trans HMK.out
          refine wp_region_G GB [7] GB.rf (by kernel_rfl) ?_
          refine wpG_looks 1 8 [0,1,2,3,4,5,6] rfl GB.rf GB.tr (by kernel_rfl) (fun _ _ _ _ hd h => And.intro (hd ▸ And.left h) (And.right h)) rfl (by kernel_rfl) ?_
          intro ι W hne CW
          have g0 : ∀ z, (W z).cell? p = some (.map (some r)) := fun z => (CW.out z).cell k0
          have g1 : ∀ z, (W z).cell? ⟨wr.heap.size, 0, none⟩ = some (.string s.name) := fun z => (CW.out z).cell k1
          have g2 : ∀ z, get? GAuctionSale (W z) ⟨wr.heap.size, 0, none⟩ = some s8 := fun z => (CW.out z).get HG8.out
          repeat (refine wpLooksG_step (fun K hK => ?_); go_simp; refine hK _ ?_; clear hK K)
          refine wpLooksG_nil ?_
          clear g0 g1 g2 CW hne W ι
          refine wpG_force 7 _ rfl (by kernel_rfl) rfl fun wa hwa K hK => ?_
          have hma : mapAt ByteArray GAuctionSale wa r = some mk := (mapAt_below hwa.undrew (mapAt_lt hm8)).trans hm8
          go_simp
          have hml1 := mapAt_mput kl9 um59 hma s.name s8
          have hgr1 := mput_grown kl9 um59 hma s.name s8
          have hg9 : get? GAuctionSale (mput Tryd.prog 59 wa r s.name s8) ⟨wr.heap.size, 0, none⟩ = some s8 := (mput_get kl9 um59 hma s.name s8 _ _).trans (GB.get hwa.undrew HG8.out)
          have ho9 := ((HO.out.step HB8.out).step hwa.undrew).kept hgr1 (by
            cases hv : Value.ownBlock u8 with
            | none => exact .inl rfl
            | some j => exact .inr (fun e => by injection e with e; have := (HO.out.lt j hv).1; omega))
          have hgx9 : GX r w5 (mput Tryd.prog 59 wa r s.name s8) := GX.tr _ _ _ (GX.tr _ _ _ HGK.out (GX.of_bel (HB8.out.trans hwa.undrew) r)) hgr1
          have HM9 := Lib.hid hml1; have HG9 := Lib.hid hg9; have HO9 := Lib.hid ho9; have HX9 := Lib.hid hgx9
          clear hml1 hgr1 hg9 ho9 hgx9 hma k0 k1 hm8
          generalize mput Tryd.prog 59 wa r s.name s8 = w9 at HM9 HG9 HO9 HX9 ⊢
          refine hK _ _ (fun h => absurd (by simp) h) ?_
          clear hK K hwa
          refine wpG_end (by kernel_rfl) (fun wn hwn => ?_) _
          have k6 : get? GAuctionResult wn ⟨wr.heap.size, 6, none⟩ = some (endR x) := by
            have := GAuctionSale.at_result (GB.get hwn HG9.out)
            rwa [addN, Nat.zero_add, E8R.out] at this
          have hln : ((D.take k).map endR).length ≤ k := by rw [List.length_map]; exact List.length_take_le _ _
          obtain ⟨v4, w4, hrun4, ho4, hg4, _⟩ := gAppend_S (P := Tryd.prog) ei46 (t := 46) ((HO9.out.step hwn).alloc (.cells (endR x).enc.toArray 68)) (c := 1) (m := 1) (A := some ⟨wn.heap.size, 0, none⟩) (Sl.new_ (B := wn.heap.size + 1) (xs := [endR x]) (by simp; rfl) rfl rfl (by omega)) (Nat.le_trans (Nat.add_le_add_right hln 1) (by unfold maxLen; omega)) (Nat.le_trans (Nat.mul_le_mul_right _ (Nat.add_le_add_right hln 1)) (by omega)) (by have := HX9.out.size; have := hwn.size; simp only [World.size_alloc]; omega) 46
          have etk : (D.take (k + 1)).map endR = (D.take k).map endR ++ [endR x] := by rw [List.take_add_one, HXK.out, List.map_append]; rfl
          rw [← etk] at ho4
          have hown4 : ∀ j, u8.ownBlock = some j → w5.heap.size ≤ j := fun j hj => (HO9.out.lt j hj).1
          have hm4 : mapAt ByteArray GAuctionSale w4 r = some (mset mk s.name s8) :=
            mapAt_grown hg4 (fun e => by have := hown4 r e.symm; omega) (mapAt_alloc _ ((mapAt_below hwn (mapAt_lt HM9.out)).trans HM9.out))
          have hr4 : HRel w5 (mset mk s.name s8) (settleBy ((D.take (k + 1)).map (·.name)) H) := by
            have h1 := HRK.out.set (k := s.name) HS8.out
            rw [HSN.out] at h1 ⊢
            rwa [settle_step (mapAt_nodup_H HR.out HM.out) HN.out HD.out HXK.out] at h1
          have hx4 : GX r w5 w4 := World.grownBy.andThen (World.grownBy.andThen (World.grownBy.andThen HX9.out (GX.of_bel hwn r) (fun j hj => .inr hj)) (GX.of_bel ((Bel.refl wn).alloc _) r) (fun j hj => .inr hj)) hg4 (fun j hj => .inl (hown4 j hj))
          have HO4 := Lib.hid ho4; have HM4 := Lib.hid hm4; have HR4 := Lib.hid hr4; have HX4 := Lib.hid hx4
          clear ho4 hg4 hm4 hr4 hx4 etk hown4 hln hwn
          go_wp2_with fail
          exact ⟨⟨k + 1, mset mk s.name s8, by omega, by go_num, HO4.out, HM4.out, HR4.out, HX4.out⟩, by simp [intOf]; omega⟩
        · obtain rfl : k = n := by omega
          have htk : D.take k = D := List.take_of_length_le (by rw [HDL.out]; exact Nat.le_refl _)
          have HTK := Lib.hid htk; clear htk
          go_wp2_with fail
          go_ret
          refine ⟨D, _, rfl, HD.out, HDS.out, ?_, ⟨hck, mk, HMK.out, ?_⟩, GX.tr _ _ _ (GX.of_bel HB5.out r) HGK.out⟩
          · have := HO.out
            rw [HTK.out] at this
            exact OwnS.mono this HB5.out.size
          · have := HRK.out
            rw [HTK.out, settleBy_end (mapAt_nodup_H HR.out HM.out) HN.out HD.out] at this
            exact HRel.mono (fun _ _ hs => SaleIs.gx HM5.out HGK.out hs) this
    · obtain ⟨k, s⟩ := q
      replace hnext : ∀ ty : TypeId, (Instr.next (.pointer (some ⟨w.heap.size, 0, none⟩)) false ty).run Tryd.prog wr = .ok (.tuple #[.bool true, .string k, s.val]) w1 := hnext
      replace hen : (Instr.entry (.pointer (some ⟨w.heap.size, 0, none⟩))).run Tryd.prog w1 = .ok (.tuple #[.string k, s.val]) w1 := hen
      have hl1 : (((V.filter fun p => dueG now p.2).map (·.2)) : List GAuctionSale).length ≤ 1000000 := by
        rw [List.length_map]
        refine Nat.le_trans (List.length_filter_le _ _) ?_
        have h1 := HP.out.length_eq
        rw [List.length_append] at h1
        have h2 := HML.out
        omega
      have HR1 := Lib.hid hR1; have HG1 := Lib.hid hg1
      have HO1 := Lib.hid (HO.out.kept hg1 (by
        cases hv : Value.ownBlock u5 with
        | none => exact .inl rfl
        | some j => exact .inr (fun e => by injection e with e; have := (HO.out.lt j hv).1; omega)))
      have HB1 := Lib.hid (HBL.out.grown hg1 (fun j hj => by injection hj with hj; omega))
      have hp2 : ((V ++ [(k, s)]) ++ (l1 ++ l2)).Perm m := by
        refine List.Perm.trans ?_ HP.out
        rw [List.append_assoc]
        show (V ++ ((k, s) :: (l1 ++ l2))).Perm _
        exact (List.perm_middle.symm).append_left V
      have HP2 := Lib.hid hp2
      have hmeas : (l1 ++ l2).length < wr.rangeLeft r w.heap.size := by rw [HRG.out.leftN]; simp
      clear hR1 hg1 hp2
      by_cases hd : dueG now s = true
      · have hd2 : s.settled = false ∧ s.close < now := by unfold dueG at hd; simpa using hd
        obtain ⟨hd3, hd4⟩ := hd2
        have e : ((V ++ [(k, s)]).filter fun p => dueG now p.2).map (·.2) = ((V.filter fun p => dueG now p.2).map (·.2)) ++ [s] := by rw [List.filter_append, List.map_append]; simp [hd]
        have HE := Lib.hid e; clear e hd
        obtain ⟨v4, w4, hrun4, ho4, hg4, _⟩ := gAppend_S (P := Tryd.prog) ei65 (t := 65) ((HO1.out.alloc (.cells s.enc.toArray 70)).alloc (.cells s.enc.toArray 70)) (c := 1) (m := 1) (A := some ⟨wr.heap.size + 1, 0, none⟩) (Sl.new_ (B := wr.heap.size + 2) (xs := [s]) (by simp; rfl) rfl (by simp [World.size_alloc, hs1]) (by omega)) (Nat.le_trans (Nat.add_le_add_right hl1 1) (by unfold maxLen; omega)) (Nat.le_trans (Nat.mul_le_mul_right _ (Nat.add_le_add_right hl1 1)) (by omega)) (by simp only [World.size_alloc]; omega) 65
        rw [← HE.out] at ho4
        have hbB := ((HB1.out.alloc (.cells s.enc.toArray 70)).alloc (.cells s.enc.toArray 70)).appS hg4 ((HO1.out.alloc (.cells s.enc.toArray 70)).alloc (.cells s.enc.toArray 70)) (by omega)
        have hrg := ((HR1.out.below ((Below.refl _ _).alloc (Nat.le_refl _) (.cells s.enc.toArray 70))).below ((Below.refl _ _).alloc (Nat.le_refl _) (.cells s.enc.toArray 70))).kept hg4 (fun e => by have := (HO.out.lt _ e.symm).1; omega) (fun e => by have := (HO.out.lt _ e.symm).1; omega)
        have hz4 := hg4.size
        simp only [World.size_alloc] at hz4
        have HO4 := Lib.hid ho4; have HB4 := Lib.hid hbB; have HR4 := Lib.hid hrg; clear ho4 hg4 hbB hrg hl1
        go_wp2_with fail
        exact ⟨⟨V ++ [(k, s)], l1 ++ l2, HP2.out, HR4.out, HO4.out, HB4.out, by omega⟩, by rw [HR4.out.leftN]; exact hmeas⟩
      · have e : ((V ++ [(k, s)]).filter fun p => dueG now p.2).map (·.2) = ((V.filter fun p => dueG now p.2).map (·.2)) := by rw [List.filter_append, List.map_append]; simp [hd]
        have HE := Lib.hid e; clear e
        have hrg := HR1.out.below ((Below.refl _ _).alloc (Nat.le_refl _) (.cells s.enc.toArray 70))
        have HR4 := Lib.hid hrg; clear hrg hl1
        have hsd : s.settled = true ∨ (s.settled = false ∧ ¬ s.close < now) := by
          unfold dueG at hd
          cases hq : s.settled
          · right; rw [hq] at hd; exact ⟨rfl, by simpa using hd⟩
          · left; rfl
        clear hd
        rcases hsd with hd3 | ⟨hd3, hd4⟩
        · go_wp2_with fail
          exact ⟨⟨V ++ [(k, s)], l1 ++ l2, HP2.out, HR4.out, by rw [HE.out]; exact HO1.out.alloc _, HB1.out.alloc _, by simp; omega⟩, by rw [HR4.out.leftN]; exact hmeas⟩
        · go_wp2_with fail
          exact ⟨⟨V ++ [(k, s)], l1 ++ l2, HP2.out, HR4.out, by rw [HE.out]; exact HO1.out.alloc _, HB1.out.alloc _, by simp; omega⟩, by rw [HR4.out.leftN]; exact hmeas⟩
end Go.Proofs.YtgeimnknmljplaaDoor
