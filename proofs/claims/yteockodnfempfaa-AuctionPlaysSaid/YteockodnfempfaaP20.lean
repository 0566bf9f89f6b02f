/- What sale.end computes. Conditions: those named in each theorem. -/
import Derived.Test.YteockodnfempfaaP19
import Derived.Test.YteockodnfempfaaP2
/- What SortStableFunc at bids computes. Conditions: those named in each theorem. -/
namespace Go.Proofs.Yteockodnfempfaa
open Go Go.RowKit Go.Gv Go.Sort

set_option maxRecDepth 100000 in
set_option maxHeartbeats 1000000 in
theorem sortBid_any (blk cap : Nat) (bs : List GAuctionBid) (w : World) (hx : Sl GAuctionBid w w.heap.size (some ⟨blk, 0, none⟩) bs.length bs) (hb : blk < w.heap.size) (hf : blkFree w blk = true) (hn : bs.length ≤ 1000000) :
    Calls Try.prog 114 #[.slice (some ⟨blk, 0, none⟩) bs.length cap, .func (.func 115) #[] #[]] w fun e w' => e = .returned (.tuple #[]) ∧
      Sl GAuctionBid w' w.heap.size (some ⟨blk, 0, none⟩) bs.length (sortL GAuctionBid.amount bs) ∧ GX blk w w' := by
  have e1 : bs.toArray.size = bs.length := by simp
  have H0 := stableRow_any blk cap bs.toArray w ⟨by rw [e1]; exact hx, hf, hb⟩ (by rw [e1]; exact hn)
  rw [e1] at H0
  have H := Lib.hid H0
  clear hx hf hn H0
  obtain ⟨n, hbn⟩ : ∃ n, bs.length = n := ⟨_, rfl⟩
  rw [hbn] at H ⊢
  have HBN := Lib.hid hbn
  clear hbn e1
  go_enter Try.func114, Try.ntmps114
  go_wp2_with fail
  refine H.out.mono ?_
  rintro _ w1 ⟨rfl, d', hs, hr, hg, hm⟩
  have HS := Lib.hid hs; have HR := Lib.hid hr; have HG := Lib.hid hg; have HM := Lib.hid hm; clear hs hr hg hm
  go_wp2_with fail
  go_end0
  have hz : d'.size = n := by rw [HS.out]; simpa using HBN.out
  have hl : d'.toList = sortL GAuctionBid.amount bs := by
    have := sorted_one HS.out (by rw [show bs.toArray.size = n by simpa using HBN.out]; exact HM.out)
    simpa using this
  have h1 := HR.out.sl
  rw [hl, hz] at h1
  refine ⟨rfl, ⟨h1.1, fun h2 => ?_⟩, HG.out⟩
  obtain ⟨ad, e, _, h3⟩ := h1.2 h2
  injection e with e
  subst e
  exact ⟨_, rfl, hb, h3⟩
end Go.Proofs.Yteockodnfempfaa
/- Toward sale.end. Conditions: those named in each theorem. -/
namespace Go.Proofs.Yteockodnfempfaa
open Go Go.RowKit Go.Gv Go.Sort
/-- The bids that reach the reserve, highest first. -/
def endBids (s : MSale) : List GAuctionBid := sortL GAuctionBid.amount (s.bids.filter fun b => decide (s.reserve ≤ b.amount))
def endPrice (s : MSale) : List GAuctionBid → Int
  | [] => 0
  | b :: r => if s.vickrey = true then (match r with | [] => s.reserve | c :: _ => c.amount) else b.amount
def endR (s : MSale) : GAuctionResult :=
  match endBids s with
  | [] => ⟨s.name, -1, 0⟩
  | b :: r => ⟨s.name, b.client, endPrice s (b :: r)⟩
end Go.Proofs.Yteockodnfempfaa
/- What sale.end computes. Conditions: those named in each theorem. -/
namespace Go.Proofs.Yteockodnfempfaa
open Go Go.RowKit Go.Gv Go.Sort
theorem GX.getS {α : Type} [Enc α] {w w' : World} {r : Nat} {a : Addr} {x : α} (h : GX r w w') (hg : get? α w a = some x) (hne : a.block ≠ r) : get? α w' a = some x :=
  (get?_keep (h.block _ (get?_lt hg) (fun e => hne (by injection e)))).trans hg
theorem get?_put {α : Type} [Enc α] {w : World} {b o : Nat} {y : α} (x : α) (h : get? α w ⟨b, o, none⟩ = some y) : get? α (World.putCells w ⟨b, o, none⟩ (Enc.enc x)) ⟨b, o, none⟩ = some x := by
  refine get?_iff.2 fun j v hv => ?_
  have hj : j < (Enc.enc x).length := (List.getElem?_eq_some_iff.1 hv).1
  have hjy : j < (Enc.enc y).length := by rw [Enc.len] at hj ⊢; exact hj
  have hc := (get?_iff.1 h) j _ (List.getElem?_eq_getElem hjy)
  rw [addN] at hc ⊢
  unfold World.putCells
  rw [cell_putFrom rfl _ _ _ _ rfl (by rw [hc]; rfl), if_pos ⟨rfl, by simp, by simp; exact hj⟩]
  simpa using hv
theorem GX.below {w w' : World} {r B : Nat} (h : GX r w w') (hr : B ≤ r) (hB : B ≤ w.heap.size) : Below B w w' :=
  ⟨h.os, h.tape, h.output, h.size, fun k hk => h.block k (by omega) (fun e => by injection e; omega)⟩
theorem GX.free {w w' : World} {r n : Nat} (h : GX r w w') (hf : blkFree w n = true) (hl : n < w.heap.size) (hne : n ≠ r) : blkFree w' n = true :=
  (blkFree_keep (h.block _ hl (fun e => hne (by injection e)))).trans hf
set_option maxRecDepth 100000 in
set_option maxHeartbeats 4000000 in
theorem end_any (s : GAuctionSale) (x : MSale) (w : World) (hS : SaleIs w s x) (hn : x.bids.length ≤ 1000000) :
    Calls Try.prog 80 #[s.val] w fun e w' => e = .returned (endR x).val ∧ Bel w w' := by
  obtain ⟨h, rfl, hx, hc1, hc2⟩ := hS
  obtain ⟨A, n, c⟩ := h
  have hl : x.bids.length = n := hx.1
  simp only at hx hc1 hc2
  have HX := Lib.hid hx; clear hx
  obtain ⟨s, hs⟩ : ∃ s, s = x.at ⟨A, n, c⟩ := ⟨_, rfl⟩
  have hsb : s.bids = ⟨A, n, c⟩ := by rw [hs]; rfl
  have hsr : s.reserve = x.reserve := by rw [hs]; rfl
  obtain ⟨w2, hw2⟩ : ∃ w2, w2 = (w.alloc (.cells s.enc.toArray 146)).alloc (.cells (default : GAuctionResult).enc.toArray 59) := ⟨_, rfl⟩
  have hg : get? GAuctionSale w2 ⟨w.heap.size, 0, none⟩ = some s := by rw [hw2]; exact get?_alloc _ (get?_new _ _)
  have hb2 : Bel w w2 := by rw [hw2]; exact ((Bel.refl w).alloc _).alloc _
  have hz2 : w2.heap.size = w.heap.size + 2 := by rw [hw2]; simp [World.size_alloc]
  rw [← hs]
  have HS := Lib.hid hs; have HG := Lib.hid hg; have HB2 := Lib.hid hb2; clear hs hg hb2
  go_enter Try.func80, Try.ntmps80
  go_wp2_with fail
  go_loopw [3, 10] (fun v i wr => ∃ (k : Nat), k ≤ n ∧ i = .int .i64 k ∧ OwnS wr w2.heap.size 151 v ((x.bids.take k).filter fun b => decide (x.reserve ≤ b.amount)) ∧ Bel w2 wr) (fun _ i _ => n - (intOf i).toNat)
  case atStart => exact ⟨0, by omega, rfl, OwnS.nil _ _ _, by rw [hw2]; exact Bel.refl _⟩
  case round =>
    obtain ⟨k, hk, rfl, hown, hb⟩ := hrel
    have HO := Lib.hid hown; have HB := Lib.hid hb; clear hown hb
    have hgr : get? GAuctionSale wr ⟨w.heap.size, 0, none⟩ = some s := GB.get HB.out HG.out
    have f2 := cell_off (by omega) (GAuctionSale.at_reserve hgr)
    rw [hsr] at f2
    clear hgr
    have f2A : ∀ o, (wr.alloc o).cell? ⟨w.heap.size, 2, none⟩ = some (.int .i64 x.reserve) := fun o => GB.cell (GB.al wr o) (by simpa using f2)
    by_cases hlt : k < n
    · obtain ⟨ad, b, rfl, hab, hbk, hgb⟩ := (HX.out.stepB (HB2.out.trans HB.out)).at_ (k := k) hlt
      have HBK := Lib.hid hbk; clear hbk
      change get? GAuctionBid wr (ad.add (k * 2)) = some b at hgb
      by_cases hq : x.reserve ≤ b.amount
      · have hlen : ((x.bids.take k).filter fun b => decide (x.reserve ≤ b.amount)).length ≤ k := by
          refine Nat.le_trans (List.length_filter_le _ _) ?_
          rw [List.length_take]; omega
        have e : (x.bids.take (k + 1)).filter (fun b => decide (x.reserve ≤ b.amount)) = (x.bids.take k).filter (fun b => decide (x.reserve ≤ b.amount)) ++ [b] := by
          rw [List.take_add_one, HBK.out, List.filter_append]; simp [hq]
        have HE := Lib.hid e; clear e
        obtain ⟨v4, w4, hrun4, ho4, hg4, _⟩ := gAppend_S (P := Try.prog) ei144 (t := 144) ((HO.out.alloc (.cells b.enc.toArray 151)).alloc (.cells b.enc.toArray 151)) (c := 1) (m := 1) (A := some ⟨wr.heap.size + 1, 0, none⟩) (Sl.new_ (B := wr.heap.size + 2) (xs := [b]) (by simp; rfl) rfl (by simp [World.size_alloc]) (by omega)) (Nat.le_trans (Nat.add_le_add_right hlen 1) (by unfold maxLen; omega)) (Nat.le_trans (Nat.mul_le_mul_right _ (Nat.add_le_add_right hlen 1)) (by omega)) (by have := HB.out.size; simp only [World.size_alloc]; omega) 144
        rw [← HE.out] at ho4
        have hbB := Gv.Below.appS ((HB.out.alloc (.cells b.enc.toArray 151)).alloc (.cells b.enc.toArray 151)) hg4 ((HO.out.alloc (.cells b.enc.toArray 151)).alloc (.cells b.enc.toArray 151)) (Nat.le_refl _) (by have := HB.out.size; simp only [World.size_alloc]; omega)
        have HO4 := Lib.hid ho4; have HG4 := Lib.hid hg4; have HB4 := Lib.hid hbB; clear ho4 hg4 hbB
        clear hlen
        go_wp2_with fail
        exact ⟨⟨k + 1, by omega, by go_num, HO4.out, HB4.out⟩, by simp [intOf]; omega⟩
      · go_wp2_with fail
        refine ⟨⟨k + 1, by omega, by go_num, ?_, ?_⟩, by simp [intOf]; omega⟩
        · have e : (x.bids.take (k + 1)).filter (fun b => decide (x.reserve ≤ b.amount)) = (x.bids.take k).filter (fun b => decide (x.reserve ≤ b.amount)) := by
            rw [List.take_add_one, HBK.out, List.filter_append]; simp [hq]
          rw [e]
          exact HO.out.alloc _
        · exact HB.out.alloc _
    · obtain rfl : k = n := by omega
      obtain ⟨ys, hys⟩ : ∃ ys, ((x.bids.take k).filter fun b => decide (x.reserve ≤ b.amount)) = ys := ⟨_, rfl⟩
      have ho := HO.out
      rw [hys] at ho
      have hE : endBids x = sortL GAuctionBid.amount ys := by
        unfold endBids
        rw [← hys, List.take_of_length_le (by rw [hl]; exact Nat.le_refl _)]
      have hlen : ys.length ≤ 1000000 := by
        rw [← hys]
        refine Nat.le_trans (List.length_filter_le _ _) ?_
        rw [List.length_take]; omega
      clear hys HO
      obtain ⟨A4, c4, rfl, ho4, hc4, hm4⟩ := OwnS.ownA ho
      have HO := Lib.hid ho4; have HE := Lib.hid hE; clear ho ho4 hE
      by_cases h0 : ys.length = 0
      · have hbz := HB.out.size
        have hgr5 : get? GAuctionSale wr ⟨w.heap.size, 0, none⟩ = some s := GB.get HB.out HG.out
        have f0 : wr.cell? ⟨w.heap.size, 0, none⟩ = some (.string s.name) := cell_zero (GAuctionSale.at_name hgr5)
        clear hgr5
        have hR : get? GAuctionResult wr ⟨w.heap.size + 1, 0, none⟩ = some default := by
          refine GB.get HB.out ?_
          have := get?_new (w := w.alloc (.cells s.enc.toArray 146)) 59 (default : GAuctionResult)
          rw [World.size_alloc] at this
          rw [hw2]; exact this
        have hF : blkFree wr (w.heap.size + 1) = true := by
          refine GX.free (GX.of_bel HB.out (w.heap.size + 2)) ?_ (by omega) (by omega)
          rw [hw2]; exact blkFree_new _ _ (by simp [World.size_alloc])
        go_wp2_with fail
        have hgn : get? GAuctionResult _ ⟨w.heap.size + 1, 0, none⟩ = some ⟨s.name, -1, 0⟩ := get?_put ⟨s.name, -1, 0⟩ hR
        refine bodyPost_ret (results_cell (x := (⟨s.name, -1, 0⟩ : GAuctionResult)) rfl rfl ag59 sz59 hgn) rfl ⟨?_, ?_⟩
        · have hbs := HE.out
          obtain rfl : ys = [] := List.eq_nil_of_length_eq_zero h0
          have hsn : s.name = x.name := by rw [HS.out]; rfl
          unfold endR
          rw [hbs, GAuctionResult.val_eq, hsn]; rfl
        · have h1 : Below w.heap.size w wr := Below.trans HB2.out (Below.mono HB.out (by omega))
          exact Below_putCells (a := ⟨w.heap.size + 1, 0, none⟩) h1 (by show w.heap.size ≤ w.heap.size + 1; omega) _
      · go_wp2_with fail
        obtain ⟨g, rfl, hg1, hg2, hg3⟩ := OwnA.place HO.out (by omega)
        refine (sortBid_any g c4 ys wr HO.out.sl hg2 hg3 hlen).mono ?_
        rintro _ w5 ⟨rfl, hs5, hgx⟩
        have HS5 := Lib.hid hs5; have HGX := Lib.hid hgx; clear hs5 hgx
        have hne1 : (⟨w.heap.size, 2, none⟩ : Addr).block ≠ g := by show w.heap.size ≠ g; omega
        have hne0 : (⟨w.heap.size, 0, none⟩ : Addr).block ≠ g := by show w.heap.size ≠ g; omega
        have hgr5 : get? GAuctionSale wr ⟨w.heap.size, 0, none⟩ = some s := GB.get HB.out HG.out
        have f2 : w5.cell? ⟨w.heap.size, 2, none⟩ = some (.int .i64 x.reserve) := GX.cell HGX.out (by simpa using f2) hne1
        have f0 : w5.cell? ⟨w.heap.size, 0, none⟩ = some (.string s.name) := GX.cell HGX.out (cell_zero (GAuctionSale.at_name hgr5)) hne0
        have f1 : w5.cell? ⟨w.heap.size, 1, none⟩ = some (.bool s.vickrey) := GX.cell HGX.out (by simpa using cell_off (by omega) (GAuctionSale.at_vickrey hgr5)) hne0
        clear hgr5
        obtain ⟨ad0, b0, he0, _, hk0, hgb0⟩ := HS5.out.at_ (k := 0) (by omega)
        obtain rfl : ad0 = ⟨g, 0, none⟩ := by injection he0 with he0; exact he0.symm
        clear he0
        rw [Nat.zero_mul, Addr.add_zero'] at hgb0
        have f3 : w5.cell? ⟨g, 0, none⟩ = some (.int .i64 b0.client) := cell_zero (GAuctionBid.at_client hgb0)
        have f4 : w5.cell? ⟨g, 1, none⟩ = some (.int .i64 b0.amount) := by simpa using cell_off (by omega) (GAuctionBid.at_amount hgb0)
        have HK0 := Lib.hid hk0; clear hk0 hgb0
        cases hv : s.vickrey
        · rw [hv] at f1
          go_wp2_with fail
          refine wp_region_G GB [8] GB.rf (by kernel_rfl) ?_
          refine wpG_looks 1 9 [0,1,2,3,4,5,6,7] rfl GB.rf GB.tr (by kernel_rfl) (fun _ _ _ _ hd h => And.intro (hd ▸ And.left h) (And.right h)) rfl (by kernel_rfl) ?_
          intro ι W hne CW
          have hp1 : (0 : Int) < (ys.length : Int) := by omega
          have hp2 : 0 < ys.length := by omega
          have g0 : ∀ z, (W z).cell? ⟨w.heap.size, 0, none⟩ = some (.string s.name) := fun z => (CW.out z).cell f0
          have g1 : ∀ z, (W z).cell? ⟨g, 0, none⟩ = some (.int .i64 b0.client) := fun z => (CW.out z).cell f3
          repeat (refine wpLooksG_step (fun K hK => ?_); go_simp; refine hK _ ?_; clear hK K)
          refine wpLooksG_nil ?_
          clear g0 g1 CW hne W ι
          refine wpG_force 8 _ rfl (by kernel_rfl) rfl fun wa hwa K hK => ?_
          have hR : get? GAuctionResult wa ⟨w.heap.size + 1, 0, none⟩ = some default := by
            refine GB.get hwa.undrew (GX.getS HGX.out (GB.get HB.out ?_) (by show w.heap.size + 1 ≠ g; omega))
            have := get?_new (w := w.alloc (.cells s.enc.toArray 146)) 59 (default : GAuctionResult)
            rw [World.size_alloc] at this
            rw [hw2]; exact this
          have hbz := HB.out.size
          have hF : blkFree wa (w.heap.size + 1) = true := by
            refine GX.free (GX.of_bel hwa.undrew (w.heap.size + 2 + g)) (GX.free HGX.out (GX.free (GX.of_bel HB.out (w.heap.size + 2 + g)) ?_ (by omega) (by omega)) (by omega) (by omega)) (Nat.lt_of_lt_of_le (by omega) HGX.out.size) (by omega)
            rw [hw2]; exact blkFree_new _ _ (by simp [World.size_alloc])
          go_simp
          refine hK _ _ (fun h => absurd (by simp) h) ?_
          clear hK K
          refine wpG_end (by kernel_rfl) (fun wn hwn => ?_) _
          go_wp2
          have hgn : get? GAuctionResult wn ⟨w.heap.size + 1, 0, none⟩ = some ⟨s.name, b0.client, b0.amount⟩ := GB.get hwn (get?_put ⟨s.name, b0.client, b0.amount⟩ hR)
          refine bodyPost_ret (results_cell (x := (⟨s.name, b0.client, b0.amount⟩ : GAuctionResult)) rfl rfl ag59 sz59 hgn) rfl ⟨?_, ?_⟩
          · have hbs := HE.out
            have hl5 : (sortL GAuctionBid.amount ys) = b0 :: (sortL GAuctionBid.amount ys).tail := by
              have := HK0.out
              cases hq : sortL GAuctionBid.amount ys with
              | nil => rw [hq] at this; simp at this
              | cons a r => rw [hq] at this; simp at this; rw [this]; rfl
            rw [hl5] at hbs
            have hxv : x.vickrey = false := by rw [← hv, HS.out]; rfl
            have hsn : s.name = x.name := by rw [HS.out]; rfl
            unfold endR
            rw [hbs]
            simp only [endPrice, hxv, hsn]
            rw [GAuctionResult.val_eq]; rfl
          · have h1 : Below w.heap.size w wr := Below.trans HB2.out (Below.mono HB.out (by omega))
            have h2 : Below w.heap.size w w5 := Below.trans h1 (GX.below HGX.out (by omega) (by omega))
            have h3 : Below w.heap.size w wa := Below.trans h2 (Below.mono hwa.undrew (Below.size h2))
            have h4 := Below_putCells (a := ⟨w.heap.size + 1, 0, none⟩) h3 (by show w.heap.size ≤ w.heap.size + 1; omega) (GAuctionResult.enc ⟨s.name, b0.client, b0.amount⟩)
            exact Below.trans h4 (Below.mono hwn (Below.size h4))
        · rw [hv] at f1
          by_cases h1 : ys.length = 1
          · have hp3 : ¬ (1 : Int) < (ys.length : Int) := by omega
            go_wp2_with fail
            refine wp_region_G GB [8] GB.rf (by kernel_rfl) ?_
            refine wpG_looks 1 9 [0,1,2,3,4,5,6,7] rfl GB.rf GB.tr (by kernel_rfl) (fun _ _ _ _ hd h => And.intro (hd ▸ And.left h) (And.right h)) rfl (by kernel_rfl) ?_
            intro ι W hne CW
            have hp1 : (0 : Int) < (ys.length : Int) := by omega
            have hp2 : 0 < ys.length := by omega
            have g0 : ∀ z, (W z).cell? ⟨w.heap.size, 0, none⟩ = some (.string s.name) := fun z => (CW.out z).cell f0
            have g1 : ∀ z, (W z).cell? ⟨g, 0, none⟩ = some (.int .i64 b0.client) := fun z => (CW.out z).cell f3
            repeat (refine wpLooksG_step (fun K hK => ?_); go_simp; refine hK _ ?_; clear hK K)
            refine wpLooksG_nil ?_
            clear g0 g1 CW hne W ι
            refine wpG_force 8 _ rfl (by kernel_rfl) rfl fun wa hwa K hK => ?_
            have hR : get? GAuctionResult wa ⟨w.heap.size + 1, 0, none⟩ = some default := by
              refine GB.get hwa.undrew (GX.getS HGX.out (GB.get HB.out ?_) (by show w.heap.size + 1 ≠ g; omega))
              have := get?_new (w := w.alloc (.cells s.enc.toArray 146)) 59 (default : GAuctionResult)
              rw [World.size_alloc] at this
              rw [hw2]; exact this
            have hbz := HB.out.size
            have hF : blkFree wa (w.heap.size + 1) = true := by
              refine GX.free (GX.of_bel hwa.undrew (w.heap.size + 2 + g)) (GX.free HGX.out (GX.free (GX.of_bel HB.out (w.heap.size + 2 + g)) ?_ (by omega) (by omega)) (by omega) (by omega)) (Nat.lt_of_lt_of_le (by omega) HGX.out.size) (by omega)
              rw [hw2]; exact blkFree_new _ _ (by simp [World.size_alloc])
            go_simp
            refine hK _ _ (fun h => absurd (by simp) h) ?_
            clear hK K
            refine wpG_end (by kernel_rfl) (fun wn hwn => ?_) _
            go_wp2
            have hgn : get? GAuctionResult wn ⟨w.heap.size + 1, 0, none⟩ = some ⟨s.name, b0.client, x.reserve⟩ := GB.get hwn (get?_put ⟨s.name, b0.client, x.reserve⟩ hR)
            refine bodyPost_ret (results_cell (x := (⟨s.name, b0.client, x.reserve⟩ : GAuctionResult)) rfl rfl ag59 sz59 hgn) rfl ⟨?_, ?_⟩
            · have hbs := HE.out
              have hl5 : (sortL GAuctionBid.amount ys) = b0 :: (sortL GAuctionBid.amount ys).tail := by
                have := HK0.out
                cases hq : sortL GAuctionBid.amount ys with
                | nil => rw [hq] at this; simp at this
                | cons a r => rw [hq] at this; simp at this; rw [this]; rfl
              have ht : (sortL GAuctionBid.amount ys).tail = [] := List.eq_nil_of_length_eq_zero (by rw [List.length_tail, length_sortL]; omega)
              rw [hl5, ht] at hbs
              have hxv : x.vickrey = true := by rw [← hv, HS.out]; rfl
              have hsn : s.name = x.name := by rw [HS.out]; rfl
              unfold endR
              rw [hbs]
              simp only [endPrice, hxv, hsn]
              rw [GAuctionResult.val_eq]; rfl
            · have h1 : Below w.heap.size w wr := Below.trans HB2.out (Below.mono HB.out (by omega))
              have h2 : Below w.heap.size w w5 := Below.trans h1 (GX.below HGX.out (by omega) (by omega))
              have h3 : Below w.heap.size w wa := Below.trans h2 (Below.mono hwa.undrew (Below.size h2))
              have h4 := Below_putCells (a := ⟨w.heap.size + 1, 0, none⟩) h3 (by show w.heap.size ≤ w.heap.size + 1; omega) (GAuctionResult.enc ⟨s.name, b0.client, x.reserve⟩)
              exact Below.trans h4 (Below.mono hwn (Below.size h4))
          · have hp3 : (1 : Int) < (ys.length : Int) := by omega
            obtain ⟨ad1, b1, he1, _, hk1, hgb1⟩ := HS5.out.at_ (k := 1) (by omega)
            obtain rfl : ad1 = ⟨g, 0, none⟩ := by injection he1 with he1; exact he1.symm
            clear he1
            rw [addN] at hgb1
            have f5 : w5.cell? ⟨g, 3, none⟩ = some (.int .i64 b1.amount) := by have := GAuctionBid.at_amount hgb1; rw [addN] at this; exact this
            have HK1 := Lib.hid hk1; clear hk1 hgb1
            go_wp2_with fail
            refine wp_region_G GB [8] GB.rf (by kernel_rfl) ?_
            refine wpG_looks 1 9 [0,1,2,3,4,5,6,7] rfl GB.rf GB.tr (by kernel_rfl) (fun _ _ _ _ hd h => And.intro (hd ▸ And.left h) (And.right h)) rfl (by kernel_rfl) ?_
            intro ι W hne CW
            have hp1 : (0 : Int) < (ys.length : Int) := by omega
            have hp2 : 0 < ys.length := by omega
            have g0 : ∀ z, (W z).cell? ⟨w.heap.size, 0, none⟩ = some (.string s.name) := fun z => (CW.out z).cell f0
            have g1 : ∀ z, (W z).cell? ⟨g, 0, none⟩ = some (.int .i64 b0.client) := fun z => (CW.out z).cell f3
            repeat (refine wpLooksG_step (fun K hK => ?_); go_simp; refine hK _ ?_; clear hK K)
            refine wpLooksG_nil ?_
            clear g0 g1 CW hne W ι
            refine wpG_force 8 _ rfl (by kernel_rfl) rfl fun wa hwa K hK => ?_
            have hR : get? GAuctionResult wa ⟨w.heap.size + 1, 0, none⟩ = some default := by
              refine GB.get hwa.undrew (GX.getS HGX.out (GB.get HB.out ?_) (by show w.heap.size + 1 ≠ g; omega))
              have := get?_new (w := w.alloc (.cells s.enc.toArray 146)) 59 (default : GAuctionResult)
              rw [World.size_alloc] at this
              rw [hw2]; exact this
            have hbz := HB.out.size
            have hF : blkFree wa (w.heap.size + 1) = true := by
              refine GX.free (GX.of_bel hwa.undrew (w.heap.size + 2 + g)) (GX.free HGX.out (GX.free (GX.of_bel HB.out (w.heap.size + 2 + g)) ?_ (by omega) (by omega)) (by omega) (by omega)) (Nat.lt_of_lt_of_le (by omega) HGX.out.size) (by omega)
              rw [hw2]; exact blkFree_new _ _ (by simp [World.size_alloc])
            go_simp
            refine hK _ _ (fun h => absurd (by simp) h) ?_
            clear hK K
            refine wpG_end (by kernel_rfl) (fun wn hwn => ?_) _
            go_wp2
            have hgn : get? GAuctionResult wn ⟨w.heap.size + 1, 0, none⟩ = some ⟨s.name, b0.client, b1.amount⟩ := GB.get hwn (get?_put ⟨s.name, b0.client, b1.amount⟩ hR)
            refine bodyPost_ret (results_cell (x := (⟨s.name, b0.client, b1.amount⟩ : GAuctionResult)) rfl rfl ag59 sz59 hgn) rfl ⟨?_, ?_⟩
            · have hbs := HE.out
              have hl5 : (sortL GAuctionBid.amount ys) = b0 :: (sortL GAuctionBid.amount ys).tail := by
                have := HK0.out
                cases hq : sortL GAuctionBid.amount ys with
                | nil => rw [hq] at this; simp at this
                | cons a r => rw [hq] at this; simp at this; rw [this]; rfl
              have ht : (sortL GAuctionBid.amount ys).tail = b1 :: (sortL GAuctionBid.amount ys).tail.tail := by
                have := HK1.out
                rw [hl5] at this
                cases hq : (sortL GAuctionBid.amount ys).tail with
                | nil => rw [hq] at this; simp at this
                | cons a r => rw [hq] at this; simp at this; rw [this]; rfl
              rw [hl5, ht] at hbs
              have hxv : x.vickrey = true := by rw [← hv, HS.out]; rfl
              have hsn : s.name = x.name := by rw [HS.out]; rfl
              unfold endR
              rw [hbs]
              simp only [endPrice, hxv, hsn]
              rw [GAuctionResult.val_eq]; rfl
            · have h1 : Below w.heap.size w wr := Below.trans HB2.out (Below.mono HB.out (by omega))
              have h2 : Below w.heap.size w w5 := Below.trans h1 (GX.below HGX.out (by omega) (by omega))
              have h3 : Below w.heap.size w wa := Below.trans h2 (Below.mono hwa.undrew (Below.size h2))
              have h4 := Below_putCells (a := ⟨w.heap.size + 1, 0, none⟩) h3 (by show w.heap.size ≤ w.heap.size + 1; omega) (GAuctionResult.enc ⟨s.name, b0.client, b1.amount⟩)
              exact Below.trans h4 (Below.mono hwn (Below.size h4))
end Go.Proofs.Yteockodnfempfaa
