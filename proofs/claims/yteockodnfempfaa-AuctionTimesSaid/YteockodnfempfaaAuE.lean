/- What Bid computes. Conditions: those named in each theorem. -/
import Derived.Test.YteockodnfempfaaAuD
import Derived.Test.YteockodnfempfaaRg4
import Derived.Deep.DeepCutAuto
namespace Go.Proofs.Yteockodnfempfaa
open Go Go.RowKit Go.Gv

def badBid (client amount : Int) : Bool := (decide (amount < 1) || decide (1099511627776 < amount)) || (decide (client < 0) || decide (100 ≤ client))
def bidR (H : MHouse) (name : ByteArray) (client amount now : Int) : Int :=
  match mget H name with
  | none => 6
  | some x => if x.settled = true ∨ x.close < now then 11 else if badBid client amount = true then 1 else if hasBid x.bids client = true then 5 else 0
def MSale.bid (x : MSale) (client amount : Int) : MSale := { x with bids := x.bids ++ [⟨client, amount⟩] }
def bidH (H : MHouse) (name : ByteArray) (client amount now : Int) : MHouse :=
  match mget H name with
  | none => H
  | some x => if bidR H name client amount now = 0 then mset H name (x.bid client amount) else H
def Bidden (w : World) (p : Addr) (r : Nat) (H : MHouse) (name : ByteArray) (client amount now : Int) (e : Ending) (w' : World) : Prop :=
  e = .returned (.int .i64 (bidR H name client amount now)) ∧ HouseIs w' p r (bidH H name client amount now) ∧ GX r w w'
theorem bidden_no {w w' : World} {p : Addr} {r : Nat} {H : MHouse} {name : ByteArray} {client amount now c : Int} (hH : HouseIs w p r H) (hb : Bel w w') (hc : bidR H name client amount now = c) (h0 : c ≠ 0) :
    Bidden w p r H name client amount now (.returned (.int .i64 c)) w' := by
  subst hc
  refine ⟨rfl, ?_, GX.of_bel hb r⟩
  unfold bidH
  split
  · exact hH.step hb
  · rw [if_neg h0]; exact hH.step hb
theorem _root_.Go.Gv.Sl.setCell_ {α : Type} [Enc α] {w : World} {B : Nat} {A : Option Addr} {n : Nat} {xs : List α} (h : Sl α w B A n xs) (p : Addr) (u : Value) (hne : 0 < n → ∀ ad, A = some ad → ad.block ≠ p.block) : Sl α (w.setCell p u) B A n xs := by
  refine ⟨h.1, fun hn => ?_⟩
  obtain ⟨ad, e, hb, hc⟩ := h.2 hn
  exact ⟨ad, e, hb, fun k x hx => (get?_setCell p u (by rw [add_block]; exact hne hn ad e)).trans (hc k x hx)⟩
theorem sale_bids (x : MSale) (h h' : Hdr) : Enc.enc (x.at h') = (Enc.enc (x.at h)).set 4 (.slice h'.a h'.len h'.cap) := rfl

set_option maxRecDepth 100000 in
set_option maxHeartbeats 2000000 in
theorem bid_any (p : Addr) (r : Nat) (H : MHouse) (name : ByteArray) (client amount now : Int) (w : World) (hH : HouseIs w p r H) (hp : p.block ≠ r) (hbig : ∀ x, mget H name = some x → x.bids.length ≤ 1000000) :
    Calls Try.prog 36 #[.pointer (some p), .string name, .int .i64 client, .int .i64 amount, .int .u64 now] w (Bidden w p r H name client amount now) := by
  obtain ⟨hc, m, hm, hr⟩ := hH
  have HH := Lib.hid (show HouseIs w p r H from ⟨hc, m, hm, hr⟩)
  have hrl := mapAt_lt hm
  have hrl2 : r < w.heap.size + 1 := by omega
  have HR := Lib.hid hr; clear hr
  have hcA : ∀ o, (w.alloc o).cell? p = some (.map (some r)) := fun o => GB.cell (GB.al w o) hc
  have hcB : ∀ o o', ((w.alloc o).alloc o').cell? p = some (.map (some r)) := fun o o' => GB.cell (GB.al _ o') (hcA o)
  have HBA := Lib.hid fun (o : Obj) => ((Bel.refl w).alloc (.cells #[.int .i64 client] 3)).alloc o
  rcases HR.out.get name with ⟨hm0, hH0⟩ | ⟨s, x, hms, hHx, hsx⟩
  · have HO := Lib.hid (show bidR H name client amount now = 6 by unfold bidR; rw [hH0])
    clear hH0
    go_enter Try.func36, Try.ntmps36
    go_wp2_with fail
    go_ret
    exact bidden_no HH.out (HBA.out _) HO.out (by decide)
  · obtain ⟨hd, rfl, hsl, hdc, hdm⟩ := hsx
    have hb2 := hbig x hHx
    rw [hsl.1] at hb2
    have HSL := Lib.hid hsl; have HHX := Lib.hid hHx; clear hsl hHx hbig
    unfold maxLen at hdm
    by_cases h11 : x.settled = true ∨ x.close < now
    · have HO := Lib.hid (show bidR H name client amount now = 11 by unfold bidR; rw [HHX.out]; simp only; rw [if_pos h11])
      by_cases hst : x.settled = true
      · have hst2 : (x.at hd).settled = true := hst
        clear h11 hst
        go_enter Try.func36, Try.ntmps36
        go_wp2_with fail
        go_ret
        exact bidden_no HH.out (HBA.out _) HO.out (by decide)
      · have hcl : (x.at hd).close < now := by rcases h11 with h | h; exact absurd h hst; exact h
        have hst2 : (x.at hd).settled = false := Bool.eq_false_iff.2 hst
        clear h11 hst
        go_enter Try.func36, Try.ntmps36
        go_wp2_with fail
        go_ret
        exact bidden_no HH.out (HBA.out _) HO.out (by decide)
    · have hst2 : (x.at hd).settled = false := Bool.eq_false_iff.2 fun h => h11 (.inl h)
      have hcl : ¬ (x.at hd).close < now := fun h => h11 (.inr h)
      have H11 := Lib.hid h11; clear h11
      by_cases hbad : badBid client amount = true
      · have HO := Lib.hid (show bidR H name client amount now = 1 by unfold bidR; rw [HHX.out]; simp only; rw [if_neg H11.out, if_pos hbad])
        unfold badBid at hbad
        simp only [Bool.or_eq_true, decide_eq_true_eq] at hbad
        by_cases h1 : amount < 1
        · clear hbad
          go_enter Try.func36, Try.ntmps36
          go_wp2_with fail
          go_ret
          exact bidden_no HH.out (HBA.out _) HO.out (by decide)
        · by_cases h2 : 1099511627776 < amount
          · clear hbad
            go_enter Try.func36, Try.ntmps36
            go_wp2_with fail
            go_ret
            exact bidden_no HH.out (HBA.out _) HO.out (by decide)
          · by_cases h3 : client < 0
            · clear hbad
              go_enter Try.func36, Try.ntmps36
              go_wp2_with fail
              go_ret
              exact bidden_no HH.out (HBA.out _) HO.out (by decide)
            · have h4 : 100 ≤ client := by omega
              clear hbad
              go_enter Try.func36, Try.ntmps36
              go_wp2_with fail
              go_ret
              exact bidden_no HH.out (HBA.out _) HO.out (by decide)
      · have hnb : ¬ amount < 1 ∧ ¬ 1099511627776 < amount ∧ ¬ client < 0 ∧ ¬ 100 ≤ client := by
          have : badBid client amount = false := by simpa using hbad
          unfold badBid at this
          simp only [Bool.or_eq_false_iff, decide_eq_false_iff_not] at this
          exact ⟨this.1.1, this.1.2, this.2.1, this.2.2⟩
        obtain ⟨h1, h2, h3, h4⟩ := hnb
        have HBD := Lib.hid hbad; clear hbad
        have hcl1 : ∀ o, ((w.alloc (.cells #[.int .i64 client] 3)).alloc o).cell? ⟨w.heap.size, 0, none⟩ = some (.int .i64 client) := fun o => GB.cell (GB.al _ o) (by simp)
        obtain ⟨hb, hhb⟩ : ∃ hb, hasBid x.bids client = hb := ⟨_, rfl⟩
        have HHB := Lib.hid hhb; clear hhb
        cases hb
        · have HO := Lib.hid (show bidR H name client amount now = 0 by unfold bidR; rw [HHX.out]; simp only; rw [if_neg H11.out, if_neg HBD.out, if_neg (by rw [HHB.out]; decide)])
          go_enter Try.func36, Try.ntmps36
          go_wp2_with fail
          refine (hasBid_any false hd.a hd.len hd.cap w.heap.size x.bids client _ HHB.out (HSL.out.stepB (HBA.out _)) (by unfold maxLen; omega) (hcl1 _)).mono ?_
          rintro _ w1 ⟨rfl, hb1⟩
          have hB1 := (HBA.out (.cells (GAuctionSale.enc (x.at hd)).toArray 146)).trans hb1
          have hbox0 := nw146 (w.alloc (.cells #[.int .i64 client] 3)) (w.heap.size + 1) (x.at hd) (by simp)
          have hbox := GB.get hb1 hbox0
          have hfree : blkFree w1 (w.heap.size + 1) = true := (blkFree_keep (hb1.block _ (by simp))).trans (blkFree_new _ _ (by simp))
          have hcl2 := GB.cell hb1 (hcl1 _)
          have hsz1 : w.heap.size + 1 < w1.heap.size := by have := hb1.size; simp at this; omega
          have HB1 := Lib.hid hB1
          have HSL1 := Lib.hid (HSL.out.stepB hB1)
          have hfc : w1.cell? ⟨w.heap.size + 1, 4, none⟩ = some (.slice hd.a hd.len hd.cap) := by
            have h := GAuctionSale.at_bids hbox
            exact cell_off (a := ⟨w.heap.size + 1, 0, none⟩) (by omega) h
          clear hb1 hB1 hbox0 hcl1
          go_upto_region 10 with fail
          go_cut [60] (fun _ wx => ∃ hd' : Hdr, get? GAuctionSale wx ⟨w.heap.size + 1, 0, none⟩ = some (x.at hd') ∧ Sl GAuctionBid wx wx.heap.size hd'.a hd'.len (x.bids ++ [⟨client, amount⟩]) ∧ hd'.len ≤ hd'.cap ∧ hd'.cap ≤ maxLen ∧ Bel w wx)
          case first =>
            go_wp2
            refine wp_region_G GB [7, 9] GB.rf (by kernel_rfl) ?_
            refine wpG_looks 5 10 [0,1,3,4,5] rfl GB.rf GB.tr (by kernel_rfl) (fun _ _ _ _ hd h => And.intro (hd ▸ And.left h) (And.right h)) rfl (by kernel_rfl) ?_
            intro ι W hne CW
            have g0 : ∀ z, (W z).cell? ⟨w.heap.size + 1, 4, none⟩ = some (.slice hd.a hd.len hd.cap) := fun z => (CW.out z).cell hfc
            have g1 : ∀ z, (W z).cell? ⟨w.heap.size, 0, none⟩ = some (.int .i64 client) := fun z => (CW.out z).cell hcl2
            repeat (refine wpLooksG_step (fun K hK => ?_); go_simp; refine hK _ ?_; clear hK K)
            refine wpLooksG_nil ?_
            clear g0 g1 CW hne W ι
            have hlenb : x.bids.length ≤ 1000000 := by rw [HSL1.out.1]; exact hb2
            refine wpG_two 2 6 _ _ rfl rfl (by kernel_rfl) rfl rfl ?_ ?_
            · intro wa hwa K hK
              go_simp
              refine (cloneBid_any hd.a hd.len hd.cap x.bids wa (HSL1.out.stepB hwa.undrew) (by omega)).mono ?_
              rintro _ wb ⟨v, rfl, ho0, hb0⟩
              refine hK _ _ (fun _ => hb0) ?_
              clear hK K
              refine wpG_force 6 _ rfl (by kernel_rfl) rfl fun wc hwc K hK => ?_
              go_simp
              refine hK _ _ (fun _ => GB.al _ _) ?_
              clear hK K
              have hBC : Bel w1 (wc.alloc (.cells (GAuctionBid.enc ⟨client, amount⟩).toArray 151)) := ((hwa.undrew.trans hb0).trans hwc).alloc _
              have ho := (ho0.step hwc).step (GB.al wc (.cells (GAuctionBid.enc ⟨client, amount⟩).toArray 151))
              have hs : Sl GAuctionBid (wc.alloc (.cells (GAuctionBid.enc ⟨client, amount⟩).toArray 151)) (wc.alloc (.cells (GAuctionBid.enc ⟨client, amount⟩).toArray 151)).heap.size (some ⟨wc.heap.size, 0, none⟩) 1 [⟨client, amount⟩] := Sl.new_ (by rw [List.flatMap_cons, List.flatMap_nil, List.append_nil]; rfl) rfl rfl (by simp)
              have hbase : w1.heap.size ≤ wa.heap.size := hwa.undrew.size
              have hbs0 : wa.heap.size ≤ (wc.alloc (.cells (GAuctionBid.enc ⟨client, amount⟩).toArray 151)).heap.size := by have := Below.size hb0; have := Below.size hwc; simp; omega
              refine wpG_force 7 _ rfl (by kernel_rfl) rfl fun wd hwd K hK => ?_
              have hBD := hBC.trans hwd
              have hod := ho.step hwd
              have hsd := hs.stepB hwd
              have hbd := GB.get hBD hbox
              have hlo : x.bids.length ≤ 1000000 := hlenb
              go_simp
              generalize hrun : Sem.run _ (gAppend _ _ _) _ = rr
              obtain ⟨v', we, rfl, ho', hg', hob'⟩ := append_spec hrun ei144 hod hsd (by unfold maxLen; omega) (by omega) (Nat.le_trans hbs0 (Below.size hwd))
              clear hrun
              go_simp
              refine hK _ _ (fun h => absurd (by simp) h) ?_
              clear hK K
              have hlow : ∀ k, v.ownBlock = some k → w1.heap.size ≤ k := fun k hk => Nat.le_trans hbase (hod.lt k hk).1
              have hBE : Bel w1 we := hBD.appS hg' hod hbase
              refine wpG_force 8 _ rfl (by kernel_rfl) rfl fun wf hwf K hK => ?_
              go_simp
              refine hK _ _ (fun _ => GB.rf _) ?_
              clear hK K
              refine wpG_force 9 _ rfl (by kernel_rfl) rfl fun wg hwg K hK => ?_
              have hBG := (hBE.trans hwf).trans hwg
              have hog := (ho'.step hwf).step hwg
              have hbg := GB.get hBG hbox
              have hfg : blkFree wg (w.heap.size + 1) = true := (blkFree_keep (Below.block hBG _ hsz1)).trans hfree
              have hcg := GB.cell hBG hfc
              have hfr := frozen_of_free (a := ⟨w.heap.size + 1, 4, none⟩) hfg
              obtain ⟨A5, c5, rfl, hoa, hc5, hm5⟩ := OwnS.ownA hog
              obtain ⟨q, hq⟩ : ∃ q, (x.bids ++ [(⟨client, amount⟩ : GAuctionBid)]).length = q := ⟨_, rfl⟩
              have hsg := hoa.sl
              have hA5 : ∀ ad, A5 = some ad → w1.heap.size ≤ ad.block := by
                obtain ⟨A', c', hv, _, _, _, hf⟩ := OwnS.shape hog
                injection hv with e1 _ _; subst e1
                exact fun ad ha => Nat.le_trans hbase (hf ad ha).1
              have hbel2 : Bel w (wg.setCell ⟨w.heap.size + 1, 4, none⟩ (.slice A5 q c5)) := (HB1.out.trans hBG).setCell (by simp) _
              rw [hq] at hsg
              simp only [hq] at hc5 ⊢
              have hbox2 : get? GAuctionSale (wg.setCell ⟨w.heap.size + 1, 4, none⟩ (.slice A5 q c5)) ⟨w.heap.size + 1, 0, none⟩ = some (x.at ⟨A5, q, c5⟩) := get?_poke hbg (sale_bids x hd ⟨A5, q, c5⟩)
              have hsl2 : Sl GAuctionBid (wg.setCell ⟨w.heap.size + 1, 4, none⟩ (.slice A5 q c5)) (wg.setCell ⟨w.heap.size + 1, 4, none⟩ (.slice A5 q c5)).heap.size A5 q (x.bids ++ [⟨client, amount⟩]) := by
                have := hsg.setCell_ ⟨w.heap.size + 1, 4, none⟩ (.slice A5 q c5) (fun _ ad ha => by have := hA5 ad ha; simp only; omega)
                simpa using this
              have HX := Lib.hid hbox2; have HY := Lib.hid hsl2; have HZ := Lib.hid hbel2
              clear hbox2 hsl2 hbel2 hsg hoa hog hA5 hbg hfg hBE hlow ho' hg' hob' hod hsd hbd hBD ho hs hBC hlo hlenb hwd hwf hwg hBG
              go_simp
              refine hK _ _ (fun h => absurd (by simp) h) ?_
              clear hK K
              refine wpG_end (by kernel_rfl) (fun wn hwn => ?_) _
              have HR9 := Lib.hid (show ∃ hd' : Hdr, get? GAuctionSale wn ⟨w.heap.size + 1, 0, none⟩ = some (x.at hd') ∧ Sl GAuctionBid wn wn.heap.size hd'.a hd'.len (x.bids ++ [⟨client, amount⟩]) ∧ hd'.len ≤ hd'.cap ∧ hd'.cap ≤ maxLen ∧ Bel w wn from ⟨⟨A5, q, c5⟩, GB.get hwn HX.out, HY.out.stepB hwn, hc5, hm5, HZ.out.trans hwn⟩)
              clear HX HY HZ hwn hcg hfr
              go_wp2
              go_meet
              exact HR9.out
            · intro wa hwa K hK
              go_simp
              refine hK _ _ (fun _ => GB.al _ _) ?_
              clear hK K
              have hs0 : Sl GAuctionBid (wa.alloc (.cells (GAuctionBid.enc ⟨client, amount⟩).toArray 151)) (wa.alloc (.cells (GAuctionBid.enc ⟨client, amount⟩).toArray 151)).heap.size (some ⟨wa.heap.size, 0, none⟩) 1 [⟨client, amount⟩] := Sl.new_ (by rw [List.flatMap_cons, List.flatMap_nil, List.append_nil]; rfl) rfl rfl (by simp)
              refine wpG_force 2 _ rfl (by kernel_rfl) rfl fun wc hwc K hK => ?_
              go_simp
              have hBA : Bel w1 wc := (hwa.undrew.alloc _).trans hwc
              refine (cloneBid_any hd.a hd.len hd.cap x.bids wc (HSL1.out.stepB hBA) (by omega)).mono ?_
              rintro _ wb ⟨v, rfl, ho, hb0⟩
              refine hK _ _ (fun _ => hb0) ?_
              clear hK K
              have hBC : Bel w1 wb := hBA.trans hb0
              have hs := (hs0.stepB hwc).stepB hb0
              have hbase : w1.heap.size ≤ wc.heap.size := hBA.size
              have hbs0 : wc.heap.size ≤ wb.heap.size := Below.size hb0
              clear hs0 hBA hb0 hwc hwa
              refine wpG_force 7 _ rfl (by kernel_rfl) rfl fun wd hwd K hK => ?_
              have hBD := hBC.trans hwd
              have hod := ho.step hwd
              have hsd := hs.stepB hwd
              have hbd := GB.get hBD hbox
              have hlo : x.bids.length ≤ 1000000 := hlenb
              go_simp
              generalize hrun : Sem.run _ (gAppend _ _ _) _ = rr
              obtain ⟨v', we, rfl, ho', hg', hob'⟩ := append_spec hrun ei144 hod hsd (by unfold maxLen; omega) (by omega) (Nat.le_trans hbs0 (Below.size hwd))
              clear hrun
              go_simp
              refine hK _ _ (fun h => absurd (by simp) h) ?_
              clear hK K
              have hlow : ∀ k, v.ownBlock = some k → w1.heap.size ≤ k := fun k hk => Nat.le_trans hbase (hod.lt k hk).1
              have hBE : Bel w1 we := hBD.appS hg' hod hbase
              refine wpG_force 8 _ rfl (by kernel_rfl) rfl fun wf hwf K hK => ?_
              go_simp
              refine hK _ _ (fun _ => GB.rf _) ?_
              clear hK K
              refine wpG_force 9 _ rfl (by kernel_rfl) rfl fun wg hwg K hK => ?_
              have hBG := (hBE.trans hwf).trans hwg
              have hog := (ho'.step hwf).step hwg
              have hbg := GB.get hBG hbox
              have hfg : blkFree wg (w.heap.size + 1) = true := (blkFree_keep (Below.block hBG _ hsz1)).trans hfree
              have hcg := GB.cell hBG hfc
              have hfr := frozen_of_free (a := ⟨w.heap.size + 1, 4, none⟩) hfg
              obtain ⟨A5, c5, rfl, hoa, hc5, hm5⟩ := OwnS.ownA hog
              obtain ⟨q, hq⟩ : ∃ q, (x.bids ++ [(⟨client, amount⟩ : GAuctionBid)]).length = q := ⟨_, rfl⟩
              have hsg := hoa.sl
              have hA5 : ∀ ad, A5 = some ad → w1.heap.size ≤ ad.block := by
                obtain ⟨A', c', hv, _, _, _, hf⟩ := OwnS.shape hog
                injection hv with e1 _ _; subst e1
                exact fun ad ha => Nat.le_trans hbase (hf ad ha).1
              have hbel2 : Bel w (wg.setCell ⟨w.heap.size + 1, 4, none⟩ (.slice A5 q c5)) := (HB1.out.trans hBG).setCell (by simp) _
              rw [hq] at hsg
              simp only [hq] at hc5 ⊢
              have hbox2 : get? GAuctionSale (wg.setCell ⟨w.heap.size + 1, 4, none⟩ (.slice A5 q c5)) ⟨w.heap.size + 1, 0, none⟩ = some (x.at ⟨A5, q, c5⟩) := get?_poke hbg (sale_bids x hd ⟨A5, q, c5⟩)
              have hsl2 : Sl GAuctionBid (wg.setCell ⟨w.heap.size + 1, 4, none⟩ (.slice A5 q c5)) (wg.setCell ⟨w.heap.size + 1, 4, none⟩ (.slice A5 q c5)).heap.size A5 q (x.bids ++ [⟨client, amount⟩]) := by
                have := hsg.setCell_ ⟨w.heap.size + 1, 4, none⟩ (.slice A5 q c5) (fun _ ad ha => by have := hA5 ad ha; simp only; omega)
                simpa using this
              have HX := Lib.hid hbox2; have HY := Lib.hid hsl2; have HZ := Lib.hid hbel2
              clear hbox2 hsl2 hbel2 hsg hoa hog hA5 hbg hfg hBE hlow ho' hg' hob' hod hsd hbd hBD ho hs hBC hlo hlenb hwd hwf hwg hBG
              go_simp
              refine hK _ _ (fun h => absurd (by simp) h) ?_
              clear hK K
              refine wpG_end (by kernel_rfl) (fun wn hwn => ?_) _
              have HR9 := Lib.hid (show ∃ hd' : Hdr, get? GAuctionSale wn ⟨w.heap.size + 1, 0, none⟩ = some (x.at hd') ∧ Sl GAuctionBid wn wn.heap.size hd'.a hd'.len (x.bids ++ [⟨client, amount⟩]) ∧ hd'.len ≤ hd'.cap ∧ hd'.cap ≤ maxLen ∧ Bel w wn from ⟨⟨A5, q, c5⟩, GB.get hwn HX.out, HY.out.stepB hwn, hc5, hm5, HZ.out.trans hwn⟩)
              clear HX HY HZ hwn hcg hfr
              go_wp2
              go_meet
              exact HR9.out
          case rest =>
            obtain ⟨hd', hbx, hsx, hdc', hdm', hbx2⟩ := hcut
            obtain ⟨w5, rfl⟩ : ∃ w5 : World, w5 = wc := ⟨_, rfl⟩
            have HB5 := Lib.hid hbx2; have HSX := Lib.hid hsx
            clear hsx hbx2
            go_wp2
            refine wp_region_G GB [6] GB.rf (by kernel_rfl) ?_
            refine wpG_looks 1 7 [0,1,2,3,4,5] rfl GB.rf GB.tr (by kernel_rfl) (fun _ _ _ _ hd h => And.intro (hd ▸ And.left h) (And.right h)) rfl (by kernel_rfl) ?_
            intro ι W hne CW
            have hc5 := GB.cell HB5.out hc
            have g0 : ∀ z, (W z).cell? p = some (.map (some r)) := fun z => (CW.out z).cell hc5
            have g1 : ∀ z, get? GAuctionSale (W z) ⟨w.heap.size + 1, 0, none⟩ = some (x.at hd') := fun z => (CW.out z).get hbx
            repeat (refine wpLooksG_step (fun K hK => ?_); go_simp; refine hK _ ?_; clear hK K)
            refine wpLooksG_nil ?_
            clear g0 g1 CW hne W ι
            refine wpG_force 6 _ rfl (by kernel_rfl) rfl fun wa hwa K hK => ?_
            have hb := HB5.out.trans hwa.undrew
            have hcp := GB.cell hb hc
            have hmp := (mapAt_below hb hrl).trans hm
            have HP := Lib.hid (houseIs_put (p := p) (k := name) (v := x.at hd') (x := x.bid client amount) hcp hp hmp (HR.out.step hb) ⟨hd', rfl, HSX.out.stepB hwa.undrew, hdc', hdm'⟩)
            have HBB := Lib.hid hb
            clear hb hwa
            go_simp
            refine hK _ _ (fun h => absurd (by simp) h) ?_
            clear hK K
            refine wpG_end (by kernel_rfl) (fun wn hwn => ?_) _
            have HG := Lib.hid (GX.tr _ _ _ (GX.tr _ _ _ (GX.of_bel HBB.out r) HP.out.2) (GX.of_bel hwn r))
            have HP2 := Lib.hid (HP.out.1.step hwn)
            clear HP hwn
            go_wp2
            go_ret
            refine ⟨by rw [HO.out]; rfl, ?_, HG.out⟩
            unfold bidH
            rw [HHX.out]
            simp only
            rw [if_pos HO.out]
            exact HP2.out
        · have HO := Lib.hid (show bidR H name client amount now = 5 by unfold bidR; rw [HHX.out]; simp only; rw [if_neg H11.out, if_neg HBD.out, if_pos HHB.out])
          go_enter Try.func36, Try.ntmps36
          go_wp2_with fail
          refine (hasBid_any true hd.a hd.len hd.cap w.heap.size x.bids client _ HHB.out (HSL.out.stepB (HBA.out _)) (by unfold maxLen; omega) (hcl1 _)).mono ?_
          rintro _ w1 ⟨rfl, hb1⟩
          have HB1 := Lib.hid ((HBA.out _).trans hb1)
          clear hb1
          go_wp2_with fail
          go_ret
          exact bidden_no HH.out HB1.out HO.out (by decide)
end Go.Proofs.Yteockodnfempfaa
