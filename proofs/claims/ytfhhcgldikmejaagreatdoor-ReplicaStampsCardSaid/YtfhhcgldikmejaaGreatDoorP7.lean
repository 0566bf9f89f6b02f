/- What a client signs of a commitment, as the document says it. Conditions: those named in each theorem. -/
import Derived.Test.YtfhhcgldikmejaaGreatDoorP6
import Derived.Test.YtfhhcgldikmejaaGreatDoorP1
import Derived.Test.YtfhhcgldikmejaaGreatDoorP4
/- A stamp that is refused, or was given. Conditions: those named in each theorem. -/
namespace Go.Proofs.YtfhhcgldikmejaaGreatDoor
open Go Go.RowKit Go.Gv Go.Proofs

set_option maxRecDepth 100000 in
set_option maxHeartbeats 8000000 in
theorem stampNo_any (gs ms gb mb : Nat) (c : GConf) (i now floor last : Int) (S : List (GName × GStamp)) (B : MBook) (x : GCommit) (w : World) (h : StampIs w gs ms c i now floor last S) (hb : BookIs w gb mb B) (hok : OkCommit c x) (hby : x.sig.by_ = 1000 + x.name.client) (hr : rightB B ⟨x.sig.by_, strB (commitText x)⟩ x.sig.mark = false) :
    Calls Tryz.prog 95 #[.pointer (some ⟨gs, 0, none⟩), .pointer (some ⟨gb, 0, none⟩), x.val] w fun e w' => e = .returned (.tuple #[GStamp.val default, .int .i64 3]) ∧ Bel w w' := by
  have g1 : get? GCommit ((w.alloc (.cells (GCommit.enc x).toArray 39)).alloc (.cells (GStamp.enc default).toArray 41)) ⟨w.heap.size, 0, none⟩ = some x := get?_alloc _ (get?_new _ _)
  have g2 : get? GStamp ((w.alloc (.cells (GCommit.enc x).toArray 39)).alloc (.cells (GStamp.enc default).toArray 41)) ⟨w.heap.size + 1, 0, none⟩ = some default := by
    have := get?_new (w := w.alloc (.cells (GCommit.enc x).toArray 39)) 41 (default : GStamp)
    rwa [World.size_alloc] at this
  have b2 : blkFree ((w.alloc (.cells (GCommit.enc x).toArray 39)).alloc (.cells (GStamp.enc default).toArray 41)) (w.heap.size + 1) = true := blkFree_new _ _ (by simp)
  have hb0 := ((Bel.refl w).alloc (.cells (GCommit.enc x).toArray 39)).alloc (.cells (GStamp.enc default).toArray 41)
  have HSZ := Lib.hid (show ((w.alloc (.cells (GCommit.enc x).toArray 39)).alloc (.cells (GStamp.enc default).toArray 41)).heap.size = w.heap.size + 2 by simp)
  have HS := Lib.hid (h.step hb0); have HBK := Lib.hid (hb.step hb0); have HOK := Lib.hid hok; have HBY := Lib.hid hby; have HR := Lib.hid hr
  have HLT := Lib.hid (show gs < w.heap.size ∧ ms < w.heap.size ∧ gb < w.heap.size ∧ mb < w.heap.size from ⟨get?_lt h.get, mapAt_lt h.map, hb.ltg, hb.ltm⟩)
  clear h hb hok hby hr
  go_enter Tryz.func95, Tryz.ntmps95
  go_upto_region 1 with fail
  obtain ⟨q, hq⟩ : ∃ q, w.heap.size = q := ⟨_, rfl⟩
  have HQ := Lib.hid hq
  rw [hq] at g1 g2 b2 HSZ HLT ⊢
  generalize (w.alloc (.cells (GCommit.enc x).toArray 39)).alloc (.cells (GStamp.enc default).toArray 41) = wa at g1 g2 b2 hb0 HSZ HS HBK ⊢
  have HB := Lib.hid hb0; have G1 := Lib.hid g1; have G2 := Lib.hid g2; have B2 := Lib.hid b2
  clear g1 g2 b2 hb0 hq
  refine wp_region_G GB [] GB.rf (by kernel_rfl) ?_
  refine wpG_looks 2 22 [0, 1, 2, 3, 4, 5] rfl GB.rf GB.tr (by kernel_rfl) (fun _ _ _ _ hd h => And.intro (hd ▸ And.left h) (And.right h)) rfl (by kernel_rfl) ?_
  intro ι W hne CW
  have CB : ∀ z, Bel wa (W z) := fun z => GB.undrew (CW.out z)
  have k0 : ∀ z, get? GCommit (W z) ⟨q, 0, none⟩ = some x := fun z => GB.get (CB z) G1.out
  have k1 : ∀ z, get? GConf (W z) ⟨gs, 0, none⟩ = some c := fun z => by
    have := GStampStamper.at_c (GB.get (CB z) HS.out.get)
    simpa only [Addr.add_lit, Nat.zero_add] using this
  clear CB
  repeat (refine wpLooksG_step (fun K hK => ?_); go_simp; refine hK _ ?_; clear hK K)
  refine wpLooksG_nil ?_
  clear k0 k1 CW hne W ι
  refine wpG_force 6 _ rfl (by kernel_rfl) rfl fun wc hwc K hK => ?_
  go_simp
  refine (commitRight_any c x gb mb B false wc (HBK.out.step (GB.undrew hwc)) HOK.out HBY.out HR.out).mono ?_
  rintro _ wd ⟨rfl, hbd⟩
  refine hK _ _ (fun _ => hbd) ?_
  have HBD := Lib.hid (Bel.trans (GB.undrew hwc) hbd)
  clear hK K hbd hwc
  refine wpG_force 7 _ rfl (by kernel_rfl) rfl fun we hwe K hK => ?_
  go_simp
  refine hK _ _ (fun _ => GB.rf _) ?_
  clear hK K
  refine wpG_end (by kernel_rfl) (fun wn hwn => ?_) _
  have hbn := HBD.out.trans (GB.tr _ _ _ hwe hwn)
  have HN := Lib.hid (HB.out.trans hbn)
  have GN1 := Lib.hid (GB.get hbn G1.out); have GN2 := Lib.hid (GB.get hbn G2.out); have BN2 := Lib.hid ((blkFree_keep (Below.block hbn _ (get?_lt G2.out))).trans B2.out)
  have HSN := Lib.hid (HS.out.step hbn); have HBKN := Lib.hid (HBK.out.step hbn)
  have HZN := Lib.hid (show q + 2 ≤ wn.heap.size by have := Below.size hbn; have := HSZ.out; omega)
  clear hwe hwn hbn HBD G1 G2 B2 HS HBK HB HSZ
  have g2 := GN2.out
  have b2 := BN2.out
  go_wp2_with fail
  have hend : Bel w (World.putCells wn ⟨q + 1, 0, none⟩ (GStamp.enc default)) := Chg.bel2 HN.out (chg_put (S := fun k => k = q + 1) rfl _) (fun k e => by have := HQ.out; omega)
  refine bodyPost_ret (results_cell_tmp (x := (default : GStamp)) rfl rfl ag41 sz41 (get?_putV _ g2)) rfl ⟨?_, hend⟩
  simp only [GStamp.val_eq]
  rfl
set_option maxRecDepth 100000 in
set_option maxHeartbeats 8000000 in
theorem stampAgain_any (gs ms gb mb : Nat) (c : GConf) (i now floor last : Int) (S : List (GName × GStamp)) (B : MBook) (x : GCommit) (w : World) (h : StampIs w gs ms c i now floor last S) (hb : BookIs w gb mb B) (hok : OkCommit c x) (hby : x.sig.by_ = 1000 + x.name.client) (hr : rightB B ⟨x.sig.by_, strB (commitText x)⟩ x.sig.mark = true) (y : GStamp) (hlk : mget S x.name = some y) (hyh : y.hash = x.hash) :
    Calls Tryz.prog 95 #[.pointer (some ⟨gs, 0, none⟩), .pointer (some ⟨gb, 0, none⟩), x.val] w fun e w' => e = .returned (.tuple #[GStamp.val y, .int .i64 0]) ∧ Bel w w' := by
  have g1 : get? GCommit ((w.alloc (.cells (GCommit.enc x).toArray 39)).alloc (.cells (GStamp.enc default).toArray 41)) ⟨w.heap.size, 0, none⟩ = some x := get?_alloc _ (get?_new _ _)
  have g2 : get? GStamp ((w.alloc (.cells (GCommit.enc x).toArray 39)).alloc (.cells (GStamp.enc default).toArray 41)) ⟨w.heap.size + 1, 0, none⟩ = some default := by
    have := get?_new (w := w.alloc (.cells (GCommit.enc x).toArray 39)) 41 (default : GStamp)
    rwa [World.size_alloc] at this
  have b2 : blkFree ((w.alloc (.cells (GCommit.enc x).toArray 39)).alloc (.cells (GStamp.enc default).toArray 41)) (w.heap.size + 1) = true := blkFree_new _ _ (by simp)
  have hb0 := ((Bel.refl w).alloc (.cells (GCommit.enc x).toArray 39)).alloc (.cells (GStamp.enc default).toArray 41)
  have HSZ := Lib.hid (show ((w.alloc (.cells (GCommit.enc x).toArray 39)).alloc (.cells (GStamp.enc default).toArray 41)).heap.size = w.heap.size + 2 by simp)
  have HS := Lib.hid (h.step hb0); have HBK := Lib.hid (hb.step hb0); have HOK := Lib.hid hok; have HBY := Lib.hid hby; have HR := Lib.hid hr
  have HLT := Lib.hid (show gs < w.heap.size ∧ ms < w.heap.size ∧ gb < w.heap.size ∧ mb < w.heap.size from ⟨get?_lt h.get, mapAt_lt h.map, hb.ltg, hb.ltm⟩)
  have HLKE := Lib.hid hlk; have HYH := Lib.hid hyh
  clear h hb hok hby hr hlk hyh
  go_enter Tryz.func95, Tryz.ntmps95
  go_upto_region 1 with fail
  obtain ⟨q, hq⟩ : ∃ q, w.heap.size = q := ⟨_, rfl⟩
  have HQ := Lib.hid hq
  rw [hq] at g1 g2 b2 HSZ HLT ⊢
  generalize (w.alloc (.cells (GCommit.enc x).toArray 39)).alloc (.cells (GStamp.enc default).toArray 41) = wa at g1 g2 b2 hb0 HSZ HS HBK ⊢
  have HB := Lib.hid hb0; have G1 := Lib.hid g1; have G2 := Lib.hid g2; have B2 := Lib.hid b2
  clear g1 g2 b2 hb0 hq
  refine wp_region_G GB [] GB.rf (by kernel_rfl) ?_
  refine wpG_looks 2 22 [0, 1, 2, 3, 4, 5] rfl GB.rf GB.tr (by kernel_rfl) (fun _ _ _ _ hd h => And.intro (hd ▸ And.left h) (And.right h)) rfl (by kernel_rfl) ?_
  intro ι W hne CW
  have CB : ∀ z, Bel wa (W z) := fun z => GB.undrew (CW.out z)
  have k0 : ∀ z, get? GCommit (W z) ⟨q, 0, none⟩ = some x := fun z => GB.get (CB z) G1.out
  have k1 : ∀ z, get? GConf (W z) ⟨gs, 0, none⟩ = some c := fun z => by
    have := GStampStamper.at_c (GB.get (CB z) HS.out.get)
    simpa only [Addr.add_lit, Nat.zero_add] using this
  clear CB
  repeat (refine wpLooksG_step (fun K hK => ?_); go_simp; refine hK _ ?_; clear hK K)
  refine wpLooksG_nil ?_
  clear k0 k1 CW hne W ι
  refine wpG_force 6 _ rfl (by kernel_rfl) rfl fun wc hwc K hK => ?_
  go_simp
  refine (commitRight_any c x gb mb B true wc (HBK.out.step (GB.undrew hwc)) HOK.out HBY.out HR.out).mono ?_
  rintro _ wd ⟨rfl, hbd⟩
  refine hK _ _ (fun _ => hbd) ?_
  have HBD := Lib.hid (Bel.trans (GB.undrew hwc) hbd)
  clear hK K hbd hwc
  refine wpG_force 7 _ rfl (by kernel_rfl) rfl fun we hwe K hK => ?_
  go_simp
  refine hK _ _ (fun _ => GB.rf _) ?_
  clear hK K
  refine wpG_end (by kernel_rfl) (fun wn hwn => ?_) _
  have hbn := HBD.out.trans (GB.tr _ _ _ hwe hwn)
  have HN := Lib.hid (HB.out.trans hbn)
  have GN1 := Lib.hid (GB.get hbn G1.out); have GN2 := Lib.hid (GB.get hbn G2.out); have BN2 := Lib.hid ((blkFree_keep (Below.block hbn _ (get?_lt G2.out))).trans B2.out)
  have HSN := Lib.hid (HS.out.step hbn); have HBKN := Lib.hid (HBK.out.step hbn)
  have HZN := Lib.hid (show q + 2 ≤ wn.heap.size by have := Below.size hbn; have := HSZ.out; omega)
  clear hwe hwn hbn HBD G1 G2 B2 HS HBK HB HSZ
  go_upto_region 3 with fail
  refine wp_region_H GB (Chg (fun k => wn.heap.size ≤ k)) [11] [] GB.rf (by kernel_rfl) ?_
  refine wpH_looks 3 26 [0, 1, 2, 3, 4, 5, 6, 7, 8, 9] rfl GB.rf GB.tr (Chg.refl _) (fun _ _ _ => Chg.tr) (fun _ _ h => Chg.of_bel h _) (by kernel_rfl) (fun _ _ _ _ hd h => And.intro (hd ▸ And.left h) (And.right h)) rfl (by kernel_rfl) ?_
  intro ι W hne CW
  have CC : ∀ z, Chg (fun k => wn.heap.size ≤ k) wn (W z) := fun z => (Chg.of_bel ((Bel.refl wn).drew) _).tr (CW.out z)
  have k0 : ∀ z, (W z).cell? ⟨gs, 6, none⟩ = some (.map (some ms)) := fun z => by
    have := GStampStamper.at_stamps ((CC z).get HSN.out.get (by have := HLT.out.1; have := HZN.out; simp only; omega))
    simpa only [Addr.add_lit, Nat.zero_add] using this
  have k1 : ∀ z, get? GName (W z) ⟨q, 0, none⟩ = some x.name := fun z => by
    have := GCommit.at_name ((CC z).get GN1.out (by have := HZN.out; simp only; omega))
    simpa only [Addr.add_lit, Nat.zero_add] using this
  have k2 : ∀ z, mapAt GName GStamp (W z) ms = some S := fun z => (CC z).map HSN.out.map (by have := HLT.out.2.1; have := HZN.out; omega)
  have hlk : (mget S x.name) = some y := HLKE.out
  clear CC
  iterate 6 (refine wpLooksG_step (fun K hK => ?_); go_simp; refine hK _ ?_; clear hK K)
  refine wpLooksG_step (fun K hK => ?_)
  go_simp
  refine hK _ ?_
  clear hK K
  iterate 3 (refine wpLooksG_step (fun K hK => ?_); go_simp; refine hK _ ?_; clear hK K)
  refine wpLooksG_nil ?_
  clear k0 k1 k2 hlk CW hne W ι
  refine wpH_force 10 _ rfl (by kernel_rfl) rfl fun w10 hw10 K hK => ?_
  go_simp
  refine hK _ _ (fun _ => GB.al _ _) (fun _ => Chg.of_bel (GB.al _ _) _) ?_
  clear hK K
  have hb10 : Bel wn w10 := GB.undrew hw10
  have c6 := get?_new (w := w10) 41 (default : GStamp)
  have b6 : blkFree (w10.alloc (.cells (GStamp.enc default).toArray 41)) w10.heap.size = true := blkFree_new _ _ rfl
  have hb6 := Bel.trans hb10 ((Bel.refl w10).alloc (.cells (GStamp.enc default).toArray 41))
  have hpw : wn.heap.size ≤ w10.heap.size := Below.size hb10
  obtain ⟨p, hp⟩ : ∃ p, w10.heap.size = p := ⟨_, rfl⟩
  rw [hp] at c6 b6 hpw ⊢
  change wpH _ _ _ _ _ _ _ _ _ _ _ (w10.alloc (.cells (GStamp.enc default).toArray 41))
  generalize w10.alloc (.cells (GStamp.enc default).toArray 41) = wy at c6 b6 hb6 ⊢
  have HPW := Lib.hid hpw; have C6 := Lib.hid c6; have B6 := Lib.hid b6; have HB6 := Lib.hid hb6
  clear c6 b6 hb6 hpw hp hw10 hb10
  refine wpH_force 11 _ rfl (by kernel_rfl) rfl fun w11 hw11 K hK => ?_
  have g6 := GB.get hw11 C6.out
  have f6 := (blkFree_keep (Below.block hw11 _ (get?_lt C6.out))).trans B6.out
  have hb11 : Bel wn w11 := GB.tr _ _ _ HB6.out hw11
  go_simp
  refine hK _ _ (fun h => absurd (by simp) h) (fun _ => chg_put (S := fun k => wn.heap.size ≤ k) HPW.out _) ?_
  clear hK K
  have hput : Chg (fun k => wn.heap.size ≤ k) w11 (World.putCells w11 ⟨p, 0, none⟩ (GStamp.enc y)) := chg_put (S := fun k => wn.heap.size ≤ k) HPW.out _
  have HC := Lib.hid (((Chg.of_bel hb11 (fun k => wn.heap.size ≤ k)).tr hput).bel (fun k e => e))
  have P6 := Lib.hid (show get? GStamp (World.putCells w11 ⟨p, 0, none⟩ (GStamp.enc y)) ⟨p, 0, none⟩ = some y from get?_putV y g6)
  change wpH _ _ _ _ _ _ _ _ _ _ _ (World.putCells w11 ⟨p, 0, none⟩ (GStamp.enc y))
  generalize World.putCells w11 ⟨p, 0, none⟩ (GStamp.enc y) = w5 at hput HC P6 ⊢
  clear hput g6 f6 hb11 hw11 C6 B6 HB6
  refine wpH_force 12 _ rfl (by kernel_rfl) rfl fun w12 hw12 K hK => ?_
  go_simp
  refine hK _ _ (fun _ => GB.rf _) (fun _ => Chg.refl _ _) ?_
  clear hK K
  refine wpH_end (by kernel_rfl) (fun wr hwr => ?_) _
  have hbr := HC.out.trans (GB.tr _ _ _ hw12 hwr)
  have PR := Lib.hid (GB.get (GB.tr _ _ _ hw12 hwr) P6.out)
  have HR2 := Lib.hid (HN.out.trans hbr)
  have GR1 := Lib.hid (GB.get hbr GN1.out); have GR2 := Lib.hid (GB.get hbr GN2.out); have BR2 := Lib.hid ((blkFree_keep (Below.block hbr _ (get?_lt GN2.out))).trans BN2.out)
  have HSR := Lib.hid (HSN.out.step hbr); have HBKR := Lib.hid (HBKN.out.step hbr)
  have HZR := Lib.hid (show q + 2 ≤ wr.heap.size by have := Below.size hbr; have := HZN.out; omega)
  have HPQ := Lib.hid (show q + 2 ≤ p by have := HPW.out; have := HZN.out; omega)
  clear hw12 hwr hbr HC P6 GN1 GN2 BN2 HSN HBKN HZN HN
  have f0 := GStamp.at_hash PR.out
  have f1 := GCommit.at_hash GR1.out
  simp only [Addr.add_lit, Nat.zero_add] at f0 f1
  rw [HYH.out] at f0
  have c8 := PR.out
  have g2 := GR2.out
  have b2 := BR2.out
  go_wp2_with fail
  have hend : Bel w (World.putCells wr ⟨q + 1, 0, none⟩ (GStamp.enc y)) := Chg.bel2 HR2.out (chg_put (S := fun k => k = q + 1) rfl _) (fun k e => by have := HQ.out; omega)
  refine bodyPost_ret (results_cell_tmp (x := y) rfl rfl ag41 sz41 (get?_putV _ g2)) rfl ⟨?_, hend⟩
  simp only [GStamp.val_eq]
  rfl
set_option maxRecDepth 100000 in
set_option maxHeartbeats 8000000 in
theorem stampOther_any (gs ms gb mb : Nat) (c : GConf) (i now floor last : Int) (S : List (GName × GStamp)) (B : MBook) (x : GCommit) (w : World) (h : StampIs w gs ms c i now floor last S) (hb : BookIs w gb mb B) (hok : OkCommit c x) (hby : x.sig.by_ = 1000 + x.name.client) (hr : rightB B ⟨x.sig.by_, strB (commitText x)⟩ x.sig.mark = true) (y : GStamp) (hlk : mget S x.name = some y) (hyh : ¬ y.hash = x.hash) :
    Calls Tryz.prog 95 #[.pointer (some ⟨gs, 0, none⟩), .pointer (some ⟨gb, 0, none⟩), x.val] w fun e w' => e = .returned (.tuple #[GStamp.val default, .int .i64 5]) ∧ Bel w w' := by
  have g1 : get? GCommit ((w.alloc (.cells (GCommit.enc x).toArray 39)).alloc (.cells (GStamp.enc default).toArray 41)) ⟨w.heap.size, 0, none⟩ = some x := get?_alloc _ (get?_new _ _)
  have g2 : get? GStamp ((w.alloc (.cells (GCommit.enc x).toArray 39)).alloc (.cells (GStamp.enc default).toArray 41)) ⟨w.heap.size + 1, 0, none⟩ = some default := by
    have := get?_new (w := w.alloc (.cells (GCommit.enc x).toArray 39)) 41 (default : GStamp)
    rwa [World.size_alloc] at this
  have b2 : blkFree ((w.alloc (.cells (GCommit.enc x).toArray 39)).alloc (.cells (GStamp.enc default).toArray 41)) (w.heap.size + 1) = true := blkFree_new _ _ (by simp)
  have hb0 := ((Bel.refl w).alloc (.cells (GCommit.enc x).toArray 39)).alloc (.cells (GStamp.enc default).toArray 41)
  have HSZ := Lib.hid (show ((w.alloc (.cells (GCommit.enc x).toArray 39)).alloc (.cells (GStamp.enc default).toArray 41)).heap.size = w.heap.size + 2 by simp)
  have HS := Lib.hid (h.step hb0); have HBK := Lib.hid (hb.step hb0); have HOK := Lib.hid hok; have HBY := Lib.hid hby; have HR := Lib.hid hr
  have HLT := Lib.hid (show gs < w.heap.size ∧ ms < w.heap.size ∧ gb < w.heap.size ∧ mb < w.heap.size from ⟨get?_lt h.get, mapAt_lt h.map, hb.ltg, hb.ltm⟩)
  have HLKE := Lib.hid hlk; have HYH := Lib.hid hyh
  clear h hb hok hby hr hlk hyh
  go_enter Tryz.func95, Tryz.ntmps95
  go_upto_region 1 with fail
  obtain ⟨q, hq⟩ : ∃ q, w.heap.size = q := ⟨_, rfl⟩
  have HQ := Lib.hid hq
  rw [hq] at g1 g2 b2 HSZ HLT ⊢
  generalize (w.alloc (.cells (GCommit.enc x).toArray 39)).alloc (.cells (GStamp.enc default).toArray 41) = wa at g1 g2 b2 hb0 HSZ HS HBK ⊢
  have HB := Lib.hid hb0; have G1 := Lib.hid g1; have G2 := Lib.hid g2; have B2 := Lib.hid b2
  clear g1 g2 b2 hb0 hq
  refine wp_region_G GB [] GB.rf (by kernel_rfl) ?_
  refine wpG_looks 2 22 [0, 1, 2, 3, 4, 5] rfl GB.rf GB.tr (by kernel_rfl) (fun _ _ _ _ hd h => And.intro (hd ▸ And.left h) (And.right h)) rfl (by kernel_rfl) ?_
  intro ι W hne CW
  have CB : ∀ z, Bel wa (W z) := fun z => GB.undrew (CW.out z)
  have k0 : ∀ z, get? GCommit (W z) ⟨q, 0, none⟩ = some x := fun z => GB.get (CB z) G1.out
  have k1 : ∀ z, get? GConf (W z) ⟨gs, 0, none⟩ = some c := fun z => by
    have := GStampStamper.at_c (GB.get (CB z) HS.out.get)
    simpa only [Addr.add_lit, Nat.zero_add] using this
  clear CB
  repeat (refine wpLooksG_step (fun K hK => ?_); go_simp; refine hK _ ?_; clear hK K)
  refine wpLooksG_nil ?_
  clear k0 k1 CW hne W ι
  refine wpG_force 6 _ rfl (by kernel_rfl) rfl fun wc hwc K hK => ?_
  go_simp
  refine (commitRight_any c x gb mb B true wc (HBK.out.step (GB.undrew hwc)) HOK.out HBY.out HR.out).mono ?_
  rintro _ wd ⟨rfl, hbd⟩
  refine hK _ _ (fun _ => hbd) ?_
  have HBD := Lib.hid (Bel.trans (GB.undrew hwc) hbd)
  clear hK K hbd hwc
  refine wpG_force 7 _ rfl (by kernel_rfl) rfl fun we hwe K hK => ?_
  go_simp
  refine hK _ _ (fun _ => GB.rf _) ?_
  clear hK K
  refine wpG_end (by kernel_rfl) (fun wn hwn => ?_) _
  have hbn := HBD.out.trans (GB.tr _ _ _ hwe hwn)
  have HN := Lib.hid (HB.out.trans hbn)
  have GN1 := Lib.hid (GB.get hbn G1.out); have GN2 := Lib.hid (GB.get hbn G2.out); have BN2 := Lib.hid ((blkFree_keep (Below.block hbn _ (get?_lt G2.out))).trans B2.out)
  have HSN := Lib.hid (HS.out.step hbn); have HBKN := Lib.hid (HBK.out.step hbn)
  have HZN := Lib.hid (show q + 2 ≤ wn.heap.size by have := Below.size hbn; have := HSZ.out; omega)
  clear hwe hwn hbn HBD G1 G2 B2 HS HBK HB HSZ
  go_upto_region 3 with fail
  refine wp_region_H GB (Chg (fun k => wn.heap.size ≤ k)) [11] [] GB.rf (by kernel_rfl) ?_
  refine wpH_looks 3 26 [0, 1, 2, 3, 4, 5, 6, 7, 8, 9] rfl GB.rf GB.tr (Chg.refl _) (fun _ _ _ => Chg.tr) (fun _ _ h => Chg.of_bel h _) (by kernel_rfl) (fun _ _ _ _ hd h => And.intro (hd ▸ And.left h) (And.right h)) rfl (by kernel_rfl) ?_
  intro ι W hne CW
  have CC : ∀ z, Chg (fun k => wn.heap.size ≤ k) wn (W z) := fun z => (Chg.of_bel ((Bel.refl wn).drew) _).tr (CW.out z)
  have k0 : ∀ z, (W z).cell? ⟨gs, 6, none⟩ = some (.map (some ms)) := fun z => by
    have := GStampStamper.at_stamps ((CC z).get HSN.out.get (by have := HLT.out.1; have := HZN.out; simp only; omega))
    simpa only [Addr.add_lit, Nat.zero_add] using this
  have k1 : ∀ z, get? GName (W z) ⟨q, 0, none⟩ = some x.name := fun z => by
    have := GCommit.at_name ((CC z).get GN1.out (by have := HZN.out; simp only; omega))
    simpa only [Addr.add_lit, Nat.zero_add] using this
  have k2 : ∀ z, mapAt GName GStamp (W z) ms = some S := fun z => (CC z).map HSN.out.map (by have := HLT.out.2.1; have := HZN.out; omega)
  have hlk : (mget S x.name) = some y := HLKE.out
  clear CC
  iterate 6 (refine wpLooksG_step (fun K hK => ?_); go_simp; refine hK _ ?_; clear hK K)
  refine wpLooksG_step (fun K hK => ?_)
  go_simp
  refine hK _ ?_
  clear hK K
  iterate 3 (refine wpLooksG_step (fun K hK => ?_); go_simp; refine hK _ ?_; clear hK K)
  refine wpLooksG_nil ?_
  clear k0 k1 k2 hlk CW hne W ι
  refine wpH_force 10 _ rfl (by kernel_rfl) rfl fun w10 hw10 K hK => ?_
  go_simp
  refine hK _ _ (fun _ => GB.al _ _) (fun _ => Chg.of_bel (GB.al _ _) _) ?_
  clear hK K
  have hb10 : Bel wn w10 := GB.undrew hw10
  have c6 := get?_new (w := w10) 41 (default : GStamp)
  have b6 : blkFree (w10.alloc (.cells (GStamp.enc default).toArray 41)) w10.heap.size = true := blkFree_new _ _ rfl
  have hb6 := Bel.trans hb10 ((Bel.refl w10).alloc (.cells (GStamp.enc default).toArray 41))
  have hpw : wn.heap.size ≤ w10.heap.size := Below.size hb10
  obtain ⟨p, hp⟩ : ∃ p, w10.heap.size = p := ⟨_, rfl⟩
  rw [hp] at c6 b6 hpw ⊢
  change wpH _ _ _ _ _ _ _ _ _ _ _ (w10.alloc (.cells (GStamp.enc default).toArray 41))
  generalize w10.alloc (.cells (GStamp.enc default).toArray 41) = wy at c6 b6 hb6 ⊢
  have HPW := Lib.hid hpw; have C6 := Lib.hid c6; have B6 := Lib.hid b6; have HB6 := Lib.hid hb6
  clear c6 b6 hb6 hpw hp hw10 hb10
  refine wpH_force 11 _ rfl (by kernel_rfl) rfl fun w11 hw11 K hK => ?_
  have g6 := GB.get hw11 C6.out
  have f6 := (blkFree_keep (Below.block hw11 _ (get?_lt C6.out))).trans B6.out
  have hb11 : Bel wn w11 := GB.tr _ _ _ HB6.out hw11
  go_simp
  refine hK _ _ (fun h => absurd (by simp) h) (fun _ => chg_put (S := fun k => wn.heap.size ≤ k) HPW.out _) ?_
  clear hK K
  have hput : Chg (fun k => wn.heap.size ≤ k) w11 (World.putCells w11 ⟨p, 0, none⟩ (GStamp.enc y)) := chg_put (S := fun k => wn.heap.size ≤ k) HPW.out _
  have HC := Lib.hid (((Chg.of_bel hb11 (fun k => wn.heap.size ≤ k)).tr hput).bel (fun k e => e))
  have P6 := Lib.hid (show get? GStamp (World.putCells w11 ⟨p, 0, none⟩ (GStamp.enc y)) ⟨p, 0, none⟩ = some y from get?_putV y g6)
  change wpH _ _ _ _ _ _ _ _ _ _ _ (World.putCells w11 ⟨p, 0, none⟩ (GStamp.enc y))
  generalize World.putCells w11 ⟨p, 0, none⟩ (GStamp.enc y) = w5 at hput HC P6 ⊢
  clear hput g6 f6 hb11 hw11 C6 B6 HB6
  refine wpH_force 12 _ rfl (by kernel_rfl) rfl fun w12 hw12 K hK => ?_
  go_simp
  refine hK _ _ (fun _ => GB.rf _) (fun _ => Chg.refl _ _) ?_
  clear hK K
  refine wpH_end (by kernel_rfl) (fun wr hwr => ?_) _
  have hbr := HC.out.trans (GB.tr _ _ _ hw12 hwr)
  have PR := Lib.hid (GB.get (GB.tr _ _ _ hw12 hwr) P6.out)
  have HR2 := Lib.hid (HN.out.trans hbr)
  have GR1 := Lib.hid (GB.get hbr GN1.out); have GR2 := Lib.hid (GB.get hbr GN2.out); have BR2 := Lib.hid ((blkFree_keep (Below.block hbr _ (get?_lt GN2.out))).trans BN2.out)
  have HSR := Lib.hid (HSN.out.step hbr); have HBKR := Lib.hid (HBKN.out.step hbr)
  have HZR := Lib.hid (show q + 2 ≤ wr.heap.size by have := Below.size hbr; have := HZN.out; omega)
  have HPQ := Lib.hid (show q + 2 ≤ p by have := HPW.out; have := HZN.out; omega)
  clear hw12 hwr hbr HC P6 GN1 GN2 BN2 HSN HBKN HZN HN
  have f0 := GStamp.at_hash PR.out
  have f1 := GCommit.at_hash GR1.out
  simp only [Addr.add_lit, Nat.zero_add] at f0 f1
  have hne := HYH.out
  have g2 := GR2.out
  have b2 := BR2.out
  go_wp2_with fail
  have hend : Bel w (World.putCells wr ⟨q + 1, 0, none⟩ (GStamp.enc default)) := Chg.bel2 HR2.out (chg_put (S := fun k => k = q + 1) rfl _) (fun k e => by have := HQ.out; omega)
  refine bodyPost_ret (results_cell_tmp (x := (default : GStamp)) rfl rfl ag41 sz41 (get?_putV _ g2)) rfl ⟨?_, hend⟩
  simp only [GStamp.val_eq]
  rfl
end Go.Proofs.YtfhhcgldikmejaaGreatDoor
/- A new key's entry in a map, and what is stored into it. Conditions: those named in each theorem. -/
namespace Go.Gv
open Go Go.RowKit
variable {P : Program} {K V : Type} [DecidableEq K] [KEnc K] [VEnc V] {tM tK tV : TypeId}
theorem run_entry_new (L : KeyLaws P tK K) (hM : P.underlying tM = some (.map tK tV)) {z : Value} (hz : zeroT P tV = some z) {w : World} {r : Nat} {m : List (K × V)} (h : mapAt K V w r = some m) (k : K) (hk : k ∉ m.map (·.1)) :
    ∃ (c : Nat) (o : Obj), (Instr.mapEntry tM (.map (some r)) (KEnc.kv k)).run P w = .ok (.tuple #[z, .int .i64 (c : Int)]) { w with heap := w.heap.setIfInBounds r o } ∧ r < w.heap.size ∧
      ∀ w2 : World, w2.heap[r]? = some o → ∀ v : V, ∃ o2 : Obj, (Instr.entryStore tM (.map (some r)) (.int .i64 (c : Int)) (VEnc.vv v)).run P w2 = .ok () { w2 with heap := w2.heap.setIfInBounds r o2 } ∧ MapIs { w2 with heap := w2.heap.setIfInBounds r o2 } r (m ++ [(k, v)]) := by
  obtain ⟨es, c, hb, he, hn, hp, hc⟩ := mapAt_iff.1 h
  have hlt : r < w.heap.size := (Array.getElem?_eq_some_iff.1 hb).1
  have hkk : es.toList.map (·.key) = (m.map (·.1)).map KEnc.kv := by
    have := congrArg (List.map Prod.fst) he
    simpa [List.map_map, Function.comp_def] using this
  have hf := L.fnd k es.toList (m.map (·.1)) w hkk
  have hg : (getObj r).run P w = .ok (.map es c) w := by simp [getObj, Sem.run, hb]
  have hs : ∀ o, (setObj r o).run P w = .ok () { w with heap := w.heap.setIfInBounds r o } := fun o => by simp [setObj, Sem.run, hb]
  refine ⟨c, .map (es.push { key := KEnc.kv k, val := z, born := c }) (c + 1), ?_, hlt, fun w2 h2 v => ?_⟩
  · simp only [Instr.mapEntry, Sem.run_bind, run_underlying hM, Result.andThen_ok, hg, L.chk, hf, findIdx_none hk, Option.bind_none, run_zeroValue hz, hs, Sem.run_pure]
    rfl
  · have hlt2 : r < w2.heap.size := (Array.getElem?_eq_some_iff.1 h2).1
    have hg2 : (getObj r).run P w2 = .ok (.map (es.push { key := KEnc.kv k, val := z, born := c }) (c + 1)) w2 := by simp [getObj, Sem.run, h2]
    have hs2 : ∀ o, (setObj r o).run P w2 = .ok () { w2 with heap := w2.heap.setIfInBounds r o } := fun o => by simp [setObj, Sem.run, h2]
    have hfi : (es.push { key := KEnc.kv k, val := z, born := c }).findIdx? (fun e => (e.born : Int) == (c : Int)) = some es.size := by
      rw [Array.findIdx?_eq_some_iff_getElem]
      refine ⟨by simp, by simp, fun j hj => ?_⟩
      rw [Array.getElem_push_lt hj]
      have := hc es[j] (by rw [← Array.mem_def]; exact Array.getElem_mem hj)
      simp; omega
    refine ⟨.map ((es.push { key := KEnc.kv k, val := z, born := c }).modify es.size fun e => { e with val := VEnc.vv v }) (c + 1), ?_, ?_⟩
    · simp [Instr.entryStore, hg2, asInt, asIntOf, hfi, hs2]
    · have hm : (es.push { key := KEnc.kv k, val := z, born := c }).modify es.size (fun e => { e with val := VEnc.vv v }) = es.push { key := KEnc.kv k, val := VEnc.vv v, born := c } := by
        apply Array.ext
        · simp
        · intro i h1 h2
          simp only [Array.getElem_modify, Array.getElem_push]
          by_cases hi : es.size = i
          · subst hi; simp
          · have : i < es.size := by simp at h1; omega
            simp [hi, this]
      rw [hm]
      refine ⟨es.push { key := KEnc.kv k, val := VEnc.vv v, born := c }, c + 1, by simp [hlt2], ?_, ?_, ?_, ?_⟩
      · simp [he]
      · rw [List.map_append, List.map_singleton, List.nodup_append]
        exact ⟨hn, by simp, by intro a ha b hb2; simp at hb2; subst hb2; exact fun e => hk (e ▸ ha)⟩
      · simp only [Array.toList_push]
        rw [List.pairwise_append]
        exact ⟨hp, by simp, by intro a ha b hb2; simp at hb2; subst hb2; exact hc a ha⟩
      · intro e hem
        simp only [Array.toList_push, List.mem_append, List.mem_singleton] at hem
        rcases hem with hem | rfl
        · exact Nat.lt_succ_of_lt (hc e hem)
        · exact Nat.lt_succ_self _
end Go.Gv
/- A new stamp. Conditions: those named in each theorem. -/
namespace Go.Proofs.YtfhhcgldikmejaaGreatDoor
open Go Go.RowKit Go.Gv Go.Proofs

@[go_sem ↓ high] theorem run_max3 (P : Program) (w : World) (ts : Array TypeId) (t : TypeId) (k1 k2 k3 : IntKind) (a b c : Int) : (Builtin.max_ ts t #[.int k1 a, .int k2 b, .int k3 c]).run P w = .ok (.int k1 (max a (max b c))) w := by
  have h2 := run_max_int2 (P := P) (w := w) ts t k1 k2 a b
  have h3 := run_max_int2 (P := P) (w := w) ts t k1 k3 (if a < b then b else a) c
  simp only [Builtin.max_, List.foldlM_cons, List.foldlM_nil, bind_pure] at h2 h3 ⊢
  simp only [Sem.run_bind, h2, Result.andThen_ok, h3]
  congr 2
  split <;> split <;> omega
/-- What may come between two operations while a field and a map are written: the field that holds the map stays. -/
def KeepMap (gs ms : Nat) (w w' : World) : Prop := Chg (fun k => k = gs ∨ k = ms) w w' ∧ (gs < w.heap.size → w'.cell? ⟨gs, 6, none⟩ = w.cell? ⟨gs, 6, none⟩)
theorem cell_of_block {w w' : World} {p : Addr} (h : w'.heap[p.block]? = w.heap[p.block]?) : w'.cell? p = w.cell? p := by unfold World.cell?; rw [h]
theorem KeepMap.rf {gs ms : Nat} (w : World) : KeepMap gs ms w w := ⟨Chg.refl _ _, fun _ => rfl⟩
theorem KeepMap.tr {gs ms : Nat} {a b c : World} (h : KeepMap gs ms a b) (k : KeepMap gs ms b c) : KeepMap gs ms a c := ⟨h.1.tr k.1, fun hg => (k.2 (Nat.lt_of_lt_of_le hg h.1.size)).trans (h.2 hg)⟩
theorem KeepMap.of_bel {gs ms : Nat} {a b : World} (h : Bel a b) : KeepMap gs ms a b := ⟨Chg.of_bel h _, fun hg => Below.cell h (p := ⟨gs, 6, none⟩) hg⟩
theorem chg_setHeap (w : World) (r : Nat) (o : Obj) : Chg (fun k => k = r) w { w with heap := w.heap.setIfInBounds r o } :=
  ⟨rfl, rfl, rfl, by simp, fun k _ hk => by
    show (w.heap.setIfInBounds r o)[k]? = _
    rw [Array.getElem?_setIfInBounds, if_neg (fun e => hk e.symm)]⟩
def stampY (i : Int) (x : GCommit) (tm : Nat) (mk : Int) : GStamp := ⟨i, x.name, x.hash, tm, ⟨i, mk⟩⟩
def bareS (i : Int) (x : GCommit) (tm : Nat) : GStamp := ⟨i, x.name, x.hash, tm, default⟩
theorem stamp_sig (x : GStamp) (s : GSig) : Enc.enc ({ x with sig := s } : GStamp) = setSeg (Enc.enc x) 36 (GSig.enc s) := by
  have := setSeg_mid (GSig.enc s) (GSig.enc x.sig) ([.int .i64 x.replica] ++ (x.name.enc ++ (x.hash.enc ++ [.int .u64 x.time]))) [] (by rw [GSig.enc_len, GSig.enc_len])
  have hl : ([Value.int .i64 x.replica] ++ (x.name.enc ++ (x.hash.enc ++ [Value.int .u64 x.time]))).length = 36 := by simp [GName.enc_len, GHash.enc_len]
  rw [hl] at this
  show GStamp.enc _ = setSeg (GStamp.enc _) 36 _
  simp only [GStamp.enc]
  simpa using this.symm
def keyS (i : Int) (x : GCommit) (tm : Nat) : GBookSigned := ⟨i, strB (stampText tm (bareS i x tm))⟩
set_option maxRecDepth 100000 in
set_option maxHeartbeats 8000000 in
theorem stampGive_any (gs ms gb mb : Nat) (c : GConf) (i now floor last : Int) (S : List (GName × GStamp)) (B : MBook) (x : GCommit) (w : World) (h : StampIs w gs ms c i now floor last S) (hb : BookIs w gb mb B) (hok : OkCommit c x) (hby : x.sig.by_ = 1000 + x.name.client) (hr : rightB B ⟨x.sig.by_, strB (commitText x)⟩ x.sig.mark = true) (hlk : mget S x.name = none) (hn0 : 0 ≤ now) (hn1 : now ≤ 1000000000) (hf0 : 0 ≤ floor) (hf1 : floor ≤ 1000000000) (hl0 : 0 ≤ last) (hl1 : last ≤ 1000000000) (hi0 : i ≤ 1000000) (hne0 : ¬ gs = mb ∧ ¬ ms = mb ∧ ¬ gb = gs ∧ ¬ gb = ms ∧ ¬ mb = gs ∧ ¬ mb = ms) (hBl : B.length ≤ 1000000000) (tm : Nat) (htm : (tm : Int) = max now (max (floor + 1) (last + 1))) :
    Calls Tryz.prog 95 #[.pointer (some ⟨gs, 0, none⟩), .pointer (some ⟨gb, 0, none⟩), x.val] w fun e w' => e = .returned (.tuple #[GStamp.val (stampY i x tm (markOf B (keyS i x tm))), .int .i64 0]) ∧ BookIs w' gb mb (signB B (keyS i x tm)) ∧ StampIs w' gs ms c i now floor tm (S ++ [(x.name, stampY i x tm (markOf B (keyS i x tm)))]) ∧ Chg (fun k => k = mb ∨ k = gs ∨ k = ms) w w' := by
  have g1 : get? GCommit ((w.alloc (.cells (GCommit.enc x).toArray 39)).alloc (.cells (GStamp.enc default).toArray 41)) ⟨w.heap.size, 0, none⟩ = some x := get?_alloc _ (get?_new _ _)
  have g2 : get? GStamp ((w.alloc (.cells (GCommit.enc x).toArray 39)).alloc (.cells (GStamp.enc default).toArray 41)) ⟨w.heap.size + 1, 0, none⟩ = some default := by
    have := get?_new (w := w.alloc (.cells (GCommit.enc x).toArray 39)) 41 (default : GStamp)
    rwa [World.size_alloc] at this
  have b2 : blkFree ((w.alloc (.cells (GCommit.enc x).toArray 39)).alloc (.cells (GStamp.enc default).toArray 41)) (w.heap.size + 1) = true := blkFree_new _ _ (by simp)
  have hb0 := ((Bel.refl w).alloc (.cells (GCommit.enc x).toArray 39)).alloc (.cells (GStamp.enc default).toArray 41)
  have HSZ := Lib.hid (show ((w.alloc (.cells (GCommit.enc x).toArray 39)).alloc (.cells (GStamp.enc default).toArray 41)).heap.size = w.heap.size + 2 by simp)
  have HS := Lib.hid (h.step hb0); have HBK := Lib.hid (hb.step hb0); have HOK := Lib.hid hok; have HBY := Lib.hid hby; have HR := Lib.hid hr
  have HLT := Lib.hid (show gs < w.heap.size ∧ ms < w.heap.size ∧ gb < w.heap.size ∧ mb < w.heap.size from ⟨get?_lt h.get, mapAt_lt h.map, hb.ltg, hb.ltm⟩)
  have HLKE := Lib.hid hlk; have HTM := Lib.hid htm; have HB9 := Lib.hid (And.intro hBl hi0); have HNE := Lib.hid hne0
  clear h hb hok hby hr hlk htm hBl hi0 hne0
  go_enter Tryz.func95, Tryz.ntmps95
  go_upto_region 1 with fail
  obtain ⟨q, hq⟩ : ∃ q, w.heap.size = q := ⟨_, rfl⟩
  have HQ := Lib.hid hq
  rw [hq] at g1 g2 b2 HSZ HLT ⊢
  generalize (w.alloc (.cells (GCommit.enc x).toArray 39)).alloc (.cells (GStamp.enc default).toArray 41) = wa at g1 g2 b2 hb0 HSZ HS HBK ⊢
  have HB := Lib.hid hb0; have G1 := Lib.hid g1; have G2 := Lib.hid g2; have B2 := Lib.hid b2
  clear g1 g2 b2 hb0 hq
  refine wp_region_G GB [] GB.rf (by kernel_rfl) ?_
  refine wpG_looks 2 22 [0, 1, 2, 3, 4, 5] rfl GB.rf GB.tr (by kernel_rfl) (fun _ _ _ _ hd h => And.intro (hd ▸ And.left h) (And.right h)) rfl (by kernel_rfl) ?_
  intro ι W hne CW
  have CB : ∀ z, Bel wa (W z) := fun z => GB.undrew (CW.out z)
  have k0 : ∀ z, get? GCommit (W z) ⟨q, 0, none⟩ = some x := fun z => GB.get (CB z) G1.out
  have k1 : ∀ z, get? GConf (W z) ⟨gs, 0, none⟩ = some c := fun z => by
    have := GStampStamper.at_c (GB.get (CB z) HS.out.get)
    simpa only [Addr.add_lit, Nat.zero_add] using this
  clear CB
  repeat (refine wpLooksG_step (fun K hK => ?_); go_simp; refine hK _ ?_; clear hK K)
  refine wpLooksG_nil ?_
  clear k0 k1 CW hne W ι
  refine wpG_force 6 _ rfl (by kernel_rfl) rfl fun wc hwc K hK => ?_
  go_simp
  refine (commitRight_any c x gb mb B true wc (HBK.out.step (GB.undrew hwc)) HOK.out HBY.out HR.out).mono ?_
  rintro _ wd ⟨rfl, hbd⟩
  refine hK _ _ (fun _ => hbd) ?_
  have HBD := Lib.hid (Bel.trans (GB.undrew hwc) hbd)
  clear hK K hbd hwc
  refine wpG_force 7 _ rfl (by kernel_rfl) rfl fun we hwe K hK => ?_
  go_simp
  refine hK _ _ (fun _ => GB.rf _) ?_
  clear hK K
  refine wpG_end (by kernel_rfl) (fun wn hwn => ?_) _
  have hbn := HBD.out.trans (GB.tr _ _ _ hwe hwn)
  have HN := Lib.hid (HB.out.trans hbn)
  have GN1 := Lib.hid (GB.get hbn G1.out); have GN2 := Lib.hid (GB.get hbn G2.out); have BN2 := Lib.hid ((blkFree_keep (Below.block hbn _ (get?_lt G2.out))).trans B2.out)
  have HSN := Lib.hid (HS.out.step hbn); have HBKN := Lib.hid (HBK.out.step hbn)
  have HZN := Lib.hid (show q + 2 ≤ wn.heap.size by have := Below.size hbn; have := HSZ.out; omega)
  clear hwe hwn hbn HBD G1 G2 B2 HS HBK HB HSZ
  go_upto_region 3 with fail
  refine wp_region_H GB (Chg (fun k => wn.heap.size ≤ k)) [11] [] GB.rf (by kernel_rfl) ?_
  refine wpH_looks 3 26 [0, 1, 2, 3, 4, 5, 6, 7, 8, 9] rfl GB.rf GB.tr (Chg.refl _) (fun _ _ _ => Chg.tr) (fun _ _ h => Chg.of_bel h _) (by kernel_rfl) (fun _ _ _ _ hd h => And.intro (hd ▸ And.left h) (And.right h)) rfl (by kernel_rfl) ?_
  intro ι W hne CW
  have CC : ∀ z, Chg (fun k => wn.heap.size ≤ k) wn (W z) := fun z => (Chg.of_bel ((Bel.refl wn).drew) _).tr (CW.out z)
  have k0 : ∀ z, (W z).cell? ⟨gs, 6, none⟩ = some (.map (some ms)) := fun z => by
    have := GStampStamper.at_stamps ((CC z).get HSN.out.get (by have := HLT.out.1; have := HZN.out; simp only; omega))
    simpa only [Addr.add_lit, Nat.zero_add] using this
  have k1 : ∀ z, get? GName (W z) ⟨q, 0, none⟩ = some x.name := fun z => by
    have := GCommit.at_name ((CC z).get GN1.out (by have := HZN.out; simp only; omega))
    simpa only [Addr.add_lit, Nat.zero_add] using this
  have k2 : ∀ z, mapAt GName GStamp (W z) ms = some S := fun z => (CC z).map HSN.out.map (by have := HLT.out.2.1; have := HZN.out; omega)
  have hlk : (mget S x.name) = none := HLKE.out
  clear CC
  iterate 6 (refine wpLooksG_step (fun K hK => ?_); go_simp; refine hK _ ?_; clear hK K)
  refine wpLooksG_step (fun K hK => ?_)
  go_simp
  refine hK _ ?_
  clear hK K
  iterate 3 (refine wpLooksG_step (fun K hK => ?_); go_simp; refine hK _ ?_; clear hK K)
  refine wpLooksG_nil ?_
  clear k0 k1 k2 hlk CW hne W ι
  refine wpH_force 10 _ rfl (by kernel_rfl) rfl fun w10 hw10 K hK => ?_
  go_simp
  refine hK _ _ (fun _ => GB.al _ _) (fun _ => Chg.of_bel (GB.al _ _) _) ?_
  clear hK K
  have hb10 : Bel wn w10 := GB.undrew hw10
  have c6 := get?_new (w := w10) 41 (default : GStamp)
  have b6 : blkFree (w10.alloc (.cells (GStamp.enc default).toArray 41)) w10.heap.size = true := blkFree_new _ _ rfl
  have hb6 := Bel.trans hb10 ((Bel.refl w10).alloc (.cells (GStamp.enc default).toArray 41))
  have hpw : wn.heap.size ≤ w10.heap.size := Below.size hb10
  obtain ⟨p, hp⟩ : ∃ p, w10.heap.size = p := ⟨_, rfl⟩
  rw [hp] at c6 b6 hpw ⊢
  change wpH _ _ _ _ _ _ _ _ _ _ _ (w10.alloc (.cells (GStamp.enc default).toArray 41))
  generalize w10.alloc (.cells (GStamp.enc default).toArray 41) = wy at c6 b6 hb6 ⊢
  have HPW := Lib.hid hpw; have C6 := Lib.hid c6; have B6 := Lib.hid b6; have HB6 := Lib.hid hb6
  clear c6 b6 hb6 hpw hp hw10 hb10
  refine wpH_force 11 _ rfl (by kernel_rfl) rfl fun w11 hw11 K hK => ?_
  have g6 := GB.get hw11 C6.out
  have f6 := (blkFree_keep (Below.block hw11 _ (get?_lt C6.out))).trans B6.out
  have hb11 : Bel wn w11 := GB.tr _ _ _ HB6.out hw11
  go_simp
  refine hK _ _ (fun h => absurd (by simp) h) (fun _ => chg_put (S := fun k => wn.heap.size ≤ k) HPW.out _) ?_
  clear hK K
  have hput : Chg (fun k => wn.heap.size ≤ k) w11 (World.putCells w11 ⟨p, 0, none⟩ (GStamp.enc (default : GStamp))) := chg_put (S := fun k => wn.heap.size ≤ k) HPW.out _
  have HC := Lib.hid (((Chg.of_bel hb11 (fun k => wn.heap.size ≤ k)).tr hput).bel (fun k e => e))
  have P6 := Lib.hid (show get? GStamp (World.putCells w11 ⟨p, 0, none⟩ (GStamp.enc (default : GStamp))) ⟨p, 0, none⟩ = some (default : GStamp) from get?_putV (default : GStamp) g6)
  change wpH _ _ _ _ _ _ _ _ _ _ _ (World.putCells w11 ⟨p, 0, none⟩ (GStamp.enc (default : GStamp)))
  generalize World.putCells w11 ⟨p, 0, none⟩ (GStamp.enc (default : GStamp)) = w5 at hput HC P6 ⊢
  clear hput g6 f6 hb11 hw11 C6 B6 HB6
  refine wpH_force 12 _ rfl (by kernel_rfl) rfl fun w12 hw12 K hK => ?_
  go_simp
  refine hK _ _ (fun _ => GB.rf _) (fun _ => Chg.refl _ _) ?_
  clear hK K
  refine wpH_end (by kernel_rfl) (fun wr hwr => ?_) _
  have hbr := HC.out.trans (GB.tr _ _ _ hw12 hwr)
  have PR := Lib.hid (GB.get (GB.tr _ _ _ hw12 hwr) P6.out)
  have HR2 := Lib.hid (HN.out.trans hbr)
  have GR1 := Lib.hid (GB.get hbr GN1.out); have GR2 := Lib.hid (GB.get hbr GN2.out); have BR2 := Lib.hid ((blkFree_keep (Below.block hbr _ (get?_lt GN2.out))).trans BN2.out)
  have HSR := Lib.hid (HSN.out.step hbr); have HBKR := Lib.hid (HBKN.out.step hbr)
  have HZR := Lib.hid (show q + 2 ≤ wr.heap.size by have := Below.size hbr; have := HZN.out; omega)
  have HPQ := Lib.hid (show q + 2 ≤ p by have := HPW.out; have := HZN.out; omega)
  clear hw12 hwr hbr HC P6 GN1 GN2 BN2 HSN HBKN HZN HN
  have e1 : IntKind.u64.wrap (floor + 1) = floor + 1 := IntWalk.u64_in _ (by omega)
  have e2 : IntKind.u64.wrap (last + 1) = last + 1 := IntWalk.u64_in _ (by omega)
  go_upto_region 8 with fail
  refine wp_region_G GB [] GB.rf (by kernel_rfl) ?_
  refine wpG_looks 0 22 [0, 1, 2, 3, 4, 5, 6, 7, 8, 9, 10, 11, 12, 13, 14, 15] rfl GB.rf GB.tr (by kernel_rfl) (fun _ _ _ _ hd h => And.intro (hd ▸ And.left h) (And.right h)) rfl (by kernel_rfl) ?_
  intro ι W hne CW
  have CB : ∀ z, Bel wr (W z) := fun z => GB.undrew (CW.out z)
  have k0 : ∀ z, (W z).cell? ⟨gs, 3, none⟩ = some (.int .u64 now) := fun z => by
    have := GStampStamper.at_now (GB.get (CB z) HSR.out.get)
    simpa only [Addr.add_lit, Nat.zero_add] using this
  have k1 : ∀ z, (W z).cell? ⟨gs, 4, none⟩ = some (.int .u64 floor) := fun z => by
    have := GStampStamper.at_floor (GB.get (CB z) HSR.out.get)
    simpa only [Addr.add_lit, Nat.zero_add] using this
  have k2 : ∀ z, (W z).cell? ⟨gs, 5, none⟩ = some (.int .u64 last) := fun z => by
    have := GStampStamper.at_last (GB.get (CB z) HSR.out.get)
    simpa only [Addr.add_lit, Nat.zero_add] using this
  clear CB
  iterate 14 (refine wpLooksG_step (fun K hK => ?_); go_simp; refine hK _ ?_; clear hK K)
  have hmx : max now (max floor last + 1) = (tm : Int) := by have := HTM.out; omega
  iterate 2 (refine wpLooksG_step (fun K hK => ?_); go_simp; refine hK _ ?_; clear hK K)
  refine wpLooksG_nil ?_
  clear k0 k1 k2 CW hne W ι
  refine wpG_end (by kernel_rfl) (fun ws hws => ?_) _
  have hbs : Bel wr ws := GB.undrew hws
  have HBS := Lib.hid (HR2.out.trans hbs)
  have GS1 := Lib.hid (GB.get hbs GR1.out); have GS2 := Lib.hid (GB.get hbs GR2.out); have BS2 := Lib.hid ((blkFree_keep (Below.block hbs _ (get?_lt GR2.out))).trans BR2.out)
  have HSS := Lib.hid (HSR.out.step hbs); have HBKS := Lib.hid (HBKR.out.step hbs)
  have HZS := Lib.hid (show q + 2 ≤ ws.heap.size by have := Below.size hbs; have := HZR.out; omega)
  have ht1 : (tm : Int) ≤ 1000000001 := by omega
  have ht2 : ¬ (18446744073709551615 : Int) ≤ (tm : Int) := by omega
  have HT1 := Lib.hid (show tm ≤ 1000000001 by omega)
  clear hws hbs HR2 GR1 GR2 BR2 HSR HBKR HZR PR HPQ hmx e1 e2 ht1
  go_upto_region 11 with fail
  refine wp_region_H GB (Chg (fun k => ws.heap.size ≤ k)) [11] [] GB.rf (by kernel_rfl) ?_
  refine wpH_looks 2 26 [0, 1, 2, 3, 4, 5, 6, 7, 8, 9] rfl GB.rf GB.tr (Chg.refl _) (fun _ _ _ => Chg.tr) (fun _ _ h => Chg.of_bel h _) (by kernel_rfl) (fun _ _ _ _ hd h => And.intro (hd ▸ And.left h) (And.right h)) rfl (by kernel_rfl) ?_
  intro ι W hne CW
  have CC : ∀ z, Chg (fun k => ws.heap.size ≤ k) ws (W z) := fun z => (Chg.of_bel ((Bel.refl ws).drew) _).tr (CW.out z)
  have k0 : ∀ z, (W z).cell? ⟨gs, 2, none⟩ = some (.int .i64 i) := fun z => by
    have := GStampStamper.at_replica ((CC z).get HSS.out.get (by have := HLT.out.1; have := HZS.out; simp only; omega))
    simpa only [Addr.add_lit, Nat.zero_add] using this
  have k1 : ∀ z, get? GName (W z) ⟨q, 0, none⟩ = some x.name := fun z => by
    have := GCommit.at_name ((CC z).get GS1.out (by have := HZS.out; simp only; omega))
    simpa only [Addr.add_lit, Nat.zero_add] using this
  have k2 : ∀ z, get? GHash (W z) ⟨q, 2, none⟩ = some x.hash := fun z => by
    have := GCommit.at_hash ((CC z).get GS1.out (by have := HZS.out; simp only; omega))
    simpa only [Addr.add_lit, Nat.zero_add] using this
  clear CC
  repeat (refine wpLooksG_step (fun K hK => ?_); go_simp; refine hK _ ?_; clear hK K)
  refine wpLooksG_nil ?_
  clear k0 k1 k2 CW hne W ι
  refine wpH_force 10 _ rfl (by kernel_rfl) rfl fun w10 hw10 K hK => ?_
  go_simp
  refine hK _ _ (fun _ => GB.al _ _) (fun _ => Chg.of_bel (GB.al _ _) _) ?_
  clear hK K
  have hb10 : Bel ws w10 := GB.undrew hw10
  have c6 := get?_new (w := w10) 41 (default : GStamp)
  have b6 : blkFree (w10.alloc (.cells (GStamp.enc default).toArray 41)) w10.heap.size = true := blkFree_new _ _ rfl
  have hb6 := Bel.trans hb10 ((Bel.refl w10).alloc (.cells (GStamp.enc default).toArray 41))
  have hpw : ws.heap.size ≤ w10.heap.size := Below.size hb10
  obtain ⟨p2, hp2⟩ : ∃ p2, w10.heap.size = p2 := ⟨_, rfl⟩
  rw [hp2] at c6 b6 hpw ⊢
  change wpH _ _ _ _ _ _ _ _ _ _ _ (w10.alloc (.cells (GStamp.enc default).toArray 41))
  generalize w10.alloc (.cells (GStamp.enc default).toArray 41) = wy at c6 b6 hb6 ⊢
  have HPW := Lib.hid hpw; have C6 := Lib.hid c6; have B6 := Lib.hid b6; have HB6 := Lib.hid hb6
  clear c6 b6 hb6 hpw hp2 hw10 hb10
  refine wpH_force 11 _ rfl (by kernel_rfl) rfl fun w11 hw11 K hK => ?_
  have g6 := GB.get hw11 C6.out
  have f6 := (blkFree_keep (Below.block hw11 _ (get?_lt C6.out))).trans B6.out
  have hb11 : Bel ws w11 := GB.tr _ _ _ HB6.out hw11
  go_simp
  refine hK _ _ (fun h => absurd (by simp) h) (fun _ => chg_put (S := fun k => ws.heap.size ≤ k) HPW.out _) ?_
  clear hK K
  change wpH _ _ _ _ _ _ _ _ _ _ _ (World.putCells w11 ⟨p2, 0, none⟩ (GStamp.enc (bareS i x tm)))
  have hput : Chg (fun k => ws.heap.size ≤ k) w11 (World.putCells w11 ⟨p2, 0, none⟩ (GStamp.enc (bareS i x tm))) := chg_put (S := fun k => ws.heap.size ≤ k) HPW.out _
  have HC := Lib.hid (((Chg.of_bel hb11 (fun k => ws.heap.size ≤ k)).tr hput).bel (fun k e => e))
  have P6 := Lib.hid (show get? GStamp (World.putCells w11 ⟨p2, 0, none⟩ (GStamp.enc (bareS i x tm))) ⟨p2, 0, none⟩ = some (bareS i x tm) from get?_putV (bareS i x tm) g6)
  have F6 := Lib.hid (show blkFree (World.putCells w11 ⟨p2, 0, none⟩ (GStamp.enc (bareS i x tm))) p2 = true from (blkFree_put _).trans f6)
  generalize World.putCells w11 ⟨p2, 0, none⟩ (GStamp.enc (bareS i x tm)) = w5 at hput HC P6 F6 ⊢
  clear hput g6 f6 hb11 hw11 C6 B6 HB6
  refine wpH_end (by kernel_rfl) (fun wt hwt => ?_) _
  have hwt2 : Bel w5 wt := hwt
  have hbt := HC.out.trans hwt2
  have PT := Lib.hid (GB.get hwt2 P6.out); have FT := Lib.hid ((blkFree_keep (Below.block hwt2 _ (get?_lt P6.out))).trans F6.out)
  have HBT := Lib.hid (HBS.out.trans hbt)
  have GT1 := Lib.hid (GB.get hbt GS1.out); have GT2 := Lib.hid (GB.get hbt GS2.out); have BT2 := Lib.hid ((blkFree_keep (Below.block hbt _ (get?_lt GS2.out))).trans BS2.out)
  have HST := Lib.hid (HSS.out.step hbt); have HBKT := Lib.hid (HBKS.out.step hbt)
  have HPQ := Lib.hid (show q + 2 ≤ p2 by have := HPW.out; have := HZS.out; omega)
  clear hwt hwt2 hbt HC P6 F6 GS1 GS2 BS2 HSS HBKS HBS HPW
  go_upto_region 12 with fail
  refine wp_region_G GB [7, 9] GB.rf (by kernel_rfl) ?_
  refine wpG_looks 4 22 [0, 1, 2, 3, 4, 5] rfl GB.rf GB.tr (by kernel_rfl) (fun _ _ _ _ hd h => And.intro (hd ▸ And.left h) (And.right h)) rfl (by kernel_rfl) ?_
  intro ι W hne CW
  have k0 : ∀ z, (W z).cell? ⟨gs, 2, none⟩ = some (.int .i64 i) := fun z => by
    have := GStampStamper.at_replica (GB.get (GB.undrew (CW.out z)) HST.out.get)
    simpa only [Addr.add_lit, Nat.zero_add] using this
  have k1 : ∀ z, get? GStamp (W z) ⟨p2, 0, none⟩ = some (bareS i x tm) := fun z => GB.get (GB.undrew (CW.out z)) PT.out
  repeat (refine wpLooksG_step (fun K hK => ?_); go_simp; refine hK _ ?_; clear hK K)
  refine wpLooksG_nil ?_
  clear k0 k1 CW hne W ι
  refine wpG_force 6 _ rfl (by kernel_rfl) rfl fun wa hwa K hK => ?_
  go_simp
  refine (stampText_any (bareS i x tm) wa (by have := HB9.out.2; show i ≤ _; omega) (by have := HOK.out.c2; show x.name.client ≤ _; omega) (by have := HOK.out.s1; show x.name.seq ≤ _; omega) tm rfl (by have := HT1.out; omega)).mono ?_
  rintro _ wb ⟨A, cc, rfl, hs, hbd⟩
  refine hK _ _ (fun _ => hbd) ?_
  have HSL := Lib.hid hs; have HBD := Lib.hid (Bel.trans (GB.undrew hwa) hbd)
  clear hK K hs hbd hwa
  refine wpG_force 7 _ rfl (by kernel_rfl) rfl fun wc hwc K hK => ?_
  go_simp
  have hbc : Bel wt wc := HBD.out.trans hwc
  refine (sign_any gb mb B i A _ cc (stampText tm (bareS i x tm)) wc (HBKT.out.step hbc) (HSL.out.stepB hwc) HB9.out.1).mono ?_
  rintro _ wd ⟨rfl, hbk, hcd⟩
  refine hK _ _ (fun h => absurd (by simp) h) ?_
  have hmb : ∀ k, k < q → True := fun _ _ => trivial
  have NM := Lib.hid (show ¬ gs = mb ∧ ¬ ms = mb ∧ ¬ q = mb ∧ ¬ q + 1 = mb ∧ ¬ p2 = mb from ⟨HNE.out.1, HNE.out.2.1, by have := HLT.out.2.2.2; omega, by have := HLT.out.2.2.2; omega, by have := HLT.out.2.2.2; have := HPQ.out; omega⟩)
  have HBKD := Lib.hid hbk
  have HSD := Lib.hid ((HST.out.step hbc).chg hcd NM.out.1 NM.out.2.1)
  have PD := Lib.hid (hcd.get (GB.get hbc PT.out) NM.out.2.2.2.2); have FD := Lib.hid (hcd.free ((blkFree_keep (Below.block hbc _ (get?_lt PT.out))).trans FT.out) (get?_lt (GB.get hbc PT.out)) NM.out.2.2.2.2)
  have GD1 := Lib.hid (hcd.get (GB.get hbc GT1.out) NM.out.2.2.1)
  have GD2 := Lib.hid (hcd.get (GB.get hbc GT2.out) NM.out.2.2.2.1); have BD2 := Lib.hid (hcd.free ((blkFree_keep (Below.block hbc _ (get?_lt GT2.out))).trans BT2.out) (get?_lt (GB.get hbc GT2.out)) NM.out.2.2.2.1)
  have HCD := Lib.hid (show Chg (fun k => k = mb) w wd from (Chg.of_bel (HBT.out.trans hbc) _).tr hcd)
  obtain ⟨mk, hmk⟩ : ∃ mk, markOf B ⟨i, strB (stampText tm (bareS i x tm))⟩ = mk := ⟨_, rfl⟩
  have HMK := Lib.hid (show markOf B (keyS i x tm) = mk from hmk)
  rw [hmk]
  clear hK K hbk hcd hbc hwc hmb hmk HBD HSL HST HBKT PT FT GT1 GT2 BT2 HBT
  refine wpG_force 8 _ rfl (by kernel_rfl) rfl fun we hwe K hK => ?_
  go_simp
  refine hK _ _ (fun _ => GB.rf _) ?_
  clear hK K
  refine wpG_force 9 _ rfl (by kernel_rfl) rfl fun wf hwf K hK => ?_
  have hbf : Bel wd wf := GB.tr _ _ _ hwe hwf
  have s6 := GB.get hbf PD.out
  have sf6 := (blkFree_keep (Below.block hbf _ (get?_lt PD.out))).trans FD.out
  have ssig := GStamp.at_sig s6
  simp only [Addr.add_lit, Nat.zero_add] at ssig
  go_simp
  refine hK _ _ (fun h => absurd (by simp) h) ?_
  have t6 : get? GStamp (World.putCells wf ⟨p2, 36, none⟩ (GSig.enc ⟨i, mk⟩)) ⟨p2, 0, none⟩ = some (stampY i x tm mk) := get?_putSegV s6 (by show 36 + (GSig.enc _).length ≤ _; rw [GSig.enc_len]; decide) (stamp_sig (bareS i x tm) ⟨i, mk⟩)
  have hc9 : Chg (fun k => k = p2) wf (World.putCells wf ⟨p2, 36, none⟩ (GSig.enc ⟨i, mk⟩)) := chg_put (S := fun k => k = p2) rfl _
  have NP := Lib.hid (show ¬ gs = p2 ∧ ¬ ms = p2 ∧ ¬ gb = p2 ∧ ¬ mb = p2 ∧ ¬ q = p2 ∧ ¬ q + 1 = p2 from by have := HLT.out; have := HPQ.out; refine ⟨?_, ?_, ?_, ?_, ?_, ?_⟩ <;> omega)
  have HBKG := Lib.hid ((HBKD.out.step hbf).chg hc9 NP.out.2.2.1 NP.out.2.2.2.1)
  have HSG := Lib.hid ((HSD.out.step hbf).chg hc9 NP.out.1 NP.out.2.1)
  have GG1 := Lib.hid (hc9.get (GB.get hbf GD1.out) NP.out.2.2.2.2.1)
  have GG2 := Lib.hid (hc9.get (GB.get hbf GD2.out) NP.out.2.2.2.2.2); have BG2 := Lib.hid (hc9.free ((blkFree_keep (Below.block hbf _ (get?_lt GD2.out))).trans BD2.out) (get?_lt (GB.get hbf GD2.out)) NP.out.2.2.2.2.2)
  have HCG := Lib.hid (show Chg (fun k => k = mb) w (World.putCells wf ⟨p2, 36, none⟩ (GSig.enc ⟨i, mk⟩)) from chg_new (((HCD.out.tr (Chg.of_bel hbf _)).sub (fun k e => .inl e)).tr (hc9.sub (fun k e => .inr (by rw [e, HQ.out]; have := HPQ.out; omega)))))
  have PG := Lib.hid t6
  generalize World.putCells wf ⟨p2, 36, none⟩ (GSig.enc ⟨i, mk⟩) = wg at t6 hc9 HBKG HSG GG1 GG2 BG2 HCG PG ⊢
  clear hK K t6 hc9 hbf hwe hwf s6 sf6 ssig HBKD HSD PD FD GD1 GD2 BD2 HCD
  refine wpG_end (by kernel_rfl) (fun wh hwh => ?_) _
  have hwh2 : Bel wg wh := hwh
  have HBKH := Lib.hid (HBKG.out.step hwh2); have HSH := Lib.hid (HSG.out.step hwh2)
  have GH1 := Lib.hid (GB.get hwh2 GG1.out); have GH2 := Lib.hid (GB.get hwh2 GG2.out); have BH2 := Lib.hid ((blkFree_keep (Below.block hwh2 _ (get?_lt GG2.out))).trans BG2.out)
  have HCH := Lib.hid (HCG.out.tr (Chg.of_bel hwh2 _)); have PH := Lib.hid (GB.get hwh2 PG.out)
  clear hwh hwh2 HBKG HSG GG1 GG2 BG2 HCG PG
  go_upto_region 13 with fail
  refine wp_region_H GB (KeepMap gs ms) [11, 12, 14] [] GB.rf (by kernel_rfl) ?_
  refine wpH_looks 6 22 [0, 1, 2, 3, 4, 5, 6, 7, 8] rfl GB.rf GB.tr (KeepMap.rf) (fun _ _ _ => KeepMap.tr) (fun _ _ h => KeepMap.of_bel h) (by kernel_rfl) (fun _ _ _ _ hd h => And.intro (hd ▸ And.left h) (And.right h)) rfl (by kernel_rfl) ?_
  intro ι W hne CW
  have CC : ∀ z, KeepMap gs ms wh (W z) := fun z => (KeepMap.of_bel ((Bel.refl wh).drew)).tr (CW.out z)
  have g0 := GStampStamper.at_stamps HSH.out.get
  simp only [Addr.add_lit, Nat.zero_add] at g0
  have k0 : ∀ z, (W z).cell? ⟨gs, 6, none⟩ = some (.map (some ms)) := fun z => ((CC z).2 (get?_lt HSH.out.get)).trans g0
  have k1 : ∀ z, get? GName (W z) ⟨q, 0, none⟩ = some x.name := fun z => by
    have := GCommit.at_name ((CC z).1.get GH1.out (by have := HLT.out; rintro (e | e) <;> simp only at e <;> omega))
    simpa only [Addr.add_lit, Nat.zero_add] using this
  have k2 : ∀ z, get? GStamp (W z) ⟨p2, 0, none⟩ = some (stampY i x tm mk) := fun z => (CC z).1.get PH.out (by have := NP.out; rintro (e | e) <;> simp only at e <;> omega)
  clear CC g0
  repeat (refine wpLooksG_step (fun K hK => ?_); go_simp; refine hK _ ?_; clear hK K)
  refine wpLooksG_nil ?_
  clear k0 k1 k2 CW hne W ι
  refine wpH_force 9 _ rfl (by kernel_rfl) rfl fun v9 hv9 K hK => ?_
  go_simp
  refine hK _ _ (fun _ => GB.rf _) (fun _ => KeepMap.rf _) ?_
  clear hK K
  refine wpH_force 10 _ rfl (by kernel_rfl) rfl fun v10 hv10 K hK => ?_
  go_simp
  refine hK _ _ (fun _ => GB.rf _) (fun _ => KeepMap.rf _) ?_
  clear hK K
  refine wpH_force 11 _ rfl (by kernel_rfl) rfl fun v11 hv11 K hK => ?_
  have hb11 : Bel wh v11 := GB.tr _ _ _ (GB.tr _ _ _ (GB.undrew hv9) hv10) hv11
  have hs11 := HSH.out.step hb11
  have f5 := GStampStamper.at_last hs11.get
  simp only [Addr.add_lit, Nat.zero_add] at f5
  have z5 : v11.frozen? ⟨gs, 5, none⟩ = false := frozen_of_free hs11.free
  have hms : ¬ gs = ms := get_not_mapV hs11.map hs11.get
  have HMS := Lib.hid hms
  have g5 : get? GStampStamper (v11.setCell ⟨gs, 5, none⟩ (.int .u64 (tm : Int))) ⟨gs, 0, none⟩ = some ⟨c, i, now, floor, tm, some ms⟩ := get?_poke hs11.get rfl
  have hkm : KeepMap gs ms v11 (v11.setCell ⟨gs, 5, none⟩ (.int .u64 (tm : Int))) := ⟨chg_cell (S := fun k => k = gs ∨ k = ms) (.inl rfl) _, fun _ => World.cell?_setCell_other _ _ _ _ (fun h => by injection h with h1 h2; cases h2)⟩
  have hc5 : Chg (fun k => k = gs) v11 (v11.setCell ⟨gs, 5, none⟩ (.int .u64 (tm : Int))) := chg_cell (S := fun k => k = gs) rfl _
  have G5 := Lib.hid g5
  have F5 := Lib.hid (show blkFree (v11.setCell ⟨gs, 5, none⟩ (.int .u64 (tm : Int))) gs = true by rw [blkFree_setCell]; exact hs11.free)
  have M5 := Lib.hid (hc5.map hs11.map (fun e => hms e.symm))
  have HC5 := Lib.hid (((HCH.out.tr (Chg.of_bel hb11 _)).sub (S' := fun k => k = mb ∨ k = gs) (fun k e => .inl e)).tr (hc5.sub (fun k e => .inr e)))
  have NG := Lib.hid (show ¬ gb = gs ∧ ¬ mb = gs ∧ ¬ q = gs ∧ ¬ q + 1 = gs ∧ ¬ p2 = gs from ⟨HNE.out.2.2.1, HNE.out.2.2.2.2.1, by have := HLT.out; omega, by have := HLT.out; omega, fun e => NP.out.1 e.symm⟩)
  have BK5 := Lib.hid ((HBKH.out.step hb11).chg hc5 NG.out.1 NG.out.2.1)
  have Q5 := Lib.hid (hc5.get (GB.get hb11 GH2.out) NG.out.2.2.2.1); have QF5 := Lib.hid (hc5.free ((blkFree_keep (Below.block hb11 _ (get?_lt GH2.out))).trans BH2.out) (get?_lt (GB.get hb11 GH2.out)) NG.out.2.2.2.1)
  have P5 := Lib.hid (hc5.get (GB.get hb11 PH.out) NG.out.2.2.2.2)
  go_simp
  refine hK _ _ (fun h => absurd (by simp) h) (fun _ => hkm) ?_
  change wpH _ _ _ _ _ _ _ _ _ _ _ (v11.setCell ⟨gs, 5, none⟩ (.int .u64 (tm : Int)))
  generalize v11.setCell ⟨gs, 5, none⟩ (.int .u64 (tm : Int)) = u5 at g5 hkm hc5 G5 F5 M5 HC5 BK5 Q5 QF5 P5 ⊢
  clear hK K g5 hkm hc5 f5 z5 hms hs11 hb11 hv9 hv10 hv11 HSH HBKH GH1 GH2 BH2 HCH PH
  refine wpH_force 12 _ rfl (by kernel_rfl) rfl fun v12 hv12 K hK => ?_
  have m12 : mapAt GName GStamp v12 ms = some S := (Chg.of_bel (show Bel u5 v12 from hv12) (fun _ => False)).map M5.out id
  have hnk : x.name ∉ S.map (·.1) := mget_none.1 HLKE.out
  obtain ⟨cl, o1, hme, hl12, hst⟩ := run_entry_new kl33 um156 zv156_41 m12 x.name hnk
  change (Instr.mapEntry 156 (.map (some ms)) (GName.val x.name)).run Tryz.prog v12 = _ at hme
  have HST := Lib.hid hst
  have hch12 : Chg (fun k => k = ms) v12 { v12 with heap := v12.heap.setIfInBounds ms o1 } := chg_setHeap v12 ms o1
  have row12 : ({ v12 with heap := v12.heap.setIfInBounds ms o1 } : World).heap[ms]? = some o1 := by simp [hl12]
  go_simp
  refine hK _ _ (fun h => absurd (by simp) h) (fun _ => ⟨hch12.sub (fun k e => .inr e), fun hg => cell_of_block (hch12.block gs hg HMS.out)⟩) ?_
  have hb12 : Bel u5 v12 := hv12
  have HC6 := Lib.hid (show Chg (fun k => (k = mb ∨ k = gs) ∨ k = ms) w { v12 with heap := v12.heap.setIfInBounds ms o1 } from ((HC5.out.tr (Chg.of_bel hb12 _)).sub (S' := fun k => (k = mb ∨ k = gs) ∨ k = ms) (fun k e => .inl e)).tr (hch12.sub (fun k e => .inr e)))
  have NS := Lib.hid (show ¬ gb = ms ∧ ¬ mb = ms ∧ ¬ q = ms ∧ ¬ q + 1 = ms ∧ ¬ p2 = ms from ⟨HNE.out.2.2.2.1, HNE.out.2.2.2.2.2, by have := HLT.out; omega, by have := HLT.out; omega, fun e => NP.out.2.1 e.symm⟩)
  have G6 := Lib.hid (hch12.get (GB.get hb12 G5.out) HMS.out); have F6 := Lib.hid (hch12.free ((blkFree_keep (Below.block hb12 _ (get?_lt G5.out))).trans F5.out) (get?_lt (GB.get hb12 G5.out)) HMS.out)
  have BK6 := Lib.hid ((BK5.out.step hb12).chg hch12 NS.out.1 NS.out.2.1)
  have Q6 := Lib.hid (hch12.get (GB.get hb12 Q5.out) NS.out.2.2.2.1); have QF6 := Lib.hid (hch12.free ((blkFree_keep (Below.block hb12 _ (get?_lt Q5.out))).trans QF5.out) (get?_lt (GB.get hb12 Q5.out)) NS.out.2.2.2.1)
  have P6 := Lib.hid (hch12.get (GB.get hb12 P5.out) NS.out.2.2.2.2)
  change wpH _ _ _ _ _ _ _ _ _ _ _ { v12 with heap := v12.heap.setIfInBounds ms o1 }
  generalize ({ v12 with heap := v12.heap.setIfInBounds ms o1 } : World) = u6 at hch12 row12 HC6 G6 F6 BK6 Q6 QF6 P6 ⊢
  have ROW := Lib.hid row12
  have HLU := Lib.hid (show ms < u6.heap.size by have := (Array.getElem?_eq_some_iff.1 row12).1; exact this)
  clear hK K m12 hnk hme hl12 hst hch12 row12 hv12 hb12 G5 F5 M5 HC5 BK5 Q5 QF5 P5
  refine wpH_force 13 _ rfl (by kernel_rfl) rfl fun v13 hv13 K hK => ?_
  go_simp
  refine hK _ _ (fun _ => GB.rf _) (fun _ => KeepMap.rf _) ?_
  clear hK K
  refine wpH_force 14 _ rfl (by kernel_rfl) rfl fun v14 hv14 K hK => ?_
  have hb14 : Bel u6 v14 := GB.tr _ _ _ hv13 hv14
  obtain ⟨o2, hes, hmi⟩ := HST.out v14 ((Below.block hb14 ms HLU.out).trans ROW.out) (stampY i x tm mk)
  change (Instr.entryStore 156 (.map (some ms)) (.int .i64 (cl : Int)) (GStamp.val (stampY i x tm mk))).run Tryz.prog v14 = _ at hes
  have hch14 : Chg (fun k => k = ms) v14 { v14 with heap := v14.heap.setIfInBounds ms o2 } := chg_setHeap v14 ms o2
  have m14 : mapAt GName GStamp { v14 with heap := v14.heap.setIfInBounds ms o2 } ms = some (S ++ [(x.name, stampY i x tm mk)]) := mapAt_iff.2 hmi
  go_simp
  refine hK _ _ (fun h => absurd (by simp) h) (fun _ => ⟨hch14.sub (fun k e => .inr e), fun hg => cell_of_block (hch14.block gs hg HMS.out)⟩) ?_
  have HC7 := Lib.hid (show Chg (fun k => (k = mb ∨ k = gs) ∨ k = ms) w { v14 with heap := v14.heap.setIfInBounds ms o2 } from (HC6.out.tr (Chg.of_bel hb14 _)).tr (hch14.sub (fun k e => .inr e)))
  have G7 := Lib.hid (hch14.get (GB.get hb14 G6.out) HMS.out); have F7 := Lib.hid (hch14.free ((blkFree_keep (Below.block hb14 _ (get?_lt G6.out))).trans F6.out) (get?_lt (GB.get hb14 G6.out)) HMS.out)
  have BK7 := Lib.hid ((BK6.out.step hb14).chg hch14 NS.out.1 NS.out.2.1)
  have Q7 := Lib.hid (hch14.get (GB.get hb14 Q6.out) NS.out.2.2.2.1); have QF7 := Lib.hid (hch14.free ((blkFree_keep (Below.block hb14 _ (get?_lt Q6.out))).trans QF6.out) (get?_lt (GB.get hb14 Q6.out)) NS.out.2.2.2.1)
  have P7 := Lib.hid (hch14.get (GB.get hb14 P6.out) NS.out.2.2.2.2)
  change wpH _ _ _ _ _ _ _ _ _ _ _ { v14 with heap := v14.heap.setIfInBounds ms o2 }
  generalize ({ v14 with heap := v14.heap.setIfInBounds ms o2 } : World) = u7 at hch14 m14 HC7 G7 F7 BK7 Q7 QF7 P7 ⊢
  have M7 := Lib.hid m14
  clear hK K hes hmi hch14 m14 hv13 hv14 hb14 HC6 G6 F6 BK6 Q6 QF6 P6 ROW HLU HST
  refine wpH_end (by kernel_rfl) (fun wz hwz => ?_) _
  have hbz : Bel u7 wz := hwz
  have c11 := GB.get hbz P7.out
  have g2 := GB.get hbz Q7.out
  have b2 := (blkFree_keep (Below.block hbz _ (get?_lt Q7.out))).trans QF7.out
  have HCZ := Lib.hid (HC7.out.tr (Chg.of_bel hbz _)); have BKZ := Lib.hid (BK7.out.step hbz)
  have HSZ2 := Lib.hid (show StampIs wz gs ms c i now floor tm (S ++ [(x.name, stampY i x tm mk)]) from ⟨GB.get hbz G7.out, (blkFree_keep (Below.block hbz _ (get?_lt G7.out))).trans F7.out, (Chg.of_bel hbz (fun _ => False)).map M7.out id⟩)
  clear hwz hbz HC7 G7 F7 BK7 Q7 QF7 P7 M7
  go_wp2_with fail
  have hpu : Chg (fun k => k = q + 1) wz (World.putCells wz ⟨q + 1, 0, none⟩ (GStamp.enc (stampY i x tm mk))) := chg_put (S := fun k => k = q + 1) rfl _
  refine bodyPost_ret (results_cell_tmp (x := stampY i x tm mk) rfl rfl ag41 sz41 (get?_putV _ g2)) rfl ⟨?_, ?_, ?_, ?_⟩
  · rw [HMK.out]; simp only [GStamp.val_eq]; rfl
  · exact BKZ.out.chg hpu (fun e => by have := HLT.out; omega) (fun e => by have := HLT.out; omega)
  · rw [HMK.out]
    exact HSZ2.out.chg hpu (fun e => by have := HLT.out; omega) (fun e => by have := HLT.out; omega)
  · exact chg_new ((HCZ.out.sub (S' := fun k => (k = mb ∨ k = gs ∨ k = ms) ∨ w.heap.size ≤ k) (fun k e => by rcases e with (e | e) | e; exact .inl (.inl e); exact .inl (.inr (.inl e)); exact .inl (.inr (.inr e)))).tr (hpu.sub (fun k e => .inr (by rw [HQ.out]; omega))))
end Go.Proofs.YtfhhcgldikmejaaGreatDoor
/- A commitment is taken. Conditions: those named in each theorem. -/
namespace Go.Proofs.YtfhhcgldikmejaaGreatDoor
open Go Go.RowKit Go.Gv Go.Proofs

def stampMsg (y : GStamp) : GMsg := { (default : GMsg) with kind := 2, stamp := y }
theorem plain_stampMsg (y : GStamp) : PlainM (stampMsg y) := ⟨rfl, rfl, rfl, ⟨rfl, rfl, rfl⟩, ⟨rfl, rfl, rfl⟩, rfl⟩
theorem RepIs.withBSM {w0 w w' : World} {B : Nat → Nat} {x : RSt} (h : RepIs w0 w B x) {b : MBook} {now floor last : Int} {l : List (GName × GStamp)} (hb : BookIs w' (B 1) (B 2) b) (hs : StampIs w' (B 3) (B 4) x.c x.id now floor last l) (hc : Chg (fun k => k = B 2 ∨ k = B 3 ∨ k = B 4) w w') : RepIs w0 w' B { x with book := b, now := now, floor := floor, last := last, stamps := l } := by
  obtain ⟨a, bm, ht, hp, h1, h2, h3, h4, h5⟩ := h.more
  have n : ∀ j < 20, j ≠ 2 → j ≠ 3 → j ≠ 4 → ¬ (B j = B 2 ∨ B j = B 3 ∨ B j = B 4) := fun j hj n2 n3 n4 e => by
    rcases e with e | e | e
    · exact h.ne (i := 2) (by omega) j hj n2 e
    · exact h.ne (i := 3) (by omega) j hj n3 e
    · exact h.ne (i := 4) (by omega) j hj n4 e
  have m : ∀ j < 20, 4 < j ∨ j < 2 → ¬ (B j = B 2 ∨ B j = B 3 ∨ B j = B 4) := fun j hj hh => n j hj (by omega) (by omega) (by omega)
  refine ⟨Chg.bel2 h.bel hc (fun k e => by rcases e with e | e | e; exact e ▸ h.new 2 (by omega); exact e ▸ h.new 3 (by omega); exact e ▸ h.new 4 (by omega)), h.new, fun j hj => Nat.lt_of_lt_of_le (h.lt j hj) hc.size, h.apart, hb, hs, h.tb.chg hc (m 5 (by omega) (by omega)) (m 6 (by omega) (by omega)), h.led.chg hc (m 7 (by omega) (by omega)) (m 8 (by omega) (by omega)),
    h.rev.chg hc (m 9 (by omega) (by omega)) (m 10 (by omega) (by omega)), h.core.chg hc (m 12 (by omega) (by omega)) (m 13 (by omega) (by omega)) (m 18 (by omega) (by omega)) (m 14 (by omega) (by omega)) (m 16 (by omega) (by omega)) (m 17 (by omega) (by omega)), hc.map h.pre (m 19 (by omega) (by omega)),
    a, bm, ht, hp, hc.get h1 (m 0 (by omega) (by omega)), hc.free h2 (get?_lt h1) (m 0 (by omega) (by omega)), hc.get h3 (m 11 (by omega) (by omega)), hc.free h4 (get?_lt h3) (m 11 (by omega) (by omega)), ?_⟩
  refine (h5.chg hc ?_ ?_ ?_ ?_ ?_).with rfl rfl rfl rfl rfl
  · rintro k e (e2 | e2 | e2)
    · exact h5.no 2 (by omega) (by rw [e, e2])
    · exact h5.no 3 (by omega) (by rw [e, e2])
    · exact h5.no 4 (by omega) (by rw [e, e2])
  · rintro k e (e2 | e2 | e2)
    · exact h5.nt 2 (by omega) (by rw [e, e2])
    · exact h5.nt 3 (by omega) (by rw [e, e2])
    · exact h5.nt 4 (by omega) (by rw [e, e2])
  · rintro k e (e2 | e2 | e2)
    · exact h5.np 2 (by omega) (by rw [e, e2])
    · exact h5.np 3 (by omega) (by rw [e, e2])
    · exact h5.np 4 (by omega) (by rw [e, e2])
  · rintro p e (e2 | e2 | e2)
    · exact (h5.pv p e).2.2.1 2 (by omega) e2
    · exact (h5.pv p e).2.2.1 3 (by omega) e2
    · exact (h5.pv p e).2.2.1 4 (by omega) e2
  · rintro k o e (e2 | e2 | e2)
    · exact (h5.kp k o e).2.1 2 (by omega) e2
    · exact (h5.kp k o e).2.1 3 (by omega) e2
    · exact (h5.kp k o e).2.1 4 (by omega) e2
set_option maxRecDepth 100000 in
set_option maxHeartbeats 8000000 in
theorem commitFrom_any (w0 : World) (B : Nat → Nat) (x : RSt) (m : GMsg) (hf : ¬ m.from_ = 1000 + m.commit.name.client) (h0 : 0 ≤ m.commit.name.client) (h1 : m.commit.name.client ≤ 1000000) (w : World) (h : RepIs w0 w B x) :
    Calls Tryz.prog 53 #[.pointer (some ⟨B 0, 0, none⟩), m.val] w fun e w' => e = .returned (.tuple #[]) ∧ Bel w w' := by
  have g1 : get? GMsg (w.alloc (.cells (GMsg.enc m).toArray 70)) ⟨w.heap.size, 0, none⟩ = some m := get?_new _ _
  have hba := (Bel.refl w).alloc (.cells (GMsg.enc m).toArray 70)
  have HH := Lib.hid (h.step hba); have HB := Lib.hid hba
  have HLT := Lib.hid h.lt
  have e1 : IntKind.i64.wrap (1000 + m.commit.name.client) = 1000 + m.commit.name.client := IntWalk.i64_in _ (by omega)
  clear h hba
  go_enter Tryz.func53, Tryz.ntmps53
  go_upto_region 1 with fail
  obtain ⟨q, hq⟩ : ∃ q, w.heap.size = q := ⟨_, rfl⟩
  have HQ := Lib.hid hq
  rw [hq] at g1 HLT ⊢
  generalize w.alloc (.cells (GMsg.enc m).toArray 70) = wa at g1 HH HB ⊢
  have G1 := Lib.hid g1
  have f1 := GMsg.at_from_ g1
  have f2 := GName.at_client (GCommit.at_name (GMsg.at_commit g1))
  simp only [Addr.add_lit, Nat.zero_add, Nat.add_zero] at f1 f2
  clear g1 hq
  go_wp2_with fail
  exact bodyPost_ret (results_none rfl _ _ _) rfl ⟨rfl, HB.out⟩
set_option maxRecDepth 100000 in
set_option maxHeartbeats 8000000 in
theorem commitNone_any (w0 : World) (B : Nat → Nat) (x : RSt) (m : GMsg) (y : GStamp) (er : Int) (hf : m.from_ = 1000 + m.commit.name.client) (h0 : 0 ≤ m.commit.name.client) (h1 : m.commit.name.client ≤ 1000000) (her : ¬ er = 0) (hst : ∀ w1, RepIs w0 w1 B x → Calls Tryz.prog 95 #[.pointer (some ⟨B 3, 0, none⟩), .pointer (some ⟨B 1, 0, none⟩), m.commit.val] w1 fun e w' => e = .returned (.tuple #[GStamp.val y, .int .i64 er]) ∧ Bel w1 w') (w : World) (h : RepIs w0 w B x) :
    Calls Tryz.prog 53 #[.pointer (some ⟨B 0, 0, none⟩), m.val] w fun e w' => e = .returned (.tuple #[]) ∧ Bel w w' := by
  have g1 : get? GMsg (w.alloc (.cells (GMsg.enc m).toArray 70)) ⟨w.heap.size, 0, none⟩ = some m := get?_new _ _
  have hba := (Bel.refl w).alloc (.cells (GMsg.enc m).toArray 70)
  have HH := Lib.hid (h.step hba); have HB := Lib.hid hba
  have HLT := Lib.hid h.lt
  have e1 : IntKind.i64.wrap (1000 + m.commit.name.client) = 1000 + m.commit.name.client := IntWalk.i64_in _ (by omega)
  have HF := Lib.hid hf; have HST := Lib.hid hst
  clear h hba hf hst
  go_enter Tryz.func53, Tryz.ntmps53
  go_upto_region 1 with fail
  obtain ⟨q, hq⟩ : ∃ q, w.heap.size = q := ⟨_, rfl⟩
  have HQ := Lib.hid hq
  rw [hq] at g1 HLT ⊢
  generalize w.alloc (.cells (GMsg.enc m).toArray 70) = wa at g1 HH HB ⊢
  have G1 := Lib.hid g1
  have f1 := GMsg.at_from_ g1
  have f2 := GName.at_client (GCommit.at_name (GMsg.at_commit g1))
  simp only [Addr.add_lit, Nat.zero_add, Nat.add_zero] at f1 f2
  clear g1 hq
  rw [HF.out] at f1
  go_upto_region 2 with fail
  refine wp_region_H GB (Chg (fun k => wa.heap.size ≤ k)) [15] [] GB.rf (by kernel_rfl) ?_
  refine wpH_looks 3 26 [0, 1, 2, 3, 4, 5, 6, 7, 8, 9, 10, 11, 12, 13] rfl GB.rf GB.tr (Chg.refl _) (fun _ _ _ => Chg.tr) (fun _ _ h => Chg.of_bel h _) (by kernel_rfl) (fun _ _ _ _ hd h => And.intro (hd ▸ And.left h) (And.right h)) rfl (by kernel_rfl) ?_
  intro ι W hne CW
  have CC : ∀ z, Chg (fun k => wa.heap.size ≤ k) wa (W z) := fun z => (Chg.of_bel ((Bel.refl wa).drew) _).tr (CW.out z)
  have HW := Lib.hid (fun z => HH.out.step ((CC z).bel (fun _ e => e)))
  have k0 : ∀ z, (W z).cell? ⟨B 0, 5, none⟩ = some (.pointer (some ⟨B 3, 0, none⟩)) := fun z => (rep_cells (HW.out z)).2.2.2.1
  have k1 : ∀ z, (W z).cell? ⟨B 0, 3, none⟩ = some (.pointer (some ⟨B 1, 0, none⟩)) := fun z => (rep_cells (HW.out z)).2.1
  have k2 : ∀ z, get? GCommit (W z) ⟨q, 3, none⟩ = some m.commit := fun z => by
    have := GMsg.at_commit ((CC z).get G1.out (by have := get?_lt G1.out; simp only at this ⊢; omega))
    simpa only [Addr.add_lit, Nat.zero_add] using this
  clear CC
  iterate 10 (refine wpLooksG_step (fun K hK => ?_); go_simp; refine hK _ ?_; clear hK K)
  refine wpLooksG_step (fun K hK => ?_)
  go_simp
  refine ⟨_, fun z => HST.out (W z) (HW.out z), hK _ ?_⟩
  clear hK K
  iterate 3 (refine wpLooksG_step (fun K hK => ?_); go_simp; refine hK _ ?_; clear hK K)
  refine wpLooksG_nil ?_
  clear k0 k1 k2 HW CW hne W ι
  refine wpH_force 14 _ rfl (by kernel_rfl) rfl fun w10 hw10 K hK => ?_
  go_simp
  refine hK _ _ (fun _ => GB.al _ _) (fun _ => Chg.of_bel (GB.al _ _) _) ?_
  clear hK K
  have hb10 : Bel wa w10 := GB.undrew hw10
  have c6 := get?_new (w := w10) 41 (default : GStamp)
  have b6 : blkFree (w10.alloc (.cells (GStamp.enc default).toArray 41)) w10.heap.size = true := blkFree_new _ _ rfl
  have hb6 := Bel.trans hb10 ((Bel.refl w10).alloc (.cells (GStamp.enc default).toArray 41))
  have hpw : wa.heap.size ≤ w10.heap.size := Below.size hb10
  obtain ⟨p, hp⟩ : ∃ p, w10.heap.size = p := ⟨_, rfl⟩
  rw [hp] at c6 b6 hpw ⊢
  change wpH _ _ _ _ _ _ _ _ _ _ _ (w10.alloc (.cells (GStamp.enc default).toArray 41))
  generalize w10.alloc (.cells (GStamp.enc default).toArray 41) = wy at c6 b6 hb6 ⊢
  have HPW := Lib.hid hpw; have C6 := Lib.hid c6; have B6 := Lib.hid b6; have HB6 := Lib.hid hb6
  clear c6 b6 hb6 hpw hp hw10 hb10
  refine wpH_force 15 _ rfl (by kernel_rfl) rfl fun w11 hw11 K hK => ?_
  have g6 := GB.get hw11 C6.out
  have f6 := (blkFree_keep (Below.block hw11 _ (get?_lt C6.out))).trans B6.out
  have hb11 : Bel wa w11 := GB.tr _ _ _ HB6.out hw11
  go_simp
  refine hK _ _ (fun h => absurd (by simp) h) (fun _ => chg_put (S := fun k => wa.heap.size ≤ k) HPW.out _) ?_
  clear hK K
  have hput : Chg (fun k => wa.heap.size ≤ k) w11 (World.putCells w11 ⟨p, 0, none⟩ (GStamp.enc y)) := chg_put (S := fun k => wa.heap.size ≤ k) HPW.out _
  have HC := Lib.hid (((Chg.of_bel hb11 (fun k => wa.heap.size ≤ k)).tr hput).bel (fun k e => e))
  have P6 := Lib.hid (show get? GStamp (World.putCells w11 ⟨p, 0, none⟩ (GStamp.enc y)) ⟨p, 0, none⟩ = some y from get?_putV y g6)
  change wpH _ _ _ _ _ _ _ _ _ _ _ (World.putCells w11 ⟨p, 0, none⟩ (GStamp.enc y))
  generalize World.putCells w11 ⟨p, 0, none⟩ (GStamp.enc y) = w5 at hput HC P6 ⊢
  clear hput g6 f6 hb11 hw11 C6 B6 HB6
  refine wpH_force 16 _ rfl (by kernel_rfl) rfl fun w12 hw12 K hK => ?_
  go_simp
  refine hK _ _ (fun _ => GB.rf _) (fun _ => Chg.refl _ _) ?_
  clear hK K
  refine wpH_end (by kernel_rfl) (fun wr hwr => ?_) _
  have hbr := HC.out.trans (GB.tr _ _ _ hw12 hwr)
  have c4 := GB.get (GB.tr _ _ _ hw12 hwr) P6.out
  have HR := Lib.hid (HH.out.step hbr); have HBR := Lib.hid (HB.out.trans hbr)
  have f9 := GMsg.at_from_ (GB.get hbr G1.out)
  simp only [Addr.add_lit, Nat.zero_add] at f9
  clear hw12 hwr hbr HC P6 HPW
  go_wp2_with fail
  exact bodyPost_end (results_none rfl _ _ _) rfl ⟨rfl, HBR.out⟩
set_option maxRecDepth 100000 in
set_option maxHeartbeats 8000000 in
theorem commitAgain_any (w0 : World) (B : Nat → Nat) (x : RSt) (m : GMsg) (y : GStamp) (hf : m.from_ = 1000 + m.commit.name.client) (h0 : 0 ≤ m.commit.name.client) (h1 : m.commit.name.client ≤ 1000000) (hl : x.out.length ≤ 1000) (hst : ∀ w1, RepIs w0 w1 B x → Calls Tryz.prog 95 #[.pointer (some ⟨B 3, 0, none⟩), .pointer (some ⟨B 1, 0, none⟩), m.commit.val] w1 fun e w' => e = .returned (.tuple #[GStamp.val y, .int .i64 0]) ∧ Bel w1 w') (w : World) (h : RepIs w0 w B x) :
    Calls Tryz.prog 53 #[.pointer (some ⟨B 0, 0, none⟩), m.val] w fun e w' => e = .returned (.tuple #[]) ∧ ∃ ho, RepIs w0 w' B { x with ho := ho, out := x.out ++ [sent x.id m.from_ (stampMsg y)] } := by
  have g1 : get? GMsg (w.alloc (.cells (GMsg.enc m).toArray 70)) ⟨w.heap.size, 0, none⟩ = some m := get?_new _ _
  have hba := (Bel.refl w).alloc (.cells (GMsg.enc m).toArray 70)
  have HH := Lib.hid (h.step hba); have HB := Lib.hid hba
  have HLT := Lib.hid h.lt
  have e1 : IntKind.i64.wrap (1000 + m.commit.name.client) = 1000 + m.commit.name.client := IntWalk.i64_in _ (by omega)
  have HF := Lib.hid hf; have HST := Lib.hid hst
  clear h hba hf hst
  go_enter Tryz.func53, Tryz.ntmps53
  go_upto_region 1 with fail
  obtain ⟨q, hq⟩ : ∃ q, w.heap.size = q := ⟨_, rfl⟩
  have HQ := Lib.hid hq
  rw [hq] at g1 HLT ⊢
  generalize w.alloc (.cells (GMsg.enc m).toArray 70) = wa at g1 HH HB ⊢
  have G1 := Lib.hid g1
  have f1 := GMsg.at_from_ g1
  have f2 := GName.at_client (GCommit.at_name (GMsg.at_commit g1))
  simp only [Addr.add_lit, Nat.zero_add, Nat.add_zero] at f1 f2
  clear g1 hq
  rw [HF.out] at f1
  go_upto_region 2 with fail
  refine wp_region_H GB (Chg (fun k => wa.heap.size ≤ k)) [15] [] GB.rf (by kernel_rfl) ?_
  refine wpH_looks 3 26 [0, 1, 2, 3, 4, 5, 6, 7, 8, 9, 10, 11, 12, 13] rfl GB.rf GB.tr (Chg.refl _) (fun _ _ _ => Chg.tr) (fun _ _ h => Chg.of_bel h _) (by kernel_rfl) (fun _ _ _ _ hd h => And.intro (hd ▸ And.left h) (And.right h)) rfl (by kernel_rfl) ?_
  intro ι W hne CW
  have CC : ∀ z, Chg (fun k => wa.heap.size ≤ k) wa (W z) := fun z => (Chg.of_bel ((Bel.refl wa).drew) _).tr (CW.out z)
  have HW := Lib.hid (fun z => HH.out.step ((CC z).bel (fun _ e => e)))
  have k0 : ∀ z, (W z).cell? ⟨B 0, 5, none⟩ = some (.pointer (some ⟨B 3, 0, none⟩)) := fun z => (rep_cells (HW.out z)).2.2.2.1
  have k1 : ∀ z, (W z).cell? ⟨B 0, 3, none⟩ = some (.pointer (some ⟨B 1, 0, none⟩)) := fun z => (rep_cells (HW.out z)).2.1
  have k2 : ∀ z, get? GCommit (W z) ⟨q, 3, none⟩ = some m.commit := fun z => by
    have := GMsg.at_commit ((CC z).get G1.out (by have := get?_lt G1.out; simp only at this ⊢; omega))
    simpa only [Addr.add_lit, Nat.zero_add] using this
  clear CC
  iterate 10 (refine wpLooksG_step (fun K hK => ?_); go_simp; refine hK _ ?_; clear hK K)
  refine wpLooksG_step (fun K hK => ?_)
  go_simp
  refine ⟨_, fun z => HST.out (W z) (HW.out z), hK _ ?_⟩
  clear hK K
  iterate 3 (refine wpLooksG_step (fun K hK => ?_); go_simp; refine hK _ ?_; clear hK K)
  refine wpLooksG_nil ?_
  clear k0 k1 k2 HW CW hne W ι
  refine wpH_force 14 _ rfl (by kernel_rfl) rfl fun w10 hw10 K hK => ?_
  go_simp
  refine hK _ _ (fun _ => GB.al _ _) (fun _ => Chg.of_bel (GB.al _ _) _) ?_
  clear hK K
  have hb10 : Bel wa w10 := GB.undrew hw10
  have c6 := get?_new (w := w10) 41 (default : GStamp)
  have b6 : blkFree (w10.alloc (.cells (GStamp.enc default).toArray 41)) w10.heap.size = true := blkFree_new _ _ rfl
  have hb6 := Bel.trans hb10 ((Bel.refl w10).alloc (.cells (GStamp.enc default).toArray 41))
  have hpw : wa.heap.size ≤ w10.heap.size := Below.size hb10
  obtain ⟨p, hp⟩ : ∃ p, w10.heap.size = p := ⟨_, rfl⟩
  rw [hp] at c6 b6 hpw ⊢
  change wpH _ _ _ _ _ _ _ _ _ _ _ (w10.alloc (.cells (GStamp.enc default).toArray 41))
  generalize w10.alloc (.cells (GStamp.enc default).toArray 41) = wy at c6 b6 hb6 ⊢
  have HPW := Lib.hid hpw; have C6 := Lib.hid c6; have B6 := Lib.hid b6; have HB6 := Lib.hid hb6
  clear c6 b6 hb6 hpw hp hw10 hb10
  refine wpH_force 15 _ rfl (by kernel_rfl) rfl fun w11 hw11 K hK => ?_
  have g6 := GB.get hw11 C6.out
  have f6 := (blkFree_keep (Below.block hw11 _ (get?_lt C6.out))).trans B6.out
  have hb11 : Bel wa w11 := GB.tr _ _ _ HB6.out hw11
  go_simp
  refine hK _ _ (fun h => absurd (by simp) h) (fun _ => chg_put (S := fun k => wa.heap.size ≤ k) HPW.out _) ?_
  clear hK K
  have hput : Chg (fun k => wa.heap.size ≤ k) w11 (World.putCells w11 ⟨p, 0, none⟩ (GStamp.enc y)) := chg_put (S := fun k => wa.heap.size ≤ k) HPW.out _
  have HC := Lib.hid (((Chg.of_bel hb11 (fun k => wa.heap.size ≤ k)).tr hput).bel (fun k e => e))
  have P6 := Lib.hid (show get? GStamp (World.putCells w11 ⟨p, 0, none⟩ (GStamp.enc y)) ⟨p, 0, none⟩ = some y from get?_putV y g6)
  change wpH _ _ _ _ _ _ _ _ _ _ _ (World.putCells w11 ⟨p, 0, none⟩ (GStamp.enc y))
  generalize World.putCells w11 ⟨p, 0, none⟩ (GStamp.enc y) = w5 at hput HC P6 ⊢
  clear hput g6 f6 hb11 hw11 C6 B6 HB6
  refine wpH_force 16 _ rfl (by kernel_rfl) rfl fun w12 hw12 K hK => ?_
  go_simp
  refine hK _ _ (fun _ => GB.rf _) (fun _ => Chg.refl _ _) ?_
  clear hK K
  refine wpH_end (by kernel_rfl) (fun wr hwr => ?_) _
  have hbr := HC.out.trans (GB.tr _ _ _ hw12 hwr)
  have c4 := GB.get (GB.tr _ _ _ hw12 hwr) P6.out
  have HR := Lib.hid (HH.out.step hbr); have HBR := Lib.hid (HB.out.trans hbr)
  have f9 := GMsg.at_from_ (GB.get hbr G1.out)
  simp only [Addr.add_lit, Nat.zero_add] at f9
  clear hw12 hwr hbr HC P6 HPW
  go_wp2_with fail
  refine (say_any w0 B x (stampMsg y) m.from_ wr HR.out (plain_stampMsg y) (by omega)).mono ?_
  rintro _ we ⟨rfl, ho, hre, -, -⟩
  have HRE := Lib.hid hre
  clear hre f9 c4
  go_wp2_with fail
  exact bodyPost_end (results_none rfl _ _ _) rfl ⟨rfl, ho, HRE.out⟩
end Go.Proofs.YtfhhcgldikmejaaGreatDoor
/- A commitment is stamped. Conditions: those named in each theorem. -/
namespace Go.Proofs.YtfhhcgldikmejaaGreatDoor
open Go Go.RowKit Go.Gv Go.Proofs

/-- A replica that has given one stamp more. -/
def gave (x : RSt) (cm : GCommit) (tm : Nat) : RSt := { x with book := signB x.book (keyS x.id cm tm), last := tm, stamps := x.stamps ++ [(cm.name, stampY x.id cm tm (markOf x.book (keyS x.id cm tm)))] }
set_option maxRecDepth 100000 in
set_option maxHeartbeats 8000000 in
theorem commitGive_any (w0 : World) (B : Nat → Nat) (x : RSt) (m : GMsg) (tm : Nat) (hf : m.from_ = 1000 + m.commit.name.client) (hok : OkCommit x.c m.commit) (hby : m.commit.sig.by_ = 1000 + m.commit.name.client) (hr : rightB x.book ⟨m.commit.sig.by_, strB (commitText m.commit)⟩ m.commit.sig.mark = true) (hlk : mget x.stamps m.commit.name = none) (hn0 : 0 ≤ x.now) (hn1 : x.now ≤ 1000000000) (hf0 : 0 ≤ x.floor) (hf1 : x.floor ≤ 1000000000) (hl0 : 0 ≤ x.last) (hl1 : x.last ≤ 1000000000) (hi0 : x.id ≤ 1000000) (hBl : x.book.length ≤ 1000000000) (htm : (tm : Int) = max x.now (max (x.floor + 1) (x.last + 1))) (hl : x.out.length ≤ 1000) (w : World) (h : RepIs w0 w B x) :
    Calls Tryz.prog 53 #[.pointer (some ⟨B 0, 0, none⟩), m.val] w fun e w' => e = .returned (.tuple #[]) ∧ ∃ ho, RepIs w0 w' B { gave x m.commit tm with ho := ho, out := x.out ++ [sent x.id m.from_ (stampMsg (stampY x.id m.commit tm (markOf x.book (keyS x.id m.commit tm))))] } := by
  have g1 : get? GMsg (w.alloc (.cells (GMsg.enc m).toArray 70)) ⟨w.heap.size, 0, none⟩ = some m := get?_new _ _
  have hba := (Bel.refl w).alloc (.cells (GMsg.enc m).toArray 70)
  have HH := Lib.hid (h.step hba); have HB := Lib.hid hba
  have HLT := Lib.hid h.lt
  have e1 : IntKind.i64.wrap (1000 + m.commit.name.client) = 1000 + m.commit.name.client := IntWalk.i64_in _ (by have := hok.c0; have := hok.c2; omega)
  have HF := Lib.hid hf
  have HNE := Lib.hid (show ¬ B 3 = B 2 ∧ ¬ B 4 = B 2 ∧ ¬ B 1 = B 3 ∧ ¬ B 1 = B 4 ∧ ¬ B 2 = B 3 ∧ ¬ B 2 = B 4 from ⟨h.ne (i := 2) (by omega) 3 (by omega) (by omega), h.ne (i := 2) (by omega) 4 (by omega) (by omega), h.ne (i := 3) (by omega) 1 (by omega) (by omega), h.ne (i := 4) (by omega) 1 (by omega) (by omega), h.ne (i := 3) (by omega) 2 (by omega) (by omega), h.ne (i := 4) (by omega) 2 (by omega) (by omega)⟩)
  have HN := Lib.hid (fun (j : Nat) (hj : j < 20) (h4 : 4 < j ∨ j < 2) => show ¬ (B j = B 2 ∨ B j = B 3 ∨ B j = B 4) from fun e => by
    rcases e with e | e | e
    · exact h.ne (i := 2) (by omega) j hj (by omega) e
    · exact h.ne (i := 3) (by omega) j hj (by omega) e
    · exact h.ne (i := 4) (by omega) j hj (by omega) e)
  have HST := Lib.hid (fun w1 (h1 : RepIs w0 w1 B x) => stampGive_any (B 3) (B 4) (B 1) (B 2) x.c x.id x.now x.floor x.last x.stamps x.book m.commit w1 h1.st h1.book hok hby hr hlk hn0 hn1 hf0 hf1 hl0 hl1 hi0 HNE.out hBl tm htm)
  clear h hba hf hok hby hr hlk
  go_enter Tryz.func53, Tryz.ntmps53
  go_upto_region 1 with fail
  obtain ⟨q, hq⟩ : ∃ q, w.heap.size = q := ⟨_, rfl⟩
  have HQ := Lib.hid hq
  rw [hq] at g1 HLT ⊢
  generalize w.alloc (.cells (GMsg.enc m).toArray 70) = wa at g1 HH HB ⊢
  have G1 := Lib.hid g1
  have f1 := GMsg.at_from_ g1
  have f2 := GName.at_client (GCommit.at_name (GMsg.at_commit g1))
  simp only [Addr.add_lit, Nat.zero_add, Nat.add_zero] at f1 f2
  clear g1 hq
  rw [HF.out] at f1
  obtain ⟨y, hy⟩ : ∃ y, stampY x.id m.commit tm (markOf x.book (keyS x.id m.commit tm)) = y := ⟨_, rfl⟩
  have HY := Lib.hid hy
  rw [hy] at HST
  go_upto_region 2 with fail
  refine wp_region_H GB (Chg (fun k => (k = B 2 ∨ k = B 3 ∨ k = B 4) ∨ wa.heap.size ≤ k)) [10, 15] [] GB.rf (by kernel_rfl) ?_
  refine wpH_looks 7 26 [0, 1, 2, 3, 4, 5, 6, 7, 8, 9] rfl GB.rf GB.tr (Chg.refl _) (fun _ _ _ => Chg.tr) (fun _ _ h => Chg.of_bel h _) (by kernel_rfl) (fun _ _ _ _ hd h => And.intro (hd ▸ And.left h) (And.right h)) rfl (by kernel_rfl) ?_
  intro ι W hne CW
  have CC : ∀ z, Chg (fun k => (k = B 2 ∨ k = B 3 ∨ k = B 4) ∨ wa.heap.size ≤ k) wa (W z) := fun z => (Chg.of_bel ((Bel.refl wa).drew) _).tr (CW.out z)
  have n0 : ¬ ((B 0 = B 2 ∨ B 0 = B 3 ∨ B 0 = B 4) ∨ wa.heap.size ≤ B 0) := fun e => e.elim (HN.out 0 (by omega) (by omega)) (fun e => by have := HH.out.lt 0 (by omega); omega)
  have nq : ¬ ((q = B 2 ∨ q = B 3 ∨ q = B 4) ∨ wa.heap.size ≤ q) := fun e => by
    rcases e with (e | e | e) | e
    · have := HLT.out 2 (by omega); omega
    · have := HLT.out 3 (by omega); omega
    · have := HLT.out 4 (by omega); omega
    · have := get?_lt G1.out; simp only at this; omega
  have NQ := Lib.hid nq
  have k0 : ∀ z, (W z).cell? ⟨B 0, 5, none⟩ = some (.pointer (some ⟨B 3, 0, none⟩)) := fun z => (CC z).cell (rep_cells HH.out).2.2.2.1 n0
  have k1 : ∀ z, (W z).cell? ⟨B 0, 3, none⟩ = some (.pointer (some ⟨B 1, 0, none⟩)) := fun z => (CC z).cell (rep_cells HH.out).2.1 n0
  have k2 : ∀ z, get? GCommit (W z) ⟨q, 3, none⟩ = some m.commit := fun z => by
    have := GMsg.at_commit ((CC z).get G1.out nq)
    simpa only [Addr.add_lit, Nat.zero_add] using this
  clear CC n0 nq
  repeat (refine wpLooksG_step (fun K hK => ?_); go_simp; refine hK _ ?_; clear hK K)
  refine wpLooksG_nil ?_
  clear k0 k1 k2 CW hne W ι hy
  refine wpH_two 10 14 _ _ rfl rfl (by kernel_rfl) rfl rfl (fun w10 hw10 K hK => ?_) (fun w10 hw10 K hK => ?_)
  · go_simp
    have hbw : Bel wa w10 := GB.undrew hw10
    refine (HST.out w10 (HH.out.step hbw)).mono ?_
    rintro _ wp ⟨rfl, hbk, hsi, hcp⟩
    refine hK _ _ (fun h => absurd (by simp) h) (fun _ => hcp.sub (fun k e => .inl e)) ?_
    clear hK K
    have BKP := Lib.hid hbk; have SIP := Lib.hid hsi
    have CP := Lib.hid (show Chg (fun k => k = B 2 ∨ k = B 3 ∨ k = B 4) wa wp from (Chg.of_bel hbw _).tr hcp)
    have GX := Lib.hid (hcp.get (GB.get hbw G1.out) (fun e => NQ.out (.inl e)))
    have HSP := Lib.hid (show wa.heap.size ≤ wp.heap.size from Nat.le_trans (Below.size hbw) hcp.size)
    clear hbk hsi hcp hbw hw10
    refine wpH_looks 3 26 [11, 12, 13] rfl GB.rf GB.tr (Chg.refl _) (fun _ _ _ => Chg.tr) (fun _ _ h => Chg.of_bel h _) (by kernel_rfl) (fun _ _ _ _ hd h => And.intro (hd ▸ And.left h) (And.right h)) rfl (by kernel_rfl) ?_
    intro ι W hne CW
    repeat (refine wpLooksG_step (fun K hK => ?_); go_simp; refine hK _ ?_; clear hK K)
    refine wpLooksG_nil ?_
    clear CW hne W ι
    refine wpH_force 14 _ rfl (by kernel_rfl) rfl fun w14 hw14 K hK => ?_
    go_simp
    refine hK _ _ (fun _ => GB.al _ _) (fun _ => Chg.of_bel (GB.al _ _) _) ?_
    clear hK K
    have hb14 : Bel wp w14 := hw14
    have c6 := get?_new (w := w14) 41 (default : GStamp)
    have b6 : blkFree (w14.alloc (.cells (GStamp.enc default).toArray 41)) w14.heap.size = true := blkFree_new _ _ rfl
    have hb6 := Bel.trans hb14 ((Bel.refl w14).alloc (.cells (GStamp.enc default).toArray 41))
    have hpw : wp.heap.size ≤ w14.heap.size := Below.size hb14
    obtain ⟨p, hp⟩ : ∃ p, w14.heap.size = p := ⟨_, rfl⟩
    rw [hp] at c6 b6 hpw ⊢
    have hwap : wa.heap.size ≤ wp.heap.size := HSP.out
    change wpH _ _ _ _ _ _ _ _ _ _ _ (w14.alloc (.cells (GStamp.enc default).toArray 41))
    generalize w14.alloc (.cells (GStamp.enc default).toArray 41) = wy at c6 b6 hb6 ⊢
    have HPP := Lib.hid hpw; have HPA := Lib.hid (Nat.le_trans hwap hpw); have C6 := Lib.hid c6; have B6 := Lib.hid b6; have HB6 := Lib.hid hb6
    clear c6 b6 hb6 hpw hp hw14 hb14 hwap
    refine wpH_force 15 _ rfl (by kernel_rfl) rfl fun w11 hw11 K hK => ?_
    have g6 := GB.get hw11 C6.out
    have f6 := (blkFree_keep (Below.block hw11 _ (get?_lt C6.out))).trans B6.out
    have hb11 : Bel wp w11 := GB.tr _ _ _ HB6.out hw11
    go_simp
    refine hK _ _ (fun h => absurd (by simp) h) (fun _ => chg_put (S := (fun k => (k = B 2 ∨ k = B 3 ∨ k = B 4) ∨ wa.heap.size ≤ k)) (.inr HPA.out) _) ?_
    clear hK K
    have hput : Chg (fun k => k = p) w11 (World.putCells w11 ⟨p, 0, none⟩ (GStamp.enc y)) := chg_put (S := fun k => k = p) rfl _
    have P6 := Lib.hid (show get? GStamp (World.putCells w11 ⟨p, 0, none⟩ (GStamp.enc y)) ⟨p, 0, none⟩ = some y from get?_putV y g6)
    have hlp : ∀ j < 20, ¬ B j = p := fun j hj e => by have := HH.out.lt j hj; have := HPA.out; omega
    have RY := Lib.hid (show RepIs w0 (World.putCells w11 ⟨p, 0, none⟩ (GStamp.enc y)) B (gave x m.commit tm) from HH.out.withBSM ((BKP.out.step hb11).chg hput (hlp 1 (by omega)) (hlp 2 (by omega))) (((by have := SIP.out; rw [← HY.out] at this; exact this : StampIs wp (B 3) (B 4) x.c x.id x.now x.floor tm (gave x m.commit tm).stamps).step hb11).chg hput (hlp 3 (by omega)) (hlp 4 (by omega))) (chg_new (((CP.out.tr (Chg.of_bel hb11 _)).sub (S' := fun k => (k = B 2 ∨ k = B 3 ∨ k = B 4) ∨ wa.heap.size ≤ k) (fun k e => .inl e)).tr (hput.sub (fun k e => .inr (e ▸ HPA.out))))))
    have GY := Lib.hid (hput.get (GB.get hb11 GX.out) (show ¬ q = p from by have h1 : q < wa.heap.size := get?_lt G1.out; have := HPA.out; omega))
    clear hlp
    change wpH _ _ _ _ _ _ _ _ _ _ _ (World.putCells w11 ⟨p, 0, none⟩ (GStamp.enc y))
    generalize World.putCells w11 ⟨p, 0, none⟩ (GStamp.enc y) = w5 at hput P6 RY GY ⊢
    clear hput g6 f6 hb11 hw11 C6 B6 HB6 BKP SIP CP GX
    refine wpH_force 16 _ rfl (by kernel_rfl) rfl fun w12 hw12 K hK => ?_
    go_simp
    refine hK _ _ (fun _ => GB.rf _) (fun _ => Chg.refl _ _) ?_
    clear hK K
    refine wpH_end (by kernel_rfl) (fun wr hwr => ?_) _
    have hbr := GB.tr _ _ _ hw12 hwr
    have c4 := GB.get hbr P6.out
    have HR := Lib.hid (RY.out.step hbr)
    have f9 := GMsg.at_from_ (GB.get hbr GY.out)
    simp only [Addr.add_lit, Nat.zero_add] at f9
    clear hw12 hwr hbr P6 RY GY
    go_wp2_with fail
    refine (say_any w0 B (gave x m.commit tm) (stampMsg y) m.from_ wr HR.out (plain_stampMsg y) (by show x.out.length ≤ _; omega)).mono ?_
    rintro _ we ⟨rfl, ho, hre, -, -⟩
    have HRE := Lib.hid hre
    clear hre f9 c4
    go_wp2_with fail
    refine bodyPost_end (results_none rfl _ _ _) rfl ⟨rfl, ho, ?_⟩
    rw [HY.out]
    exact HRE.out
  · go_simp
    refine hK _ _ (fun _ => GB.al _ _) (fun _ => Chg.of_bel (GB.al _ _) _) ?_
    clear hK K
    have hb14 : Bel wa w10 := GB.undrew hw10
    have c6 := get?_new (w := w10) 41 (default : GStamp)
    have b6 : blkFree (w10.alloc (.cells (GStamp.enc default).toArray 41)) w10.heap.size = true := blkFree_new _ _ rfl
    have hb6 := Bel.trans hb14 ((Bel.refl w10).alloc (.cells (GStamp.enc default).toArray 41))
    have hpw : wa.heap.size ≤ w10.heap.size := Below.size hb14
    obtain ⟨p, hp⟩ : ∃ p, w10.heap.size = p := ⟨_, rfl⟩
    rw [hp] at c6 b6 hpw ⊢
    change wpH _ _ _ _ _ _ _ _ _ _ _ (w10.alloc (.cells (GStamp.enc default).toArray 41))
    generalize w10.alloc (.cells (GStamp.enc default).toArray 41) = wy at c6 b6 hb6 ⊢
    have HPA := Lib.hid hpw; have C6 := Lib.hid c6; have B6 := Lib.hid b6; have HB6 := Lib.hid hb6
    clear c6 b6 hb6 hpw hp hw10 hb14
    refine wpH_force 10 _ rfl (by kernel_rfl) rfl fun wv hwv K hK => ?_
    go_simp
    have hbw : Bel wa wv := GB.tr _ _ _ HB6.out hwv
    refine (HST.out wv (HH.out.step hbw)).mono ?_
    rintro _ wp ⟨rfl, hbk, hsi, hcp⟩
    refine hK _ _ (fun h => absurd (by simp) h) (fun _ => hcp.sub (fun k e => .inl e)) ?_
    clear hK K
    have BKP := Lib.hid hbk; have SIP := Lib.hid hsi
    have CP := Lib.hid (show Chg (fun k => k = B 2 ∨ k = B 3 ∨ k = B 4) wa wp from (Chg.of_bel hbw _).tr hcp)
    have GX := Lib.hid (hcp.get (GB.get hbw G1.out) (fun e => NQ.out (.inl e)))
    have np : ¬ (p = B 2 ∨ p = B 3 ∨ p = B 4) := fun e => by
      rcases e with e | e | e
      · have := HH.out.lt 2 (by omega); have := HPA.out; omega
      · have := HH.out.lt 3 (by omega); have := HPA.out; omega
      · have := HH.out.lt 4 (by omega); have := HPA.out; omega
    have C7 := Lib.hid (hcp.get (GB.get hwv C6.out) np)
    have B7 := Lib.hid (hcp.free ((blkFree_keep (Below.block hwv _ (get?_lt C6.out))).trans B6.out) (get?_lt (GB.get hwv C6.out)) np)
    clear hbk hsi hcp hbw hwv C6 B6 HB6 np
    have C6 := C7
    have B6 := B7
    clear C7 B7
    refine wpH_looks 2 26 [11, 12, 13] rfl GB.rf GB.tr (Chg.refl _) (fun _ _ _ => Chg.tr) (fun _ _ h => Chg.of_bel h _) (by kernel_rfl) (fun _ _ _ _ hd h => And.intro (hd ▸ And.left h) (And.right h)) rfl (by kernel_rfl) ?_
    intro ι W hne CW
    repeat (refine wpLooksG_step (fun K hK => ?_); go_simp; refine hK _ ?_; clear hK K)
    refine wpLooksG_nil ?_
    clear CW hne W ι
    refine wpH_force 15 _ rfl (by kernel_rfl) rfl fun w11 hw11 K hK => ?_
    have g6 := GB.get hw11 C6.out
    have f6 := (blkFree_keep (Below.block hw11 _ (get?_lt C6.out))).trans B6.out
    have hb11 : Bel wp w11 := hw11
    go_simp
    refine hK _ _ (fun h => absurd (by simp) h) (fun _ => chg_put (S := (fun k => (k = B 2 ∨ k = B 3 ∨ k = B 4) ∨ wa.heap.size ≤ k)) (.inr HPA.out) _) ?_
    clear hK K
    have hput : Chg (fun k => k = p) w11 (World.putCells w11 ⟨p, 0, none⟩ (GStamp.enc y)) := chg_put (S := fun k => k = p) rfl _
    have P6 := Lib.hid (show get? GStamp (World.putCells w11 ⟨p, 0, none⟩ (GStamp.enc y)) ⟨p, 0, none⟩ = some y from get?_putV y g6)
    have hlp : ∀ j < 20, ¬ B j = p := fun j hj e => by have := HH.out.lt j hj; have := HPA.out; omega
    have RY := Lib.hid (show RepIs w0 (World.putCells w11 ⟨p, 0, none⟩ (GStamp.enc y)) B (gave x m.commit tm) from HH.out.withBSM ((BKP.out.step hb11).chg hput (hlp 1 (by omega)) (hlp 2 (by omega))) (((by have := SIP.out; rw [← HY.out] at this; exact this : StampIs wp (B 3) (B 4) x.c x.id x.now x.floor tm (gave x m.commit tm).stamps).step hb11).chg hput (hlp 3 (by omega)) (hlp 4 (by omega))) (chg_new (((CP.out.tr (Chg.of_bel hb11 _)).sub (S' := fun k => (k = B 2 ∨ k = B 3 ∨ k = B 4) ∨ wa.heap.size ≤ k) (fun k e => .inl e)).tr (hput.sub (fun k e => .inr (e ▸ HPA.out))))))
    have GY := Lib.hid (hput.get (GB.get hb11 GX.out) (show ¬ q = p from by have h1 : q < wa.heap.size := get?_lt G1.out; have := HPA.out; omega))
    clear hlp
    change wpH _ _ _ _ _ _ _ _ _ _ _ (World.putCells w11 ⟨p, 0, none⟩ (GStamp.enc y))
    generalize World.putCells w11 ⟨p, 0, none⟩ (GStamp.enc y) = w5 at hput P6 RY GY ⊢
    clear hput g6 f6 hb11 hw11 C6 B6 BKP SIP CP GX
    refine wpH_force 16 _ rfl (by kernel_rfl) rfl fun w12 hw12 K hK => ?_
    go_simp
    refine hK _ _ (fun _ => GB.rf _) (fun _ => Chg.refl _ _) ?_
    clear hK K
    refine wpH_end (by kernel_rfl) (fun wr hwr => ?_) _
    have hbr := GB.tr _ _ _ hw12 hwr
    have c4 := GB.get hbr P6.out
    have HR := Lib.hid (RY.out.step hbr)
    have f9 := GMsg.at_from_ (GB.get hbr GY.out)
    simp only [Addr.add_lit, Nat.zero_add] at f9
    clear hw12 hwr hbr P6 RY GY
    go_wp2_with fail
    refine (say_any w0 B (gave x m.commit tm) (stampMsg y) m.from_ wr HR.out (plain_stampMsg y) (by show x.out.length ≤ _; omega)).mono ?_
    rintro _ we ⟨rfl, ho, hre, -, -⟩
    have HRE := Lib.hid hre
    clear hre f9 c4
    go_wp2_with fail
    refine bodyPost_end (results_none rfl _ _ _) rfl ⟨rfl, ho, ?_⟩
    rw [HY.out]
    exact HRE.out
end Go.Proofs.YtfhhcgldikmejaaGreatDoor
/- A replica that is not the first one's proposer starts. Conditions: those named in each theorem. -/
namespace Go.Proofs.YtfhhcgldikmejaaGreatDoor
open Go Go.RowKit Go.Gv Go.Proofs

/-- As it stands behind Start. -/
def waiting (x : RSt) : RSt := { timed { x with started := true, s := entered core0 0, b1 := false, b2 := false, b3 := false } 1 with ho := nilH, out := [] }
set_option maxRecDepth 100000 in
set_option maxHeartbeats 4000000 in
theorem repStartO_any (w0 : World) (B : Nat → Nat) (x : RSt) (f : Nat) (w : World) (h : RepIs w0 w B x) (hs : x.s = core0) (hA : x.A = []) (hLq : x.L = []) (hn : x.now = 0) (ho : x.out = []) (ht : x.timers = []) (hi : x.id ≤ 1000000) (hB : x.book.length ≤ 1000000000) (hf : x.c.f = (f : Int)) (hf0 : 1 ≤ f) (hf1 : f ≤ 21) (hid : ¬ (0 : Int) = x.id) :
    Calls Tryz.prog 21 #[.pointer (some ⟨B 0, 0, none⟩)] w fun e w' => ∃ (l : Hdr), e = .returned (.slice l.a l.len l.cap) ∧ RepIs w0 w' B (waiting x) := by
  obtain ⟨hfr, a, hg⟩ := rep_other h
  have hfz := frozen_of_free (a := ⟨B 0, 4, none⟩) hfr
  have kst := (rep_cells h).2.2.1
  have hc : Chg (fun k => k = B 0) w (w.setCell ⟨B 0, 4, none⟩ (.bool true)) := chg_cell (S := fun k => k = B 0) rfl _
  have h1 := h.withStarted true hc (fun a ha => get?_poke ha (rep_started (repG B x a) true)) (by rw [blkFree_setCell]; exact hfr)
  clear hg hc h
  go_enter Tryz.func21, Tryz.ntmps21
  go_upto_region 2 with fail
  obtain ⟨x1, hx1⟩ : ∃ x1 : RSt, { x with started := true } = x1 := ⟨_, rfl⟩
  have hs : x1.s = core0 := by rw [← hx1]; exact hs
  have hA : x1.A = [] := by rw [← hx1]; exact hA
  have hLq : x1.L = [] := by rw [← hx1]; exact hLq
  have hn : x1.now = 0 := by rw [← hx1]; exact hn
  have ho : x1.out = [] := by rw [← hx1]; exact ho
  have ht : x1.timers = [] := by rw [← hx1]; exact ht
  have hi2 : x1.id ≤ 1000000 := by rw [← hx1]; exact hi
  have hB : x1.book.length ≤ 1000000000 := by rw [← hx1]; exact hB
  have hf : x1.c.f = (f : Int) := by rw [← hx1]; exact hf
  have hcc : x1.c = x.c := by rw [← hx1]
  have hii : x1.id = x.id := by rw [← hx1]
  rw [hx1] at h1
  generalize w.setCell ⟨B 0, 4, none⟩ (.bool true) = wa at h1 ⊢
  have H1 := Lib.hid h1
  have k0 := (rep_cells h1).2.2.2.2.2.2.2.1
  have k1 := (ep_cells h1).1
  have hcore : Calls Tryz.prog 43 #[.pointer (some ⟨B 12, 0, none⟩)] wa fun e w' => ∃ A2 : Option Addr, e = .returned (.slice A2 1 1) ∧ Sl GCoreAct w' w'.heap.size A2 1 [enterAct core0 x1.id 0 0] ∧ RepIs w0 w' B { x1 with s := entered core0 0, b1 := false, b2 := false, b3 := false } := by
    have hh := startC_any (B 12) (B 13) (B 14) (B 20) (B 16) (B 17) (B 18) x1.c 0 x1.id x1.s x1.b1 x1.b2 x1.b3 x1.H x1.A x1.L wa h1.core f 0 hf hf0 hf1 rfl (by omega) (h1.apart 12 13 (by omega) (by omega) (by omega) (by omega)) (by rw [hs]; rfl) (by rw [hs]; rfl) (by rw [hLq]; intro p hp; cases hp) (by rw [hA, hf]; simp [allOf, mget_nil]; omega)
    refine hh.mono ?_
    rintro e w' ⟨A2, rfl, hsl, hco, hch⟩
    refine ⟨A2, rfl, ?_, ?_⟩
    · rw [hs] at hsl
      simpa using hsl
    · rw [hs] at hco
      exact h1.withCore hco hch
  have HC := Lib.hid hcore
  have HX1 := Lib.hid hx1
  obtain ⟨x2, hx2⟩ : ∃ x2 : RSt, ({ x1 with s := entered core0 0, b1 := false, b2 := false, b3 := false } : RSt) = x2 := ⟨_, rfl⟩
  have HX2 := Lib.hid hx2
  have e1 := Lib.hid (show x2.now = 0 by rw [← hx2]; exact hn)
  have e2 := Lib.hid (show x2.out = [] by rw [← hx2]; exact ho)
  have e3 := Lib.hid (show x2.timers = [] by rw [← hx2]; exact ht)
  have e4 := Lib.hid (show x2.id = x1.id by rw [← hx2])
  have e5 := Lib.hid (show x2.c = x.c by rw [← hx2]; exact hcc)
  have e6 := Lib.hid (show x2.s = entered core0 0 by rw [← hx2])
  have e7 := Lib.hid (show x2.book.length ≤ 1000000000 by rw [← hx2]; exact hB)
  have e8 := Lib.hid (show x2.c.f = (f : Int) by rw [← hx2]; exact hf)
  have HI2 := Lib.hid hi2; have HII := Lib.hid hii; have HF0 := Lib.hid hf0; have HF1 := Lib.hid hf1
  rw [hx2] at HC
  clear hcore hx1 hx2 hs hA hLq hn ho ht hi2 hB hf hcc hii h1 hi hfr hfz kst hf0 hf1
  go_wp2_with fail
  refine HC.out.mono ?_
  rintro _ w2 ⟨A2, rfl, hsl, hr⟩
  have HR := Lib.hid hr
  have HSL := Lib.hid hsl
  clear hsl hr k0 k1
  go_wp2_with fail
  have hfin : ∀ (w3 : World), RepIs w0 w3 B (timed x2 1) → Calls Tryz.prog 25 #[.pointer (some ⟨B 0, 0, none⟩)] w3 fun e w' => ∃ (l : Hdr), e = .returned (.slice l.a l.len l.cap) ∧ RepIs w0 w' B (waiting x) := by
    intro w3 hy
    refine (told_any w0 B (timed x2 1) w3 hy).mono ?_
    rintro e w' ⟨rfl, h1, h2, h3⟩
    refine ⟨_, rfl, ?_⟩
    have hx := HX2.out
    rw [← HX1.out] at hx
    rw [← hx] at h1
    exact h1
  have HFIN := Lib.hid hfin
  clear hfin
  have hwant : Calls Tryz.prog 42 #[.pointer (some ⟨B 0, 0, none⟩), .slice A2 1 1] w2 fun e w' => e = .returned (.tuple #[]) ∧ RepIs w0 w' B (timed x2 1) := by
    have hsl := HSL.out
    have hid2 : ¬ ((0 : Nat) : Int) = x1.id := fun e => hid (by rw [← HII.out, ← e]; rfl)
    rw [show enterAct core0 x1.id 0 0 = ⟨4, 0, 1, default⟩ by unfold enterAct; rw [if_neg hid2]] at hsl
    exact want4_any w0 B x2 1 A2 w2 HR.out hsl e1.out (by rw [e3.out]; simp)
  refine hwant.mono ?_
  rintro _ w3 ⟨rfl, hy⟩
  have HY := Lib.hid hy
  clear hwant hy
  go_wp2_with fail
  refine (HFIN.out w3 HY.out).mono ?_
  rintro _ w4 ⟨l, rfl, r1⟩
  have R1 := Lib.hid r1
  clear r1
  go_wp2_with fail
  go_ret
  exact ⟨l, rfl, R1.out⟩
end Go.Proofs.YtfhhcgldikmejaaGreatDoor
/- Messages by which nothing changes; the law's start of a replica. Conditions: those named in each theorem. -/
namespace Go.Proofs.YtfhhcgldikmejaaGreatDoor
open Go Go.RowKit Go.Gv Go.Proofs

set_option maxRecDepth 100000 in
set_option maxHeartbeats 4000000 in
theorem doMsgQ_any (w0 : World) (B : Nat → Nat) (x : RSt) (m mo : GMsg) (t : Int) (w : World) (h : RepIs w0 w B x) (hst : x.started = true) (hho : x.ho = nilH) (hox : x.out = []) (hk : (m.kind == 0) = false) (hto : m.to = x.id)
    (hO : ∀ w1, Calls Tryz.prog 24 #[m.val] w1 fun e w' => e = .returned mo.val ∧ Bel w1 w')
    (hT : ∀ w1, RepIs w0 w1 B x → Calls Tryz.prog 23 #[.pointer (some ⟨B 0, 0, none⟩), mo.val] w1 fun e w' => e = .returned (.tuple #[]) ∧ Bel w1 w') :
    Calls Tryz.prog 8 #[.pointer (some ⟨B 0, 0, none⟩), (⟨t, m⟩ : GReplicaEvent).val] w fun e w' => e = .returned (.slice none 0 0) ∧ RepIs w0 w' B x ∧ Chg (fun k => k = B 0) w w' := by
  have hba := (Bel.refl w).alloc (.cells (GReplicaEvent.enc ⟨t, m⟩).toArray 72)
  have h2 := h.step hba
  have k0 := (rep_cells h2).2.2.1
  have k1 := (rep_cells h2).1
  rw [hst] at k0
  have c1 : get? GReplicaEvent (w.alloc (.cells (GReplicaEvent.enc ⟨t, m⟩).toArray 72)) ⟨w.heap.size, 0, none⟩ = some ⟨t, m⟩ := get?_new _ _
  have f1 := GMsg.at_kind (GReplicaEvent.at_msg c1)
  have f2 := GMsg.at_to (GReplicaEvent.at_msg c1)
  have f3 := GReplicaEvent.at_msg c1
  simp only [Addr.add_lit, Nat.zero_add] at f1 f2 f3
  rw [hto] at f2
  have H2 := Lib.hid h2; have HO := Lib.hid hO; have HT := Lib.hid hT; have HBA := Lib.hid hba; have HHO := Lib.hid hho; have HOX := Lib.hid hox
  clear h hba h2 hst c1 hO hT hto hho hox
  go_enter Tryz.func8, Tryz.ntmps8
  go_upto_region 8 with fail
  go_big_quiet (fail)
  go_wp2_with fail
  refine (HO.out _).mono ?_
  rintro _ w1 ⟨rfl, hb⟩
  have HB1 := Lib.hid (Bel.trans (bdN (Bel.refl _) nq) hb)
  have H3 := Lib.hid (H2.out.step HB1.out)
  clear hb f1 f2 f3 k0 k1
  go_wp2_with fail
  refine (HT.out w1 H3.out).mono ?_
  rintro _ w2 ⟨rfl, hr⟩
  have HR := Lib.hid (H3.out.step hr)
  have HB2 := Lib.hid ((HBA.out.trans HB1.out).trans hr)
  clear hr
  go_wp2_with fail
  refine (told_any w0 B x w2 HR.out).mono ?_
  rintro _ w3 ⟨rfl, hr3, -, hc3⟩
  have hxx : ({ x with ho := nilH, out := [] } : RSt) = x := by
    have h1 := HHO.out; have h2 := HOX.out
    cases x
    simp only at h1 h2
    rw [h1, h2]
  rw [hxx] at hr3
  rw [HHO.out]
  have HR3 := Lib.hid hr3; have HC3 := Lib.hid hc3
  clear hr3 hc3 hxx
  go_wp2_with fail
  go_ret
  exact ⟨rfl, HR3.out, (Chg.of_bel HB2.out _).tr HC3.out⟩
set_option maxRecDepth 100000 in
set_option maxHeartbeats 4000000 in
theorem start_any (c : GConf) (i : Int) (f : Nat) (w : World) (hm : mayR c i = true) (hid : ¬ (0 : Int) = i) (hi : i ≤ 1000000) (hf : c.f = (f : Int)) (hf0 : 1 ≤ f) (hf1 : f ≤ 21) :
    Calls Tryz.prog 6 #[c.val, .int .i64 i] w fun e w' => ∃ B : Nat → Nat, e = .returned (.tuple #[.pointer (some ⟨B 0, 0, none⟩), .pointer (some ⟨B 1, 0, none⟩), .bool true]) ∧ RepIs w w' B (waiting (fresh c i [])) := by
  have HM := Lib.hid hm; have HID := Lib.hid hid; have HI := Lib.hid hi; have HF := Lib.hid hf
  have c1 : get? GConf (w.alloc (.cells (GConf.enc c).toArray 24)) ⟨w.heap.size, 0, none⟩ = some c := get?_new _ _
  have HBA := Lib.hid ((Bel.refl w).alloc (.cells (GConf.enc c).toArray 24))
  clear hm hid hi hf
  go_enter Tryz.func6, Tryz.ntmps6
  go_wp2_with fail
  refine (newBook_any _).mono ?_
  rintro _ w1 ⟨gb, mb, rfl, hbk, hg1, hg2, hb1⟩
  have HBK := Lib.hid hbk; have HB1 := Lib.hid (HBA.out.trans hb1)
  have HG1 := Lib.hid (show w.heap.size ≤ gb by have := Below.size HBA.out; omega); have HG2 := Lib.hid (show w.heap.size ≤ mb by have := Below.size HBA.out; omega)
  have c2 := GB.get hb1 c1
  clear hbk hb1 hg1 hg2 c1
  go_wp2_with fail
  refine (repNew_any c i (some ⟨gb, 0, none⟩) w1 HM.out).mono ?_
  rintro _ w2 ⟨g, gs, ms, gt, mt, gl, ml, gv, mv, gk, gtt, mh, mc, ma, mla, mq, mb2, mp, ge, a, rfl, hmade⟩
  have HR := Lib.hid (hmade.repIs HBK.out HB1.out HG1.out HG2.out)
  clear hmade c2
  go_wp2_with fail
  have hst := repStartO_any w _ (fresh c i []) f w2 HR.out rfl rfl rfl rfl rfl rfl HI.out (by show (0 : Nat) ≤ _; omega) HF.out hf0 hf1 HID.out
  refine hst.mono ?_
  rintro _ w3 ⟨l, rfl, hy⟩
  have HY := Lib.hid hy
  clear hy hst
  go_wp2_with fail
  exact bodyPost_ret (results_tmp3 rfl _ _ _) rfl ⟨_, rfl, HY.out⟩
end Go.Proofs.YtfhhcgldikmejaaGreatDoor
/- A proposer's call for promises, as the law sends it. Conditions: those named in each theorem. -/
namespace Go.Proofs.YtfhhcgldikmejaaGreatDoor
open Go Go.RowKit Go.Gv Go.Proofs

theorem within_nat (x : Int) (k : Nat) (hk : 0 < k) : ∃ q : Nat, within x k = (q : Int) ∧ q < k := by
  have hr : 0 ≤ within x k ∧ within x k < (k : Int) := by unfold within; rw [if_neg (by omega)]; exact ⟨Int.emod_nonneg _ (by omega), Int.emod_lt_of_pos _ (by omega)⟩
  exact ⟨(within x k).toNat, by omega, by omega⟩
/-- A replica of four, the last one, started, nothing to say. -/
structure Calm (x : RSt) (n : Nat) : Prop where
  st : x.started = true
  ho : x.ho = nilH
  out : x.out = []
  c : x.c = ⟨1, 1⟩
  id : x.id = 3
  now : x.now = (n : Int)
  n0 : 1 ≤ n
  n1 : n ≤ 1000000
  bl : x.book.length ≤ 1000
def closeX (rd r tm : Nat) : GMsg := ⟨5, rd, 3, default, default, default, default, 0, r, tm, default, default, default, 0, default, default, default, ByteArray.empty, default⟩
theorem mset_get (B : MBook) (k : GBookSigned) (v : Int) : (mget (mset B k v) k).getD 0 = v := by rw [mget_mset_same]; rfl
theorem rightB_sign (B : MBook) (k : GBookSigned) (hp : ∀ k, 0 ≤ (mget B k).getD 0) : rightB (signB B k) k (markOf B k) = true := by
  unfold rightB signB markOf
  by_cases h0 : (mget B k).getD 0 = 0
  · rw [if_pos h0, if_pos h0, mset_get]
    simp only [decide_true, Bool.and_true, decide_eq_true_eq]
    omega
  · rw [if_neg h0, if_neg h0]
    have := hp k
    simp
    omega
theorem sign_pos (B : MBook) (k : GBookSigned) (hp : ∀ k, 0 ≤ (mget B k).getD 0) : ∀ j, 0 ≤ (mget (signB B k) j).getD 0 := by
  intro j
  unfold signB
  by_cases h0 : (mget B k).getD 0 = 0
  · rw [if_pos h0]
    by_cases hj : j = k
    · subst hj; rw [mset_get]; omega
    · have : mget (mset B k ((B.length : Int) + 1)) j = mget B j := mget_mset_other _ _ hj
      rw [this]; exact hp j
  · rw [if_neg h0]; exact hp j
theorem sign_len (B : MBook) (k : GBookSigned) : (signB B k).length ≤ B.length + 1 := by
  unfold signB
  split
  · exact mset_length_le _ _ _
  · omega
def commitX (c : GCommit) (fr : Int) : GMsg := ⟨1, fr, 3, c, default, default, default, 0, 0, 0, default, default, default, 0, default, default, default, ByteArray.empty, default⟩
end Go.Proofs.YtfhhcgldikmejaaGreatDoor
/- What a replica does leaves other blocks alone; a message's answer kept. Conditions: those named in each theorem. -/
namespace Go.Proofs.YtfhhcgldikmejaaGreatDoor
open Go Go.RowKit Go.Gv Go.Proofs

open Classical in
/-- What is kept, and one block more. -/
noncomputable def keepMore (K : Nat → Option Obj) (w : World) (ob : Option Nat) : Nat → Option Obj := fun k => if ob = some k then w.heap[k]? else K k
open Classical in
/-- All that is kept, and what is new since w, as it stands in w'. -/
noncomputable def keepNew (K : Nat → Option Obj) (w w' : World) : Nat → Option Obj := fun k => if (K k).isSome = true ∨ w.heap.size ≤ k then w'.heap[k]? else none
section
variable {w0 w w' : World} {B : Nat → Nat} {x : RSt}
theorem RepIs.toldK (h : RepIs w0 w B x) (hc : Chg (fun k => k = B 0) w w') (hg : ∀ a, get? GReplicaReplica w ⟨B 0, 0, none⟩ = some (repG B x a) → get? GReplicaReplica w' ⟨B 0, 0, none⟩ = some (repG B { x with ho := nilH } a)) (hf : blkFree w' (B 0) = true) :
    RepIs w0 w' B { x with ho := nilH, out := [], kept := keepMore x.kept w x.ho.val.ownBlock } := by
  obtain ⟨a, bm, ht, hp, h1, h2, h3, h4, h5⟩ := h.more
  have n := h.ne (i := 0) (by omega)
  refine ⟨Chg.bel2 h.bel hc (fun k e => e ▸ h.new 0 (by omega)), h.new, fun j hj => Nat.lt_of_lt_of_le (h.lt j hj) hc.size, h.apart, h.book.chg hc (n 1 (by omega) (by omega)) (n 2 (by omega) (by omega)), h.st.chg hc (n 3 (by omega) (by omega)) (n 4 (by omega) (by omega)), h.tb.chg hc (n 5 (by omega) (by omega)) (n 6 (by omega) (by omega)), h.led.chg hc (n 7 (by omega) (by omega)) (n 8 (by omega) (by omega)),
    h.rev.chg hc (n 9 (by omega) (by omega)) (n 10 (by omega) (by omega)), h.core.chg hc (n 12 (by omega) (by omega)) (n 13 (by omega) (by omega)) (n 18 (by omega) (by omega)) (n 14 (by omega) (by omega)) (n 16 (by omega) (by omega)) (n 17 (by omega) (by omega)), hc.map h.pre (n 19 (by omega) (by omega)),
    a, bm, ht, hp, hg a h1, hf, hc.get h3 (n 11 (by omega) (by omega)), hc.free h4 (get?_lt h3) (n 11 (by omega) (by omega)), ?_⟩
  have h6 := h5.one hc (by omega)
  refine ⟨OwnS.nil _ _ _, h6.timers, h6.proms, (fun j hj e => nomatch e), h6.nt, h6.np, (fun k e => nomatch e), h6.tp, fun p e => ?_, fun k o e => ?_⟩
  · obtain ⟨p1, p2, p3, p4, p5, p6⟩ := h6.pv p e
    exact ⟨p1, p2, p3, (fun e => nomatch e), p5, p6⟩
  · change keepMore x.kept w x.ho.val.ownBlock k = some o at e
    unfold keepMore at e
    by_cases hk : x.ho.val.ownBlock = some k
    · rw [if_pos hk] at e
      have hne : ¬ k = B 0 := fun e2 => h5.no 0 (by omega) (by rw [hk, e2])
      exact ⟨(hc.block k (some_lt e) hne).trans e, fun j hj e2 => h5.no j hj (by rw [hk, e2]), (fun e => nomatch e), (h5.ot k hk).1, (h5.ot k hk).2⟩
    · rw [if_neg hk] at e
      obtain ⟨q1, q2, q3, q4, q5⟩ := h6.kp k o e
      exact ⟨q1, q2, (fun e => nomatch e), q4, q5⟩
/-- What the law itself does: it writes kept and new blocks alone. -/
theorem RepIs.law {S : Nat → Prop} (h : RepIs w0 w B x) (hpv : x.pv = none) (hc : Chg S w w') (hS0 : ∀ k, S k → w0.heap.size ≤ k) (hS : ∀ k, S k → (x.kept k).isSome = true ∨ w.heap.size ≤ k) : RepIs w0 w' B { x with kept := keepNew x.kept w w' } := by
  obtain ⟨a, bm, ht, hp, h1, h2, h3, h4, h5⟩ := h.more
  have hk : ∀ k, (x.kept k).isSome = true → ∃ o, x.kept k = some o := fun k e => Option.isSome_iff_exists.1 e
  have n : ∀ j < 20, ¬ S (B j) := fun j hj e => (hS _ e).elim (fun e => by obtain ⟨o, e⟩ := hk _ e; exact (h5.kp _ o e).2.1 j hj rfl) (fun e => by have := h.lt j hj; omega)
  have no : ∀ k, x.ho.val.ownBlock = some k → ¬ S k := fun k hk2 e => (hS _ e).elim (fun e => by obtain ⟨o, e⟩ := hk _ e; exact (h5.kp _ o e).2.2.1 hk2) (fun e => by have := (h5.out.lt k hk2).2; omega)
  have nt : ∀ k, ht.val.ownBlock = some k → ¬ S k := fun k hk2 e => (hS _ e).elim (fun e => by obtain ⟨o, e⟩ := hk _ e; exact (h5.kp _ o e).2.2.2.1 hk2) (fun e => by have := (h5.timers.lt k hk2).2; omega)
  have np : ∀ k, hp.val.ownBlock = some k → ¬ S k := fun k hk2 e => (hS _ e).elim (fun e => by obtain ⟨o, e⟩ := hk _ e; exact (h5.kp _ o e).2.2.2.2 hk2) (fun e => by have := (h5.proms.lt k hk2).2; omega)
  have hbel : Bel w0 w' := Chg.bel2 h.bel hc hS0
  refine ⟨hbel, h.new, fun j hj => Nat.lt_of_lt_of_le (h.lt j hj) hc.size, h.apart, h.book.chg hc (n 1 (by omega)) (n 2 (by omega)), h.st.chg hc (n 3 (by omega)) (n 4 (by omega)), h.tb.chg hc (n 5 (by omega)) (n 6 (by omega)), h.led.chg hc (n 7 (by omega)) (n 8 (by omega)),
    h.rev.chg hc (n 9 (by omega)) (n 10 (by omega)), h.core.chg hc (n 12 (by omega)) (n 13 (by omega)) (n 18 (by omega)) (n 14 (by omega)) (n 16 (by omega)) (n 17 (by omega)), hc.map h.pre (n 19 (by omega)),
    a, bm, ht, hp, hc.get h1 (n 0 (by omega)), hc.free h2 (get?_lt h1) (n 0 (by omega)), hc.get h3 (n 11 (by omega)), hc.free h4 (get?_lt h3) (n 11 (by omega)), ?_⟩
  refine ⟨h5.out.chg hc no, h5.timers.chg hc nt, h5.proms.chg hc np, h5.no, h5.nt, h5.np, h5.ot, h5.tp, fun p e => ?_, fun k o e => ?_⟩
  · have e2 : x.pv = some p := e
    rw [hpv] at e2; cases e2
  · change keepNew x.kept w w' k = some o at e
    unfold keepNew at e
    by_cases hk2 : (x.kept k).isSome = true ∨ w.heap.size ≤ k
    · rw [if_pos hk2] at e
      refine ⟨e, ?_⟩
      rcases hk2 with hk2 | hk2
      · obtain ⟨o2, e2⟩ := hk _ hk2
        exact (h5.kp k o2 e2).2
      · exact ⟨fun j hj e2 => by have := h.lt j hj; omega, fun e2 => by have := (h5.out.lt k e2).2; omega, fun e2 => by have := (h5.timers.lt k e2).2; omega, fun e2 => by have := (h5.proms.lt k e2).2; omega⟩
    · rw [if_neg hk2] at e; cases e
end
set_option maxRecDepth 100000 in
theorem toldK_any (w0 : World) (B : Nat → Nat) (x : RSt) (w : World) (h : RepIs w0 w B x) : Calls Tryz.prog 25 #[.pointer (some ⟨B 0, 0, none⟩)] w fun e w' =>
    e = .returned (.slice x.ho.a x.ho.len x.ho.cap) ∧ RepIs w0 w' B { x with ho := nilH, out := [], kept := keepMore x.kept w x.ho.val.ownBlock } ∧ OwnS w' w0.heap.size 70 x.ho.val x.out ∧ (∀ k, x.ho.val.ownBlock = some k → keepMore x.kept w x.ho.val.ownBlock k = w'.heap[k]?) := by
  have HH := Lib.hid h
  obtain ⟨hfr, a, hg⟩ := rep_other h
  have HG := Lib.hid hg; have HF := Lib.hid hfr
  have f0 := GReplicaReplica.at_out hg
  simp only [Addr.add_lit, Nat.zero_add] at f0
  change w.cell? ⟨B 0, 13, none⟩ = some (.slice x.ho.a x.ho.len x.ho.cap) at f0
  have hfz := frozen_of_free (a := ⟨B 0, 13, none⟩) hfr
  clear h hg hfr
  go_enter Tryz.func25, Tryz.ntmps25
  go_wp2_with fail
  go_ret
  have hc : Chg (fun k => k = B 0) w (w.setCell ⟨B 0, 13, none⟩ (.slice none 0 0)) := chg_cell (S := fun k => k = B 0) rfl _
  refine ⟨rfl, ?_, ?_, ?_⟩
  · exact HH.out.toldK hc (fun a ha => get?_poke ha (rep_out (repG B x a) nilH)) (by rw [blkFree_setCell]; exact HF.out)
  · exact (rep_own HH.out).1.chg hc (fun k e he => (rep_own HH.out).2 0 (by omega) (by rw [e, he]))
  · intro k e
    unfold keepMore
    rw [if_pos e]
    exact (hc.block k ((rep_own HH.out).1.lt k e).2 (fun he => (rep_own HH.out).2 0 (by omega) (by rw [e, he]))).symm
set_option maxRecDepth 100000 in
set_option maxHeartbeats 4000000 in
theorem doMsgK_any (w0 : World) (B : Nat → Nat) (x y : RSt) (m mo : GMsg) (t : Int) (w : World) (h : RepIs w0 w B x) (hst : x.started = true) (hk : (m.kind == 0) = false) (hto : m.to = x.id)
    (hO : ∀ w1, Calls Tryz.prog 24 #[m.val] w1 fun e w' => e = .returned mo.val ∧ Bel w1 w')
    (hT : ∀ w1, RepIs w0 w1 B x → Calls Tryz.prog 23 #[.pointer (some ⟨B 0, 0, none⟩), mo.val] w1 fun e w' => e = .returned (.tuple #[]) ∧ ∃ ho, RepIs w0 w' B { y with ho := ho }) :
    Calls Tryz.prog 8 #[.pointer (some ⟨B 0, 0, none⟩), (⟨t, m⟩ : GReplicaEvent).val] w fun e w' => ∃ (hd : Hdr) (K : Nat → Option Obj), e = .returned (.slice hd.a hd.len hd.cap) ∧ RepIs w0 w' B { y with ho := nilH, out := [], kept := K } ∧ OwnS w' w0.heap.size 70 hd.val y.out ∧ (∀ k, hd.val.ownBlock = some k → K k = w'.heap[k]?) ∧ (∀ k o, y.kept k = some o → K k = some o) := by
  have hba := (Bel.refl w).alloc (.cells (GReplicaEvent.enc ⟨t, m⟩).toArray 72)
  have h2 := h.step hba
  have k0 := (rep_cells h2).2.2.1
  have k1 := (rep_cells h2).1
  rw [hst] at k0
  have c1 : get? GReplicaEvent (w.alloc (.cells (GReplicaEvent.enc ⟨t, m⟩).toArray 72)) ⟨w.heap.size, 0, none⟩ = some ⟨t, m⟩ := get?_new _ _
  have f1 := GMsg.at_kind (GReplicaEvent.at_msg c1)
  have f2 := GMsg.at_to (GReplicaEvent.at_msg c1)
  have f3 := GReplicaEvent.at_msg c1
  simp only [Addr.add_lit, Nat.zero_add] at f1 f2 f3
  rw [hto] at f2
  have H2 := Lib.hid h2; have HO := Lib.hid hO; have HT := Lib.hid hT
  clear h hba h2 hst c1 hO hT hto
  go_enter Tryz.func8, Tryz.ntmps8
  go_upto_region 8 with fail
  go_big_quiet (fail)
  go_wp2_with fail
  refine (HO.out _).mono ?_
  rintro _ w1 ⟨rfl, hb⟩
  have H3 := Lib.hid (H2.out.step (Bel.trans (bdN (Bel.refl _) nq) hb))
  clear hb f1 f2 f3 k0 k1
  go_wp2_with fail
  refine (HT.out w1 H3.out).mono ?_
  rintro _ w2 ⟨rfl, ho, hr⟩
  have HR := Lib.hid hr
  clear hr
  go_wp2_with fail
  refine (toldK_any w0 B { y with ho := ho } w2 HR.out).mono ?_
  rintro _ w3 ⟨rfl, hr3, hs, hk3⟩
  have HR3 := Lib.hid hr3; have HS := Lib.hid hs; have HK3 := Lib.hid hk3
  have HKK := Lib.hid (show ∀ k o, y.kept k = some o → keepMore y.kept w2 ho.val.ownBlock k = some o from fun k o e => by
    unfold keepMore
    by_cases hk : ho.val.ownBlock = some k
    · rw [if_pos hk]
      obtain ⟨_, _, _, _, _, _, _, _, h5⟩ := HR.out.more
      exact (h5.kp k o e).1
    · rw [if_neg hk]; exact e)
  clear hr3 hs hk3
  go_wp2_with fail
  go_ret
  exact ⟨ho, _, rfl, HR3.out, HS.out, HK3.out, HKK.out⟩
set_option maxRecDepth 100000 in
set_option maxHeartbeats 4000000 in
theorem take1Q_any (w0 : World) (B : Nat → Nat) (x : RSt) (m : GMsg) (w : World) (h : RepIs w0 w B x) (hk : m.kind = 1)
    (hT : ∀ w1, RepIs w0 w1 B x → Calls Tryz.prog 53 #[.pointer (some ⟨B 0, 0, none⟩), m.val] w1 fun e w' => e = .returned (.tuple #[]) ∧ Bel w1 w') :
    Calls Tryz.prog 23 #[.pointer (some ⟨B 0, 0, none⟩), m.val] w fun e w' => e = .returned (.tuple #[]) ∧ Bel w w' := by
  have c1 : get? GMsg (w.alloc (.cells (GMsg.enc m).toArray 70)) ⟨w.heap.size, 0, none⟩ = some m := get?_new _ _
  have hba := (Bel.refl w).alloc (.cells (GMsg.enc m).toArray 70)
  have H2 := Lib.hid (h.step hba); have HT := Lib.hid hT; have HK := Lib.hid hk; have HBA := Lib.hid hba
  clear h hba hT hk
  go_enter Tryz.func23, Tryz.ntmps23
  go_wp2_with fail
  refine (late1_any _ m _ HK.out).mono ?_
  rintro _ w1 ⟨rfl, hb⟩
  have H3 := Lib.hid (H2.out.step hb); have HB1 := Lib.hid (HBA.out.trans hb)
  have c2 := GB.get hb c1
  have f0 := GMsg.at_kind c2
  simp only [Addr.add_lit, Nat.zero_add] at f0
  rw [HK.out] at f0
  clear hb c1
  go_wp2_with fail
  refine (HT.out w1 H3.out).mono ?_
  rintro _ w2 ⟨rfl, hr⟩
  have HR := Lib.hid (HB1.out.trans hr)
  clear hr c2 f0
  go_wp2_with fail
  exact bodyPost_end (results_none rfl _ _ _) rfl ⟨rfl, HR.out⟩
/-- A message for another replica is not taken. -/
theorem results_cell_two {P : Program} {fn : Func} {α : Type} [Enc α] {a u v : Tmp} {t : TypeId} {tmps : Array Value} {w : World} {ad : Addr} {x : α} (hres : fn.results = #[.cell a t, .tmp u, .tmp v]) (ha : tmps.getD a undef = .pointer (some ad)) (h1 : aggT P t = true) (h2 : sizeT P t = Enc.n α) (hg : get? α w ad = some x) :
    (results fn tmps).run P w = .ok (.tuple #[.agg (Enc.enc x).toArray, tmps.getD u undef, tmps.getD v undef]) w := by
  have hl := run_loadVar_get (P := P) h1 h2 hg
  simp only [Array.getD_eq_getD_getElem?] at ha
  simp [results, hres, ha, asAddr, hl]
end Go.Proofs.YtfhhcgldikmejaaGreatDoor
/- The document's numbers and rows, as bytes. Conditions: those named in each theorem. -/
namespace Go.Proofs.YtfhhcgldikmejaaGreatDoor
open Go Go.RowKit Go.Gv Go.Proofs

/-- v is a slice of its own since w0, with these bytes. -/
structure Bs (w0 w : World) (v : Value) (xs : List U8) : Prop where
  bel : Bel w0 w
  own : OwnS w w0.heap.size 5 v xs
section
variable {w0 w w' : World} {v : Value} {xs ys : List U8}
theorem Bs.step (h : Bs w0 w v xs) (hb : Bel w w') : Bs w0 w' v xs := ⟨h.bel.trans hb, h.own.step hb⟩
theorem Bs.nil (w : World) : Bs w w (.slice none 0 0) [] := ⟨Bel.refl _, OwnS.nil _ _ _⟩
theorem Bs.app (h : Bs w0 w v xs) {A : Option Addr} {m : Nat} (c : Nat) (hy : Sl U8 w w.heap.size A m ys) (hl : xs.length + m ≤ 1000000000) :
    ∃ v' w', (gAppend #[61, 61] 61 #[v, .slice A m c]).run Tryz.prog w = .ok v' w' ∧ Bs w0 w' v' (xs ++ ys) := by
  obtain ⟨v', w', hrun, ho, hgr, hob⟩ := gAppend_S (P := Tryz.prog) (c := c) ei61 h.own hy (by unfold maxLen; omega) (by omega) (Below.size h.bel) 61
  exact ⟨v', w', hrun, Chg.bel2 h.bel (Chg.of_grown hgr (fun k e => e)) (fun k e => (h.own.lt k e).1), ho⟩
theorem Bs.sl (h : Bs w0 w v xs) : ∃ A c, v = .slice A xs.length c ∧ Sl U8 w w.heap.size A xs.length xs := by
  obtain ⟨A, c, hv, hs, _⟩ := h.own.shape
  exact ⟨A, c, hv, hs⟩
end
set_option maxRecDepth 100000 in
set_option maxHeartbeats 1000000 in
theorem numD_any (n : Nat) (w : World) (hn : n < 18446744073709551616) :
    Calls Tryz.prog 67 #[.int .u64 n] w fun e w' => ∃ v, e = .returned v ∧ Bs w w' v (numL n) := by
  go_enter Tryz.func67, Tryz.ntmps67
  go_wp2_with fail
  go_loopw [0, 3] (fun iv ov wr => ∃ (m : Nat) (cs : List U8), iv = .int .u64 m ∧ Hid (Bs w wr ov cs) ∧ cs ++ numL m = numL n ∧ m < 18446744073709551616 ∧ cs.length + (numL m).length ≤ 20) (fun iv _ _ => (intOf iv).toNat)
  case atStart => exact ⟨n, [], rfl, Lib.hid (Bs.nil w), rfl, hn, by have := numL_le hn; simp; omega⟩
  case round =>
    obtain ⟨m, cs, rfl, hwr, hEq, hm, hcl⟩ := hrel
    have HEQ := Lib.hid hEq
    clear hEq
    by_cases hb : m < 128
    · have hb2 : ¬ (128 : Int) ≤ (m : Int) := by omega
      have e1 : numL m = [⟨UInt8.ofNat m⟩] := numL_small hb
      rw [e1] at hcl
      simp only [List.length_singleton] at hcl
      obtain ⟨v', w', hrun, hbs⟩ := (hwr.out.step ((Bel.refl wr).alloc (.cells #[.int .u8 m] 5))).app 1 (sl_byte wr m (by omega)) (by omega)
      have HBS := Lib.hid (show Bs w w' v' (numL n) by rw [← HEQ.out, e1]; exact hbs)
      clear hbs e1 hcl
      go_wp2_with fail
      go_ret
      exact ⟨v', rfl, HBS.out⟩
    · have hb2 : (128 : Int) ≤ (m : Int) := by omega
      have e1 : numL m = ⟨UInt8.ofNat (m % 128 + 128)⟩ :: numL (m / 128) := numL_big hb
      rw [e1] at hcl
      simp only [List.length_cons] at hcl
      obtain ⟨v', w', hrun, hbs⟩ := (hwr.out.step ((Bel.refl wr).alloc (.cells #[.int .u8 ((m % 128 + 128 : Nat) : Int)] 5))).app 1 (sl_byte wr (m % 128 + 128) (by omega)) (by omega)
      rw [show ((m % 128 + 128 : Nat) : Int) = (m : Int) % 128 + 128 by omega] at hrun
      have HBS := Lib.hid hbs
      have HE1 := Lib.hid (show (cs ++ [⟨UInt8.ofNat (m % 128 + 128)⟩]) ++ numL (m / 128) = numL n by rw [← HEQ.out, e1]; simp)
      have HCL := Lib.hid hcl
      clear hbs e1 hcl
      go_wp2_with fail
      exact ⟨⟨m / 128, cs ++ [⟨UInt8.ofNat (m % 128 + 128)⟩], by rw [Int.natCast_ediv]; rfl, Lib.hid HBS.out, HE1.out, by omega, by have := HCL.out; rw [List.length_append, List.length_singleton]; omega⟩, by simp [intOf]; omega⟩
set_option maxRecDepth 100000 in
set_option maxHeartbeats 1000000 in
theorem intD_any (n : Int) (w : World) (hn : n ≤ 9223372036854775807) :
    Calls Tryz.prog 31 #[.int .i64 n] w fun e w' => ∃ v, e = .returned v ∧ Bs w w' v (intL n) := by
  obtain ⟨k, hk⟩ : ∃ k : Nat, (max 0 n).toNat = k := ⟨_, rfl⟩
  have hm : (if n < 0 then 0 else n) = (k : Int) := by split <;> omega
  have hu : IntKind.u64.wrap (k : Int) = (k : Int) := IntWalk.u64_in _ (by omega)
  have HI := Lib.hid (show intL n = numL k by unfold intL; rw [hk])
  have HK := Lib.hid (show k < 18446744073709551616 by omega)
  clear hk
  go_enter Tryz.func31, Tryz.ntmps31
  go_wp2_with fail
  refine (numD_any k w HK.out).mono ?_
  rintro _ w1 ⟨v, rfl, hb⟩
  have HB := Lib.hid hb
  clear hb
  go_wp2_with fail
  go_ret
  exact ⟨v, rfl, by rw [HI.out]; exact HB.out⟩
set_option maxRecDepth 100000 in
set_option maxHeartbeats 1000000 in
theorem rowD_any (A : Option Addr) (n c : Nat) (ys : List U8) (w : World) (hy : Sl U8 w w.heap.size A n ys) (hn : n ≤ 1000000) :
    Calls Tryz.prog 30 #[.slice A n c] w fun e w' => ∃ v, e = .returned v ∧ Bs w w' v (rowL ys) := by
  have HY := Lib.hid hy
  have HL := Lib.hid (show ys.length = n from hy.1)
  clear hy
  go_enter Tryz.func30, Tryz.ntmps30
  go_wp2_with fail
  refine (intD_any (n : Int) w (by omega)).mono ?_
  rintro _ w1 ⟨v, rfl, hb⟩
  obtain ⟨v', w', hrun, hbs⟩ := hb.app c (HY.out.stepB hb.bel) (by have := intL_le (n := (n : Int)) (by omega); omega)
  have HB := Lib.hid hbs
  clear hb hbs
  go_wp2_with fail
  go_ret
  exact ⟨v', rfl, by unfold rowL; rw [HL.out]; exact HB.out⟩
end Go.Proofs.YtfhhcgldikmejaaGreatDoor
/- SHA-256 as plain functions; its words in memory. Conditions: those named in each theorem. -/
namespace Go.Proofs.YtfhhcgldikmejaaGreatDoor
open Go Go.RowKit Go.Gv Go.Proofs

/-- A word turned to the right. -/
def rotr (n : Nat) (x : Int) : Int := bits .or .u32 (x / 2 ^ n) (x * 2 ^ (32 - n) % 4294967296)
set_option maxRecDepth 100000 in
theorem turn_any (x : Int) (n : Nat) (L : Int) (hL : L = (n : Int)) (w : World) (hn : n ≤ 32) :
    Calls Tryz.prog 124 #[.int .u32 x, .int .u64 L] w fun e w' => e = .returned (.int .u32 (rotr n x)) ∧ w' = w := by
  subst hL
  go_enter Tryz.func124, Tryz.ntmps124
  go_wp2_with fail
  go_ret
  exact ⟨rfl, rfl⟩
/-- At g lie these words. -/
structure Arr (w : World) (g : Nat) (xs : List Int) : Prop where
  at_ : At w ⟨g, 0, none⟩ (xs.map (Value.int .u32))
  free : blkFree w g = true
section
variable {w w' : World} {g : Nat} {xs : List Int}
theorem Arr.get (h : Arr w g xs) {i : Nat} (hi : i < xs.length) : w.cell? ⟨g, i, none⟩ = some (.int .u32 (xs.getD i 0)) := by
  have := h.at_ i (.int .u32 (xs.getD i 0)) (by rw [List.getElem?_map, List.getElem?_eq_getElem hi, List.getD_eq_getElem?_getD, List.getElem?_eq_getElem hi]; rfl)
  rwa [addN, Nat.zero_add] at this
theorem Arr.lt (h : Arr w g xs) (hl : 0 < xs.length) : g < w.heap.size := h.at_.block_lt (by simpa using hl)
theorem Arr.chg {S : Nat → Prop} (h : Arr w g xs) (hl : 0 < xs.length) (hc : Chg S w w') (hg : ¬ S g) : Arr w' g xs :=
  ⟨h.at_.keep (hc.block g (h.lt hl) hg), hc.free h.free (h.lt hl) hg⟩
theorem Arr.step (h : Arr w g xs) (hl : 0 < xs.length) (hb : Bel w w') : Arr w' g xs := h.chg (S := fun _ => False) hl (Chg.of_bel hb _) id
theorem Arr.set (h : Arr w g xs) {i : Nat} (hi : i < xs.length) (v : Int) : Arr (w.setCell ⟨g, i, none⟩ (.int .u32 v)) g (xs.set i v) :=
  ⟨by have := atPokeV h.at_ (j := i) (by simpa using hi) (.int .u32 v); rwa [← List.map_set] at this, by rw [blkFree_setCell]; exact h.free⟩
theorem Arr.frozen (h : Arr w g xs) (o : Nat) : w.frozen? ⟨g, o, none⟩ = false := frozen_of_free h.free
theorem Arr.new (w : World) (xs : List Int) (t : TypeId) : Arr (w.alloc (.cells (xs.map (Value.int .u32)).toArray t)) w.heap.size xs :=
  ⟨fun j v hj => by
    rw [addN, Nat.zero_add, World.cell?_alloc_new]
    simpa using hj, blkFree_new _ _ rfl⟩
end
end Go.Proofs.YtfhhcgldikmejaaGreatDoor
/- Rows of words as values. Conditions: those named in each theorem. -/
namespace Go.Proofs.YtfhhcgldikmejaaGreatDoor
open Go Go.RowKit Go.Gv Go.Proofs

theorem u32_inj : ∀ a b : Int, Value.int .u32 a = Value.int .u32 b → a = b := fun a b h => by injection h
/-- 64 words. -/
structure W64 where
  l : List Int
  h : l.length = 64
deriving DecidableEq
instance : Inhabited W64 := ⟨⟨List.replicate 64 0, by simp⟩⟩
def W64.enc (x : W64) : List Value := x.l.map (Value.int .u32)
theorem W64.enc_len (x : W64) : x.enc.length = 64 := by simp [W64.enc, x.h]
instance : Enc W64 where
  n := 64
  enc := W64.enc
  pos := by omega
  len := W64.enc_len
  one := by
    intro x u hu
    simp only [W64.enc, List.mem_map] at hu
    obtain ⟨b, _, rfl⟩ := hu; rfl
  inj := by
    intro x y h
    obtain ⟨l, hl⟩ := x; obtain ⟨m, hm⟩ := y
    simp only [W64.enc] at h
    congr 1
    exact (List.map_inj_right u32_inj).1 h
@[irreducible] def W64.val (x : W64) : Value := .agg x.enc.toArray
theorem W64.val_eq (x : W64) : W64.val x = .agg (Enc.enc x).toArray := by unfold W64.val; rfl
@[go_sem ↓ high] theorem xs_W64 (ρ : Operand → Value) (dst : Option Tmp) (x y : Operand) (ty : TypeId) (pos : String) (after : Array Edge) (guard : Option (Nat × Bool)) : execOp ρ { dst, op := .store 250 x y, type := ty, pos, after, guard } = (do gStore 250 (ρ x) (ρ y); pure .skip) := ex_store ..
@[go_sem ↓ high] theorem xa_W64 (ρ : Operand → Value) (dst : Option Tmp) (ty : TypeId) (pos : String) (after : Array Edge) (guard : Option (Nat × Bool)) : execOp ρ { dst, op := .alloc 250, type := ty, pos, after, guard } = (do pure (.value (← gAlloc 250))) := ex_alloc ..
@[go_sem ↓ high] theorem xk_W64 (ρ : Operand → Value) (dst : Option Tmp) (ps : Array (Nat × Operand)) (ty : TypeId) (pos : String) (after : Array Edge) (guard : Option (Nat × Bool)) : execOp ρ { dst, op := .build 250 ps, type := ty, pos, after, guard } = (do pure (.value (← gBuild 250 (ps.map fun (i, x) => (i, ρ x))))) := ex_build ..
theorem agW64 : aggT Tryz.prog 250 = true := by kernel_rfl
theorem szW64 : sizeT Tryz.prog 250 = 64 := by kernel_rfl
theorem zrW64 : zeroT Tryz.prog 250 = some (W64.val default) := by rw [W64.val_eq]; kernel_rfl
@[go_sem ↓ high] theorem st_W64 (w : World) (a : Addr) (x : W64) : (gStore 250 (.pointer (some a)) (W64.val x)).run Tryz.prog w = okU' ((get? W64 w a).isSome && blkFree w a.block) (World.putCells w a (W64.enc x)) (noStore Tryz.prog 250 (.pointer (some a)) (W64.val x) w) := run_gStore_any szW64 W64.val W64.val_eq w a x
@[go_sem ↓ high] theorem al_W64 (w : World) : (gAlloc 250).run Tryz.prog w = .ok (.pointer (some ⟨w.heap.size, 0, none⟩)) (w.alloc (.cells (W64.enc default).toArray 250)) := by
  rw [run_zero_alloc zrW64, W64.val_eq]; rfl
/-- 8 words. -/
structure W8 where
  l : List Int
  h : l.length = 8
deriving DecidableEq
instance : Inhabited W8 := ⟨⟨List.replicate 8 0, by simp⟩⟩
def W8.enc (x : W8) : List Value := x.l.map (Value.int .u32)
theorem W8.enc_len (x : W8) : x.enc.length = 8 := by simp [W8.enc, x.h]
instance : Enc W8 where
  n := 8
  enc := W8.enc
  pos := by omega
  len := W8.enc_len
  one := by
    intro x u hu
    simp only [W8.enc, List.mem_map] at hu
    obtain ⟨b, _, rfl⟩ := hu; rfl
  inj := by
    intro x y h
    obtain ⟨l, hl⟩ := x; obtain ⟨m, hm⟩ := y
    simp only [W8.enc] at h
    congr 1
    exact (List.map_inj_right u32_inj).1 h
@[irreducible] def W8.val (x : W8) : Value := .agg x.enc.toArray
theorem W8.val_eq (x : W8) : W8.val x = .agg (Enc.enc x).toArray := by unfold W8.val; rfl
@[go_sem ↓ high] theorem xl_W8 (ρ : Operand → Value) (dst : Option Tmp) (x : Operand) (ty : TypeId) (pos : String) (after : Array Edge) (guard : Option (Nat × Bool)) : execOp ρ { dst, op := .load 252 x, type := ty, pos, after, guard } = (do pure (.value (← gLoad 252 (ρ x)))) := ex_load ..
@[go_sem ↓ high] theorem xs_W8 (ρ : Operand → Value) (dst : Option Tmp) (x y : Operand) (ty : TypeId) (pos : String) (after : Array Edge) (guard : Option (Nat × Bool)) : execOp ρ { dst, op := .store 252 x y, type := ty, pos, after, guard } = (do gStore 252 (ρ x) (ρ y); pure .skip) := ex_store ..
@[go_sem ↓ high] theorem xa_W8 (ρ : Operand → Value) (dst : Option Tmp) (ty : TypeId) (pos : String) (after : Array Edge) (guard : Option (Nat × Bool)) : execOp ρ { dst, op := .alloc 252, type := ty, pos, after, guard } = (do pure (.value (← gAlloc 252))) := ex_alloc ..
@[go_sem ↓ high] theorem xk_W8 (ρ : Operand → Value) (dst : Option Tmp) (ps : Array (Nat × Operand)) (ty : TypeId) (pos : String) (after : Array Edge) (guard : Option (Nat × Bool)) : execOp ρ { dst, op := .build 252 ps, type := ty, pos, after, guard } = (do pure (.value (← gBuild 252 (ps.map fun (i, x) => (i, ρ x))))) := ex_build ..
theorem agW8 : aggT Tryz.prog 252 = true := by kernel_rfl
theorem szW8 : sizeT Tryz.prog 252 = 8 := by kernel_rfl
theorem zrW8 : zeroT Tryz.prog 252 = some (W8.val default) := by rw [W8.val_eq]; kernel_rfl
@[go_sem ↓ high] theorem ld_W8 (w : World) (a : Addr) : (gLoad 252 (.pointer (some a))).run Tryz.prog w = ofOpt ((get? W8 w a).map W8.val) w (noLoad Tryz.prog 252 a w) := by
  unfold gLoad; exact run_loadAt_opt agW8 szW8 W8.val W8.val_eq
@[go_sem ↓ high] theorem st_W8 (w : World) (a : Addr) (x : W8) : (gStore 252 (.pointer (some a)) (W8.val x)).run Tryz.prog w = okU' ((get? W8 w a).isSome && blkFree w a.block) (World.putCells w a (W8.enc x)) (noStore Tryz.prog 252 (.pointer (some a)) (W8.val x) w) := run_gStore_any szW8 W8.val W8.val_eq w a x
@[go_sem ↓ high] theorem al_W8 (w : World) : (gAlloc 252).run Tryz.prog w = .ok (.pointer (some ⟨w.heap.size, 0, none⟩)) (w.alloc (.cells (W8.enc default).toArray 252)) := by
  rw [run_zero_alloc zrW8, W8.val_eq]; rfl
def K256 : W64 := ⟨[1116352408, 1899447441, 3049323471, 3921009573, 961987163, 1508970993, 2453635748, 2870763221, 3624381080, 310598401, 607225278, 1426881987, 1925078388, 2162078206, 2614888103, 3248222580, 3835390401, 4022224774, 264347078, 604807628, 770255983, 1249150122, 1555081692, 1996064986, 2554220882, 2821834349, 2952996808, 3210313671, 3336571891, 3584528711, 113926993, 338241895, 666307205, 773529912, 1294757372, 1396182291, 1695183700, 1986661051, 2177026350, 2456956037, 2730485921, 2820302411, 3259730800, 3345764771, 3516065817, 3600352804, 4094571909, 275423344, 430227734, 506948616, 659060556, 883997877, 958139571, 1322822218, 1537002063, 1747873779, 1955562222, 2024104815, 2227730452, 2361852424, 2428436474, 2756734187, 3204031479, 3329325298], rfl⟩
def H256 : W8 := ⟨[1779033703, 3144134277, 1013904242, 2773480762, 1359893119, 2600822924, 528734635, 1541459225], rfl⟩
@[go_sem ↓ high] theorem bdK256 (w : World) : (gBuild 250 #[(0, .int .u32 1116352408), (1, .int .u32 1899447441), (2, .int .u32 3049323471), (3, .int .u32 3921009573), (4, .int .u32 961987163), (5, .int .u32 1508970993), (6, .int .u32 2453635748), (7, .int .u32 2870763221), (8, .int .u32 3624381080), (9, .int .u32 310598401), (10, .int .u32 607225278), (11, .int .u32 1426881987), (12, .int .u32 1925078388), (13, .int .u32 2162078206), (14, .int .u32 2614888103), (15, .int .u32 3248222580), (16, .int .u32 3835390401), (17, .int .u32 4022224774), (18, .int .u32 264347078), (19, .int .u32 604807628), (20, .int .u32 770255983), (21, .int .u32 1249150122), (22, .int .u32 1555081692), (23, .int .u32 1996064986), (24, .int .u32 2554220882), (25, .int .u32 2821834349), (26, .int .u32 2952996808), (27, .int .u32 3210313671), (28, .int .u32 3336571891), (29, .int .u32 3584528711), (30, .int .u32 113926993), (31, .int .u32 338241895), (32, .int .u32 666307205), (33, .int .u32 773529912), (34, .int .u32 1294757372), (35, .int .u32 1396182291), (36, .int .u32 1695183700), (37, .int .u32 1986661051), (38, .int .u32 2177026350), (39, .int .u32 2456956037), (40, .int .u32 2730485921), (41, .int .u32 2820302411), (42, .int .u32 3259730800), (43, .int .u32 3345764771), (44, .int .u32 3516065817), (45, .int .u32 3600352804), (46, .int .u32 4094571909), (47, .int .u32 275423344), (48, .int .u32 430227734), (49, .int .u32 506948616), (50, .int .u32 659060556), (51, .int .u32 883997877), (52, .int .u32 958139571), (53, .int .u32 1322822218), (54, .int .u32 1537002063), (55, .int .u32 1747873779), (56, .int .u32 1955562222), (57, .int .u32 2024104815), (58, .int .u32 2227730452), (59, .int .u32 2361852424), (60, .int .u32 2428436474), (61, .int .u32 2756734187), (62, .int .u32 3204031479), (63, .int .u32 3329325298)]).run Tryz.prog w = .ok (W64.val K256) w := by
  unfold gBuild W64.val; kernel_rfl
@[go_sem ↓ high] theorem bdH256 (w : World) (v0 v1 v2 v3 v4 v5 v6 v7 : Int) : (gBuild 252 #[(0, .int .u32 v0), (1, .int .u32 v1), (2, .int .u32 v2), (3, .int .u32 v3), (4, .int .u32 v4), (5, .int .u32 v5), (6, .int .u32 v6), (7, .int .u32 v7)]).run Tryz.prog w = .ok (W8.val ⟨[v0, v1, v2, v3, v4, v5, v6, v7], rfl⟩) w := by
  unfold gBuild W8.val; kernel_rfl
theorem zrH : zeroT Tryz.prog 35 = some (GHash.val default) := by rw [GHash.val_eq]; kernel_rfl
@[go_sem ↓ high] theorem al_GHash (w : World) : (gAlloc 35).run Tryz.prog w = .ok (.pointer (some ⟨w.heap.size, 0, none⟩)) (w.alloc (.cells (GHash.enc default).toArray 35)) := by
  rw [run_zero_alloc zrH, GHash.val_eq]; rfl
set_option maxRecDepth 100000 in
theorem rounds_any (w : World) :
    Calls Tryz.prog 123 #[] w fun e w' => e = .returned (W64.val K256) ∧ Bel w w' := by
  have g1 := get?_new (w := w) 250 (default : W64)
  have b1 : blkFree (w.alloc (.cells (W64.enc default).toArray 250)) w.heap.size = true := blkFree_new _ _ rfl
  have hb := (Bel.refl w).alloc (.cells (W64.enc default).toArray 250)
  change get? W64 (w.alloc (.cells (W64.enc default).toArray 250)) _ = _ at g1
  go_enter Tryz.func123, Tryz.ntmps123
  go_wp2_with fail
  have hend : Bel w (World.putCells (w.alloc (.cells (W64.enc default).toArray 250)) ⟨w.heap.size, 0, none⟩ (W64.enc K256)) := Chg.bel2 hb (chg_put (S := fun k => k = w.heap.size) rfl _) (fun k e => by omega)
  refine bodyPost_ret (results_cell (x := K256) rfl rfl agW64 szW64 (get?_putV _ g1)) rfl ⟨?_, hend⟩
  simp only [W64.val_eq]
end Go.Proofs.YtfhhcgldikmejaaGreatDoor
/- What a replica says of a name's stamp; a message for another one. Conditions: those named in each theorem. -/
namespace Go.Proofs.YtfhhcgldikmejaaGreatDoor
open Go Go.RowKit Go.Gv Go.Proofs

theorem gb_free2 {w w' : World} {g : Nat} (hb : Bel w w') (hl : g < w.heap.size) (hf : blkFree w g = true) : blkFree w' g = true := (blkFree_keep (Below.block hb g hl)).trans hf
theorem free_put2 {w : World} {g o : Nat} (hf : blkFree w g = true) (cs : List Value) : blkFree (World.putCells w ⟨g, o, none⟩ cs) g = true := by
  rw [blkFree_put]; exact hf
set_option maxRecDepth 100000 in
set_option maxHeartbeats 4000000 in
theorem stOf_any (gs ms : Nat) (c : GConf) (i now floor last : Int) (S : List (GName × GStamp)) (n : GName) (y : GStamp) (w : World) (h : StampIs w gs ms c i now floor last S) (hlk : mget S n = some y) :
    Calls Tryz.prog 35 #[.pointer (some ⟨gs, 0, none⟩), n.val] w fun e w' => e = .returned (.tuple #[y.hash.val, .int .u64 y.time, .bool true]) ∧ Bel w w' := by
  have c3 : get? GName ((w.alloc (.cells (GName.enc n).toArray 33)).alloc (.cells (GHash.enc default).toArray 35)) ⟨w.heap.size, 0, none⟩ = some n := get?_alloc _ (get?_new _ _)
  have c4 : get? GHash ((w.alloc (.cells (GName.enc n).toArray 33)).alloc (.cells (GHash.enc default).toArray 35)) ⟨w.heap.size + 1, 0, none⟩ = some default := by
    have := get?_new (w := w.alloc (.cells (GName.enc n).toArray 33)) 35 (default : GHash)
    rwa [World.size_alloc] at this
  have f4 : blkFree ((w.alloc (.cells (GName.enc n).toArray 33)).alloc (.cells (GHash.enc default).toArray 35)) (w.heap.size + 1) = true := by
    have : blkFree ((w.alloc (.cells (GName.enc n).toArray 33)).alloc (.cells (GHash.enc default).toArray 35)) (w.alloc (.cells (GName.enc n).toArray 33)).heap.size = true := blkFree_new _ _ rfl
    rwa [World.size_alloc] at this
  have HB := Lib.hid (((Bel.refl w).alloc (.cells (GName.enc n).toArray 33)).alloc (.cells (GHash.enc default).toArray 35))
  have HS := Lib.hid (h.step HB.out); have HLK := Lib.hid hlk
  clear h hlk
  go_enter Tryz.func35, Tryz.ntmps35
  go_upto_region 1 with fail
  generalize (w.alloc (.cells (GName.enc n).toArray 33)).alloc (.cells (GHash.enc default).toArray 35) = wa at c3 c4 f4 HB HS ⊢
  obtain ⟨q, hq⟩ : ∃ q, w.heap.size = q := ⟨_, rfl⟩
  have HQ := Lib.hid hq
  rw [hq] at c3 c4 f4 ⊢
  have C4 := Lib.hid c4; have F4 := Lib.hid f4; have C3 := Lib.hid c3
  clear c4 f4 hq c3
  refine wp_region_H GB (Chg (fun k => wa.heap.size ≤ k)) [10] [] GB.rf (by kernel_rfl) ?_
  refine wpH_looks 3 24 [0, 1, 2, 3, 4, 5, 6, 7, 8] rfl GB.rf GB.tr (Chg.refl _) (fun _ _ _ => Chg.tr) (fun _ _ h => Chg.of_bel h _) (by kernel_rfl) (fun _ _ _ _ hd h => And.intro (hd ▸ And.left h) (And.right h)) rfl (by kernel_rfl) ?_
  intro ι W9 hne CW
  have CC : ∀ z, Chg (fun k => wa.heap.size ≤ k) wa (W9 z) := fun z => (Chg.of_bel ((Bel.refl wa).drew) _).tr (CW.out z)
  have l1 : ¬ wa.heap.size ≤ gs := by have h1 : gs < wa.heap.size := get?_lt HS.out.get; omega
  have l2 : ¬ wa.heap.size ≤ q := by have h1 : q < wa.heap.size := get?_lt C3.out; omega
  have l3 : ¬ wa.heap.size ≤ ms := by have := mapAt_lt HS.out.map; omega
  have y0 := fun z => (CC z).cell (show wa.cell? ⟨gs, 6, none⟩ = some (.map (some ms)) by have := GStampStamper.at_stamps HS.out.get; simpa only [Addr.add_lit, Nat.zero_add] using this) l1
  have y1 := fun z => (CC z).get C3.out l2
  have y2 : ∀ z, mapAt GName GStamp (W9 z) ms = some S := fun z => (CC z).map HS.out.map l3
  clear CC l1 l2 l3
  have y3 : (mget S n) = some y := HLK.out
  repeat (refine wpLooksG_step (fun K hK => ?_); go_simp; refine hK _ ?_; clear hK K)
  refine wpLooksG_nil ?_
  clear y0 y1 y2 y3 CW hne W9 ι
  refine wpH_force 9 _ rfl (by kernel_rfl) rfl fun w9 hw9 K hK => ?_
  go_simp
  refine hK _ _ (fun _ => GB.al _ _) (fun _ => Chg.of_bel (GB.al _ _) _) ?_
  clear hK K
  have k9 := get?_new (w := w9) 41 (default : GStamp)
  have f9 : blkFree (w9.alloc (.cells (GStamp.enc default).toArray 41)) w9.heap.size = true := blkFree_new _ _ rfl
  have hb9 := (GB.undrew hw9).trans ((Bel.refl w9).alloc (.cells (GStamp.enc default).toArray 41))
  have hle : wa.heap.size ≤ w9.heap.size := Below.size (GB.undrew hw9)
  change get? GStamp (w9.alloc (.cells (GStamp.enc default).toArray 41)) _ = _ at k9
  obtain ⟨p, hp⟩ : ∃ p, w9.heap.size = p := ⟨_, rfl⟩
  rw [hp] at k9 f9 hle ⊢
  change wpH _ _ _ _ _ _ _ _ _ _ _ (w9.alloc (.cells (GStamp.enc default).toArray 41))
  generalize w9.alloc (.cells (GStamp.enc default).toArray 41) = wb at k9 f9 hb9 ⊢
  have K9 := Lib.hid k9; have F9 := Lib.hid f9; have HB9 := Lib.hid hb9; have HLE := Lib.hid hle; have LE := Lib.hid hle
  clear k9 f9 hb9 hle hp hw9
  refine wpH_force 10 _ rfl (by kernel_rfl) rfl fun w10 hw10 K hK => ?_
  have k10 := GB.get hw10 K9.out
  have f10 := gb_free2 hw10 (get?_lt K9.out) F9.out
  go_simp
  refine hK _ _ (fun h => absurd (by simp) h) (fun _ => (chg_put (S := fun k => k = p) rfl _).sub (fun k e => by rw [e]; exact HLE.out)) ?_
  clear hK K
  have K11 := Lib.hid (get?_putV y k10); have F11 := Lib.hid (free_put2 (o := 0) f10 (GStamp.enc y))
  have HB11 := Lib.hid (show Bel wa (World.putCells w10 ⟨p, 0, none⟩ (GStamp.enc y)) from Chg.bel2 (HB9.out.trans hw10) (chg_put (S := fun k => k = p) rfl _) (by rintro k (e : k = p); rw [e]; exact HLE.out))
  generalize World.putCells w10 ⟨p, 0, none⟩ (GStamp.enc y) = wc at K11 F11 HB11 ⊢
  clear k10 f10 hw10 K9 F9 HB9
  refine wpH_force 11 _ rfl (by kernel_rfl) rfl fun w11 hw11 K hK => ?_
  go_simp
  refine hK _ _ (fun _ => GB.rf _) (fun _ => Chg.refl _ _) ?_
  clear hK K
  refine wpH_end (by kernel_rfl) (fun wn hwn => ?_) _
  have hbn := GB.tr _ _ _ hw11 hwn
  have KN := Lib.hid (GB.get hbn K11.out); have HBN := Lib.hid (HB11.out.trans hbn)
  clear hbn hw11 hwn K11 F11 HB11
  have C4N := Lib.hid (GB.get HBN.out C4.out); have F4N := Lib.hid (gb_free2 HBN.out (get?_lt C4.out) F4.out)
  go_upto_region 2 with fail
  refine wp_region_H GB (Chg (fun k => k = q + 1)) [5] [] GB.rf (by kernel_rfl) ?_
  refine wpH_looks 3 24 [0, 1, 2, 3, 4] rfl GB.rf GB.tr (Chg.refl _) (fun _ _ _ => Chg.tr) (fun _ _ h => Chg.of_bel h _) (by kernel_rfl) (fun _ _ _ _ hd h => And.intro (hd ▸ And.left h) (And.right h)) rfl (by kernel_rfl) ?_
  intro ι W9 hne CW
  have CC : ∀ z, Chg (fun k => k = q + 1) wn (W9 z) := fun z => (Chg.of_bel ((Bel.refl wn).drew) _).tr (CW.out z)
  have l1 : ¬ p = q + 1 := by have h1 : q + 1 < wa.heap.size := get?_lt C4.out; have := LE.out; omega
  have y0 := fun z => (CC z).get (show get? GHash wn ⟨p, 3, none⟩ = some y.hash by have := GStamp.at_hash KN.out; simpa only [Addr.add_lit, Nat.zero_add] using this) l1
  have y1 := fun z => (CC z).cell (show wn.cell? ⟨p, 35, none⟩ = some (.int .u64 y.time) by have := GStamp.at_time KN.out; simpa only [Addr.add_lit, Nat.zero_add] using this) l1
  clear CC l1
  repeat (refine wpLooksG_step (fun K hK => ?_); go_simp; refine hK _ ?_; clear hK K)
  refine wpLooksG_nil ?_
  clear y0 y1 CW hne W9 ι
  refine wpH_force 5 _ rfl (by kernel_rfl) rfl fun w5 hw5 K hK => ?_
  have k5 := GB.get (GB.undrew hw5) C4N.out
  have f5 := gb_free2 (GB.undrew hw5) (get?_lt C4N.out) F4N.out
  go_simp
  refine hK _ _ (fun h => absurd (by simp) h) (fun _ => chg_put (S := fun k => k = q + 1) rfl _) ?_
  clear hK K
  have K6 := Lib.hid (get?_putV y.hash k5)
  have HB6 := Lib.hid (show Bel w (World.putCells w5 ⟨q + 1, 0, none⟩ (GHash.enc y.hash)) from Chg.bel2 (HB.out.trans (HBN.out.trans (GB.undrew hw5))) (chg_put (S := fun k => k = q + 1) rfl _) (by rintro k (e : k = q + 1); rw [HQ.out, e]; omega))
  generalize World.putCells w5 ⟨q + 1, 0, none⟩ (GHash.enc y.hash) = wd at K6 HB6 ⊢
  clear k5 f5 hw5
  refine wpH_force 6 _ rfl (by kernel_rfl) rfl fun w6 hw6 K hK => ?_
  go_simp
  refine hK _ _ (fun _ => GB.rf _) (fun _ => Chg.refl _ _) ?_
  clear hK K
  refine wpH_force 7 _ rfl (by kernel_rfl) rfl fun w7 hw7 K hK => ?_
  go_simp
  refine hK _ _ (fun _ => GB.rf _) (fun _ => Chg.refl _ _) ?_
  clear hK K
  refine wpH_end (by kernel_rfl) (fun we hwe => ?_) _
  have hbe := GB.tr _ _ _ (GB.tr _ _ _ hw6 hw7) hwe
  have KE := Lib.hid (GB.get hbe K6.out); have HBE := Lib.hid (HB6.out.trans hbe)
  clear hbe hw6 hw7 hwe
  go_wp2_with fail
  refine bodyPost_ret (results_cell_two (x := y.hash) rfl rfl ag35 sz35 KE.out) rfl ⟨?_, HBE.out⟩
  simp only [GHash.val_eq]
  rfl
set_option maxRecDepth 100000 in
set_option maxHeartbeats 4000000 in
theorem repStamped_any (w0 : World) (B : Nat → Nat) (x : RSt) (n : GName) (y : GStamp) (w : World) (h : RepIs w0 w B x) (hlk : mget x.stamps n = some y) :
    Calls Tryz.prog 18 #[.pointer (some ⟨B 0, 0, none⟩), n.val] w fun e w' => e = .returned (.tuple #[y.hash.val, .int .u64 y.time, .bool true]) ∧ Bel w w' := by
  have c3 : get? GName ((w.alloc (.cells (GName.enc n).toArray 33)).alloc (.cells (GHash.enc default).toArray 35)) ⟨w.heap.size, 0, none⟩ = some n := get?_alloc _ (get?_new _ _)
  have c4 : get? GHash ((w.alloc (.cells (GName.enc n).toArray 33)).alloc (.cells (GHash.enc default).toArray 35)) ⟨w.heap.size + 1, 0, none⟩ = some default := by
    have := get?_new (w := w.alloc (.cells (GName.enc n).toArray 33)) 35 (default : GHash)
    rwa [World.size_alloc] at this
  have f4 : blkFree ((w.alloc (.cells (GName.enc n).toArray 33)).alloc (.cells (GHash.enc default).toArray 35)) (w.heap.size + 1) = true := by
    have : blkFree ((w.alloc (.cells (GName.enc n).toArray 33)).alloc (.cells (GHash.enc default).toArray 35)) (w.alloc (.cells (GName.enc n).toArray 33)).heap.size = true := blkFree_new _ _ rfl
    rwa [World.size_alloc] at this
  have HB := Lib.hid (((Bel.refl w).alloc (.cells (GName.enc n).toArray 33)).alloc (.cells (GHash.enc default).toArray 35))
  have HS := Lib.hid (h.step HB.out); have HLK := Lib.hid hlk
  clear h hlk
  go_enter Tryz.func18, Tryz.ntmps18
  go_upto_region 1 with fail
  generalize (w.alloc (.cells (GName.enc n).toArray 33)).alloc (.cells (GHash.enc default).toArray 35) = wa at c3 c4 f4 HB HS ⊢
  obtain ⟨q, hq⟩ : ∃ q, w.heap.size = q := ⟨_, rfl⟩
  have HQ := Lib.hid hq
  rw [hq] at c3 c4 f4 ⊢
  have C4 := Lib.hid c4; have F4 := Lib.hid f4; have C3 := Lib.hid c3
  clear c4 f4 hq c3
  refine wp_region_G GB [9] GB.rf (by kernel_rfl) ?_
  refine wpG_looks 7 24 [0, 1, 2, 3, 4] rfl GB.rf GB.tr (by kernel_rfl) (fun _ _ _ _ hd h => And.intro (hd ▸ And.left h) (And.right h)) rfl (by kernel_rfl) ?_
  intro ι W9 hne CW
  have y0 := fun z => GB.cell (CW.out z) (rep_cells HS.out).2.2.2.1
  have y1 := fun z => GB.get (CW.out z) C3.out
  repeat (refine wpLooksG_step (fun K hK => ?_); go_simp; refine hK _ ?_; clear hK K)
  refine wpLooksG_nil ?_
  clear y0 y1 CW hne W9 ι
  refine wpG_force 5 _ rfl (by kernel_rfl) rfl fun w5 hw5 K hK => ?_
  go_simp
  have hb5 := GB.undrew hw5
  refine (stOf_any (B 3) (B 4) x.c x.id x.now x.floor x.last x.stamps n y w5 (HS.out.step hb5).st HLK.out).mono ?_
  rintro _ wb ⟨rfl, hbb⟩
  refine hK _ _ (fun _ => hbb) ?_
  have H5 := Lib.hid (hb5.trans hbb)
  clear hK K hb5 hw5 hbb
  refine wpG_looks 3 24 [6, 7, 8] rfl GB.rf GB.tr (by kernel_rfl) (fun _ _ _ _ hd h => And.intro (hd ▸ And.left h) (And.right h)) rfl (by kernel_rfl) ?_
  intro ι W9 hne CW
  repeat (refine wpLooksG_step (fun K hK => ?_); go_simp; refine hK _ ?_; clear hK K)
  refine wpLooksG_nil ?_
  clear CW hne W9 ι
  refine wpG_force 9 _ rfl (by kernel_rfl) rfl fun w9 hw9 K hK => ?_
  have k5 := GB.get (H5.out.trans hw9) C4.out
  have f5 := gb_free2 (H5.out.trans hw9) (get?_lt C4.out) F4.out
  go_simp
  refine hK _ _ (fun h => absurd (by simp) h) ?_
  clear hK K
  have K6 := Lib.hid (get?_putV y.hash k5)
  have HB6 := Lib.hid (show Bel w (World.putCells w9 ⟨q + 1, 0, none⟩ (GHash.enc y.hash)) from Chg.bel2 (HB.out.trans (H5.out.trans hw9)) (chg_put (S := fun k => k = q + 1) rfl _) (by rintro k (e : k = q + 1); rw [HQ.out, e]; omega))
  generalize World.putCells w9 ⟨q + 1, 0, none⟩ (GHash.enc y.hash) = wd at K6 HB6 ⊢
  clear k5 f5 hw9
  refine wpG_force 10 _ rfl (by kernel_rfl) rfl fun w6 hw6 K hK => ?_
  go_simp
  refine hK _ _ (fun _ => GB.rf _) ?_
  clear hK K
  refine wpG_force 11 _ rfl (by kernel_rfl) rfl fun w7 hw7 K hK => ?_
  go_simp
  refine hK _ _ (fun _ => GB.rf _) ?_
  clear hK K
  refine wpG_end (by kernel_rfl) (fun we hwe => ?_) _
  have hbe := GB.tr _ _ _ (GB.tr _ _ _ hw6 hw7) hwe
  have KE := Lib.hid (GB.get hbe K6.out); have HBE := Lib.hid (HB6.out.trans hbe)
  clear hbe hw6 hw7 hwe
  go_wp2_with fail
  refine bodyPost_ret (results_cell_two (x := y.hash) rfl rfl ag35 sz35 KE.out) rfl ⟨?_, HBE.out⟩
  simp only [GHash.val_eq]
  rfl
set_option maxRecDepth 100000 in
set_option maxHeartbeats 4000000 in
theorem doLost_any (w0 : World) (B : Nat → Nat) (x : RSt) (m : GMsg) (t : Int) (w : World) (h : RepIs w0 w B x) (hst : x.started = true) (hho : x.ho = nilH) (hox : x.out = []) (hk : (m.kind == 0) = false) (hto : (m.to == x.id) = false) :
    Calls Tryz.prog 8 #[.pointer (some ⟨B 0, 0, none⟩), (⟨t, m⟩ : GReplicaEvent).val] w fun e w' => e = .returned (.slice none 0 0) ∧ RepIs w0 w' B x ∧ Chg (fun k => k = B 0) w w' := by
  have hba := (Bel.refl w).alloc (.cells (GReplicaEvent.enc ⟨t, m⟩).toArray 72)
  have h2 := h.step hba
  have k0 := (rep_cells h2).2.2.1
  have k1 := (rep_cells h2).1
  rw [hst] at k0
  have c1 : get? GReplicaEvent (w.alloc (.cells (GReplicaEvent.enc ⟨t, m⟩).toArray 72)) ⟨w.heap.size, 0, none⟩ = some ⟨t, m⟩ := get?_new _ _
  have f1 := GMsg.at_kind (GReplicaEvent.at_msg c1)
  have f2 := GMsg.at_to (GReplicaEvent.at_msg c1)
  simp only [Addr.add_lit, Nat.zero_add] at f1 f2
  have H2 := Lib.hid h2; have HBA := Lib.hid hba; have HHO := Lib.hid hho; have HOX := Lib.hid hox
  clear h hba h2 hst c1 hho hox
  go_enter Tryz.func8, Tryz.ntmps8
  go_upto_region 8 with fail
  go_big_quiet (fail)
  have HB1 := Lib.hid (bdN (Bel.refl (w.alloc (.cells (GReplicaEvent.enc ⟨t, m⟩).toArray 72))) nq)
  have H3 := Lib.hid (H2.out.step HB1.out)
  go_wp2_with fail
  refine (told_any w0 B x _ H3.out).mono ?_
  rintro _ w3 ⟨rfl, hr3, -, hc3⟩
  have hxx : ({ x with ho := nilH, out := [] } : RSt) = x := by
    have h1 := HHO.out; have h2 := HOX.out
    cases x
    simp only at h1 h2
    rw [h1, h2]
  rw [hxx] at hr3
  rw [HHO.out]
  have HR3 := Lib.hid hr3; have HC3 := Lib.hid hc3
  clear hr3 hc3 hxx
  go_wp2_with fail
  go_ret
  exact ⟨rfl, HR3.out, (Chg.of_bel (HBA.out.trans HB1.out) _).tr HC3.out⟩
end Go.Proofs.YtfhhcgldikmejaaGreatDoor
/- The document's join; what a client signs, as the document says it. Conditions: those named in each theorem. -/
namespace Go.Proofs.YtfhhcgldikmejaaGreatDoor
open Go Go.RowKit Go.Gv Go.Proofs

/-- Headers, and the bytes that they show. -/
def RowsU (w : World) (hs : List Hdr) (ls : List (List U8)) : Prop := hs.length = ls.length ∧ ∀ (i : Nat) (h : Hdr) (l : List U8), hs[i]? = some h → ls[i]? = some l → Sl U8 w w.heap.size h.a h.len l
theorem RowsU.step {w w' : World} {hs : List Hdr} {ls : List (List U8)} (h : RowsU w hs ls) (hb : Bel w w') : RowsU w' hs ls := ⟨h.1, fun i a l h1 h2 => (h.2 i a l h1 h2).stepB hb⟩
set_option maxRecDepth 100000 in
set_option maxHeartbeats 1000000 in
theorem joinD_any (A : Option Addr) (n c : Nat) (hs : List Hdr) (ls : List (List U8)) (w : World) (ha : Sl Hdr w w.heap.size A n hs) (hr : RowsU w hs ls) (hn : n ≤ 1000) (hl : ls.flatten.length ≤ 1000000) :
    Calls Tryz.prog 29 #[.slice A n c] w fun e w' => ∃ v, e = .returned v ∧ Bs w w' v ls.flatten := by
  have HA := Lib.hid ha; have HR := Lib.hid hr; have HL := Lib.hid hl
  have HN := Lib.hid (show hs.length = n from ha.1)
  clear ha hr hl
  go_enter Tryz.func29, Tryz.ntmps29
  go_wp2_with fail
  go_loopw [7, 3] (fun iv ov wr => ∃ k : Nat, k ≤ n ∧ iv = .int .i64 k ∧ Hid (Bs w wr ov (ls.take k).flatten)) (fun iv _ _ => n - (intOf iv).toNat)
  case atStart => exact ⟨0, by omega, rfl, Lib.hid (Bs.nil w)⟩
  case round =>
    obtain ⟨k, hk, rfl, hb⟩ := hrel
    by_cases hlt : k < n
    · obtain ⟨ad, h, rfl, hlt2, hh, hg⟩ := (HA.out.stepB hb.out.bel).at_ (k := k) hlt
      obtain ⟨l, hll⟩ : ∃ l, ls[k]? = some l := ⟨_, List.getElem?_eq_getElem (by have := HR.out.1; have := HN.out; omega)⟩
      have hsl := (HR.out.2 k h l hh hll).stepB hb.out.bel
      have hsum : (ls.take (k + 1)).flatten = (ls.take k).flatten ++ l := by
        rw [List.take_add_one, hll]; simp
      have hle : (ls.take k).flatten.length + h.len ≤ 1000000 := by
        have h1 := HL.out
        have h2 : ls.flatten = (ls.take (k + 1)).flatten ++ (ls.drop (k + 1)).flatten := by rw [← List.flatten_append, List.take_append_drop]
        rw [h2, hsum] at h1
        simp only [List.length_append] at h1
        have := hsl.1
        omega
      obtain ⟨v', w', hrun, hbs⟩ := hb.out.app h.cap hsl (by omega)
      have HBS := Lib.hid (show Bs w w' v' (ls.take (k + 1)).flatten by rw [hsum]; exact hbs)
      have hcell : wr.cell? (ad.add k) = some (.slice h.a h.len h.cap) := by
        have := get1 (v := .slice h.a h.len h.cap) rfl hg
        rwa [show k * Enc.n Hdr = k from Nat.mul_one k] at this
      clear hh hg hll hsl hsum hle hbs hb
      go_wp2_with fail
      exact ⟨⟨k + 1, by omega, by go_num, HBS⟩, by simp [intOf]; omega⟩
    · obtain rfl : k = n := by omega
      have hb2 := hb.out
      rw [List.take_of_length_le (by have := HR.out.1; have := HN.out; omega)] at hb2
      have HBS := Lib.hid hb2
      clear hb hb2
      go_wp2_with fail
      go_ret
      exact ⟨_, rfl, HBS.out⟩
end Go.Proofs.YtfhhcgldikmejaaGreatDoor
/- What a client signs of a commitment, as the document says it. Conditions: those named in each theorem. -/
namespace Go.Proofs.YtfhhcgldikmejaaGreatDoor
open Go Go.RowKit Go.Gv Go.Proofs

theorem Bs.slV {w0 w : World} {v : Value} {xs : List U8} (h : Bs w0 w v xs) : ∃ A m c, v = .slice A m c ∧ xs.length = m ∧ Sl U8 w w.heap.size A m xs := by
  obtain ⟨A, c, hv, hs⟩ := h.sl
  exact ⟨A, _, c, hv, rfl, hs⟩
theorem sl_hash {w : World} {g o : Nat} {x : GHash} (h : get? GHash w ⟨g, o, none⟩ = some x) : Sl U8 w w.heap.size (some ⟨g, o, none⟩) 32 (hashL x) := by
  refine ⟨hashL_len x, fun _ => ⟨_, rfl, get?_lt h, fun k y hk => ?_⟩⟩
  rw [get?_iff]
  intro j u hu
  have hk2 : x.l[k]? = some y.v := by
    unfold hashL at hk
    rw [List.getElem?_map] at hk
    cases hx : x.l[k]? with
    | none => rw [hx] at hk; cases hk
    | some z => rw [hx] at hk; injection hk with hk; rw [← hk]
  have hj : j = 0 := by
    have := (List.getElem?_eq_some_iff.1 hu).1
    have : j < 1 := this
    omega
  subst hj
  have hu2 : u = encU8 y.v := by
    have : [encU8 y.v][0]? = some u := hu
    simpa using this.symm
  subst hu2
  have := (get?_iff.1 h) k (encU8 y.v) (by show (x.l.map encU8)[k]? = _; rw [List.getElem?_map, hk2]; rfl)
  rw [show k * Enc.n U8 = k from Nat.mul_one k]
  simpa [Addr.add] using this
set_option maxRecDepth 100000 in
set_option maxHeartbeats 4000000 in
theorem commitTextD_any (x : GCommit) (w : World) (h1 : x.name.client ≤ 9223372036854775807) (h2 : x.name.seq ≤ 9223372036854775807) (h3 : x.len ≤ 9223372036854775807) :
    Calls Tryz.prog 13 #[x.val] w fun e w' => ∃ (A : Option Addr) (m c : Nat), e = .returned (.slice A m c) ∧ (commitText x).length = m ∧ Sl U8 w' w'.heap.size A m (commitText x) ∧ Bel w w' := by
  have HG := Lib.hid (get?_new (w := w) 39 x)
  have HB := Lib.hid ((Bel.refl w).alloc (.cells (GCommit.enc x).toArray 39))
  go_enter Tryz.func13, Tryz.ntmps13
  go_upto_region 1 with fail
  change Hid (get? GCommit (w.alloc (.cells (GCommit.enc x).toArray 39)) ⟨w.heap.size, 0, none⟩ = some x) at HG
  generalize w.alloc (.cells (GCommit.enc x).toArray 39) = ws at HG HB ⊢
  obtain ⟨q, hq⟩ : ∃ q, w.heap.size = q := ⟨_, rfl⟩
  rw [hq] at HG ⊢
  have hqs : q < ws.heap.size := get?_lt HG.out
  have HQS := Lib.hid hqs
  clear hqs
  refine wp_region_H GB (Chg (fun k => ws.heap.size ≤ k)) [1] [] GB.rf (by kernel_rfl) ?_
  refine wpH_looks 9 21 [3, 4, 5, 7, 8, 9, 11, 12, 13, 14] rfl GB.rf GB.tr (Chg.refl _) (fun _ _ _ h k => h.tr k) (fun _ _ h => Chg.of_bel h _) (by kernel_rfl) (fun _ _ _ _ hd h => And.intro (hd ▸ And.left h) (And.right h)) rfl (by kernel_rfl) ?_
  intro ι W hne CW
  have CX : ∀ z, Chg (fun k => ws.heap.size ≤ k) ws (W z) := fun z => (Chg.of_bel ((Bel.refl ws).drew) _).tr (CW.out z)
  have nq : ¬ ws.heap.size ≤ q := by have := HQS.out; omega
  have k0 := GName.at_client (GCommit.at_name HG.out)
  simp only [Addr.add_lit, Nat.zero_add] at k0
  have j0 := fun z => (CX z).cell k0 nq
  have k1 := GName.at_seq (GCommit.at_name HG.out)
  simp only [Addr.add_lit, Nat.zero_add] at k1
  have j1 := fun z => (CX z).cell k1 nq
  have k2 := GCommit.at_len HG.out
  simp only [Addr.add_lit, Nat.zero_add] at k2
  have j2 := fun z => (CX z).cell k2 nq
  clear k0 k1 k2 CX nq
  repeat (refine wpLooksG_step (fun K hK => ?_); go_simp; refine hK _ ?_; clear hK K)
  refine wpLooksG_nil ?_
  clear j0 j1 j2 CW hne W ι
  refine wpH_force 0 _ rfl (by kernel_rfl) rfl fun wa hwa K hK => ?_
  go_simp
  refine hK _ _ (fun _ => GB.al _ _) (fun _ => Chg.of_bel (GB.al _ _) _) ?_
  clear hK K
  have hrow : (wa.alloc (.cells #[.int .u8 114, .int .u8 101, .int .u8 113, .int .u8 117, .int .u8 101, .int .u8 115, .int .u8 116] 5)).heap[wa.heap.size]? = some (.cells #[.int .u8 114, .int .u8 101, .int .u8 113, .int .u8 117, .int .u8 101, .int .u8 115, .int .u8 116] 5) := heap_alloc_new wa _
  have hsz : (wa.alloc (.cells #[.int .u8 114, .int .u8 101, .int .u8 113, .int .u8 117, .int .u8 101, .int .u8 115, .int .u8 116] 5)).heap.size = wa.heap.size + 1 := by simp
  have hb1 : Bel ws (wa.alloc (.cells #[.int .u8 114, .int .u8 101, .int .u8 113, .int .u8 117, .int .u8 101, .int .u8 115, .int .u8 116] 5)) := (GB.undrew hwa).trans ((Bel.refl wa).alloc _)
  have hle : ws.heap.size ≤ wa.heap.size := Below.size (GB.undrew hwa)
  obtain ⟨L, hLb⟩ : ∃ L, wa.heap.size = L := ⟨_, rfl⟩
  rw [hLb] at hrow hsz hle ⊢
  change wpH _ _ _ _ _ _ _ _ _ _ _ (wa.alloc (.cells #[.int .u8 114, .int .u8 101, .int .u8 113, .int .u8 117, .int .u8 101, .int .u8 115, .int .u8 116] 5))
  generalize wa.alloc (.cells #[.int .u8 114, .int .u8 101, .int .u8 113, .int .u8 117, .int .u8 101, .int .u8 115, .int .u8 116] 5) = w1 at hrow hsz hb1 ⊢
  have HP := Lib.hid (show w1.heap[L]? = some (.cells #[.int .u8 114, .int .u8 101, .int .u8 113, .int .u8 117, .int .u8 101, .int .u8 115, .int .u8 116] 5) ∧ L < w1.heap.size ∧ ws.heap.size ≤ L ∧ Bel ws w1 from ⟨hrow, by omega, hle, hb1⟩)
  clear hrow hsz hb1 hle hLb hwa
  refine wpH_force 1 _ rfl (by kernel_rfl) rfl fun wy hwy K hK => ?_
  have hrow := (Below.block hwy L HP.out.2.1).trans HP.out.1
  obtain ⟨wz, hcv, hch, hrz⟩ := conv_mark 7 7 hrow
  go_simp
  refine hK _ _ (fun h => absurd (by simp) h) (fun _ => hch.sub (fun k e => e ▸ HP.out.2.2.1)) ?_
  have hbz : Bel ws wz := Chg.bel2 (HP.out.2.2.2.trans hwy) hch (fun k e => e ▸ HP.out.2.2.1)
  have hsl : Sl U8 wz wz.heap.size (some ⟨L, 0, none⟩) 7 requestW := Sl.of_row hrz rfl rfl (by have := hch.size; have := HP.out.2.1; have := Below.size hwy; omega)
  have HBZ := Lib.hid hbz; have HSL := Lib.hid hsl
  clear hK K hrow hcv hch hrz hbz hsl hwy HP
  clear wy
  refine wpH_force 2 _ rfl (by kernel_rfl) rfl fun wa hwa K hK => ?_
  go_simp
  have ha1 : Bel wz wa := hwa
  refine (rowD_any (some ⟨L, 0, none⟩) 7 7 requestW wa (HSL.out.stepB ha1) (by omega)).mono ?_
  rintro _ wb1 ⟨v1, rfl, hb1⟩
  obtain ⟨A1, m1, c1, rfl, hm1, hs1⟩ := hb1.slV
  refine hK _ _ (fun _ => hb1.bel) (fun _ => Chg.of_bel hb1.bel _) ?_
  have HB1 := Lib.hid (ha1.trans hb1.bel); have HS1 := Lib.hid hs1; have HM1 := Lib.hid hm1
  clear hK K ha1 hb1 hs1 hm1 hwa
  refine wpH_force 6 _ rfl (by kernel_rfl) rfl fun wa hwa K hK => ?_
  go_simp
  have ha2 : Bel wb1 wa := hwa
  refine (intD_any x.name.client wa h1).mono ?_
  rintro _ wb2 ⟨v2, rfl, hb2⟩
  obtain ⟨A2, m2, c2, rfl, hm2, hs2⟩ := hb2.slV
  refine hK _ _ (fun _ => hb2.bel) (fun _ => Chg.of_bel hb2.bel _) ?_
  have HB2 := Lib.hid (ha2.trans hb2.bel); have HS2 := Lib.hid hs2; have HM2 := Lib.hid hm2
  clear hK K ha2 hb2 hs2 hm2 hwa
  refine wpH_force 10 _ rfl (by kernel_rfl) rfl fun wa hwa K hK => ?_
  go_simp
  have ha3 : Bel wb2 wa := hwa
  refine (intD_any x.name.seq wa h2).mono ?_
  rintro _ wb3 ⟨v3, rfl, hb3⟩
  obtain ⟨A3, m3, c3, rfl, hm3, hs3⟩ := hb3.slV
  refine hK _ _ (fun _ => hb3.bel) (fun _ => Chg.of_bel hb3.bel _) ?_
  have HB3 := Lib.hid (ha3.trans hb3.bel); have HS3 := Lib.hid hs3; have HM3 := Lib.hid hm3
  clear hK K ha3 hb3 hs3 hm3 hwa
  refine wpH_force 15 _ rfl (by kernel_rfl) rfl fun wa hwa K hK => ?_
  go_simp
  have ha4 : Bel wb3 wa := hwa
  refine (intD_any x.len wa h3).mono ?_
  rintro _ wb4 ⟨v4, rfl, hb4⟩
  obtain ⟨A4, m4, c4, rfl, hm4, hs4⟩ := hb4.slV
  refine hK _ _ (fun _ => hb4.bel) (fun _ => Chg.of_bel hb4.bel _) ?_
  have HB4 := Lib.hid (ha4.trans hb4.bel); have HS4 := Lib.hid hs4; have HM4 := Lib.hid hm4
  clear hK K ha4 hb4 hs4 hm4 hwa
  refine wpH_force 16 _ rfl (by kernel_rfl) rfl fun wa hwa K hK => ?_
  have ha5 : Bel wb4 wa := hwa
  go_simp
  refine hK _ _ (fun _ => GB.al _ _) (fun _ => Chg.of_bel (GB.al _ _) _) ?_
  clear hK K
  have hrows : RowsU wa [⟨A1, m1, c1⟩, ⟨A2, m2, c2⟩, ⟨A3, m3, c3⟩, ⟨some ⟨q, 2, none⟩, 32, 32⟩, ⟨A4, m4, c4⟩] [rowL requestW, intL x.name.client, intL x.name.seq, hashL x.hash, intL x.len] := by
    refine ⟨rfl, fun i h l e1 e2 => ?_⟩
    have hh := sl_hash (GB.get (HBZ.out.trans (HB1.out.trans (HB2.out.trans (HB3.out.trans (HB4.out.trans ha5))))) (show get? GHash ws ⟨q, 2, none⟩ = some x.hash by have := GCommit.at_hash HG.out; simpa only [Addr.add_lit, Nat.zero_add] using this))
    match i, e1, e2 with
    | 0, e1, e2 => injection e1 with e1; injection e2 with e2; subst e1 e2; exact HS1.out.stepB (HB2.out.trans (HB3.out.trans (HB4.out.trans ha5)))
    | 1, e1, e2 => injection e1 with e1; injection e2 with e2; subst e1 e2; exact HS2.out.stepB (HB3.out.trans (HB4.out.trans ha5))
    | 2, e1, e2 => injection e1 with e1; injection e2 with e2; subst e1 e2; exact HS3.out.stepB (HB4.out.trans ha5)
    | 3, e1, e2 => injection e1 with e1; injection e2 with e2; subst e1 e2; exact hh
    | 4, e1, e2 => injection e1 with e1; injection e2 with e2; subst e1 e2; exact HS4.out.stepB ha5
    | n + 5, e1, _ => simp at e1
  have hsl : Sl Hdr (wa.alloc (.cells #[Value.slice A1 m1 c1, Value.slice A2 m2 c2, Value.slice A3 m3 c3, Value.slice (some ⟨q, 2, none⟩) 32 32, Value.slice A4 m4 c4] 61)) (wa.alloc (.cells #[Value.slice A1 m1 c1, Value.slice A2 m2 c2, Value.slice A3 m3 c3, Value.slice (some ⟨q, 2, none⟩) 32 32, Value.slice A4 m4 c4] 61)).heap.size (some ⟨wa.heap.size, 0, none⟩) 5 [⟨A1, m1, c1⟩, ⟨A2, m2, c2⟩, ⟨A3, m3, c3⟩, ⟨some ⟨q, 2, none⟩, 32, 32⟩, ⟨A4, m4, c4⟩] := Sl.of_row (heap_alloc_new wa _) rfl rfl (by simp)
  have hbal := (Bel.refl wa).alloc (.cells #[Value.slice A1 m1 c1, Value.slice A2 m2 c2, Value.slice A3 m3 c3, Value.slice (some ⟨q, 2, none⟩) 32 32, Value.slice A4 m4 c4] 61)
  have HBX := Lib.hid (HB.out.trans (HBZ.out.trans (HB1.out.trans (HB2.out.trans (HB3.out.trans (HB4.out.trans (ha5.trans hbal)))))))
  have HROW := Lib.hid (hrows.step hbal)
  obtain ⟨p, hp⟩ : ∃ p, wa.heap.size = p := ⟨_, rfl⟩
  rw [hp] at hsl ⊢
  change wpH _ _ _ _ _ _ _ _ _ _ _ (wa.alloc (.cells #[Value.slice A1 m1 c1, Value.slice A2 m2 c2, Value.slice A3 m3 c3, Value.slice (some ⟨q, 2, none⟩) 32 32, Value.slice A4 m4 c4] 61))
  generalize wa.alloc (.cells #[Value.slice A1 m1 c1, Value.slice A2 m2 c2, Value.slice A3 m3 c3, Value.slice (some ⟨q, 2, none⟩) 32 32, Value.slice A4 m4 c4] 61) = wx at hsl hbal HBX HROW ⊢
  have HSX := Lib.hid hsl
  have HLEN := Lib.hid (show [rowL requestW, intL x.name.client, intL x.name.seq, hashL x.hash, intL x.len].flatten.length ≤ 1000000 by
    have l1 := intL_le h1; have l2 := intL_le h2; have l3 := intL_le h3; have l5 := hashL_len x.hash
    have l0 := rowL_le (l := requestW) (by decide)
    simp only [List.flatten_cons, List.flatten_nil, List.length_append, List.length_nil]
    omega)
  clear hrows hsl hbal hp hwa ha5 HS1 HS2 HS3 HS4 HM1 HM2 HM3 HM4 HB1 HB2 HB3 HB4
  refine wpH_force 17 _ rfl (by kernel_rfl) rfl fun wc hwc K hK => ?_
  have hc : Bel wx wc := hwc
  go_simp
  refine (joinD_any _ 5 5 _ _ wc (HSX.out.stepB hc) (HROW.out.step hc) (by omega) HLEN.out).mono ?_
  rintro _ wd ⟨v9, rfl, hb9⟩
  obtain ⟨A9, m9, c9, rfl, hm9, hs9⟩ := hb9.slV
  refine hK _ _ (fun _ => hb9.bel) (fun _ => Chg.of_bel hb9.bel _) ?_
  have HB9 := Lib.hid (HBX.out.trans (hc.trans hb9.bel)); have HS9 := Lib.hid hs9; have HM9 := Lib.hid hm9
  clear hK K hb9 hs9 hm9 hc hwc
  refine wpH_force 18 _ rfl (by kernel_rfl) rfl fun we hwe K hK => ?_
  go_simp
  refine hK _ _ (fun _ => GB.rf _) (fun _ => Chg.refl _ _) ?_
  clear hK K
  refine wpH_end (by kernel_rfl) (fun wn hwn => ?_) _
  have hbn := GB.tr _ _ _ hwe hwn
  have HSN := Lib.hid (HS9.out.stepB hbn); have HBN := Lib.hid (HB9.out.trans hbn)
  have HE := Lib.hid (show [rowL requestW, intL x.name.client, intL x.name.seq, hashL x.hash, intL x.len].flatten = commitText x by simp [commitText])
  clear hwe hwn hbn HS9 HB9
  go_wp2_with fail
  go_ret
  exact ⟨A9, m9, c9, rfl, by rw [← HE.out]; exact HM9.out, by rw [← HE.out]; exact HSN.out, HBN.out⟩
end Go.Proofs.YtfhhcgldikmejaaGreatDoor
