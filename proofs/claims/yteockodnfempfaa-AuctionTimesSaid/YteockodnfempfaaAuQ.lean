/- What Settle computes. Conditions: those named in each theorem. -/
import Derived.Test.YteockodnfempfaaAuP
namespace Go.Proofs.Yteockodnfempfaa
open Go Go.RowKit Go.Gv Go.Sort Go.Proofs
theorem get?_in_map {α : Type} [Enc α] {K V : Type} [DecidableEq K] [KEnc K] [VEnc V] {w : World} {r : Nat} {m : List (K × V)} (hm : mapAt K V w r = some m) {a : Addr} {x : α} (h : get? α w a = some x) : a.block ≠ r := by
  intro e
  obtain ⟨es, c, hb, _⟩ := mapAt_iff.1 hm
  have h0 : (Enc.enc x)[0]? = some ((Enc.enc x)[0]'(by rw [Enc.len]; exact Enc.pos)) := List.getElem?_eq_getElem _
  have := get?_iff.1 h 0 _ h0
  simp [World.cell?, add_block, e, hb] at this
theorem _root_.Go.Gv.Sl.gx {α : Type} [Enc α] {K V : Type} [DecidableEq K] [KEnc K] [VEnc V] {w w' : World} {r : Nat} {m : List (K × V)} (hm : mapAt K V w r = some m) (hg : GX r w w') {A : Option Addr} {n : Nat} {xs : List α} (h : Sl α w w.heap.size A n xs) : Sl α w' w'.heap.size A n xs := by
  refine ⟨h.1, fun hn => ?_⟩
  obtain ⟨ad, e, hb, hc⟩ := h.2 hn
  exact ⟨ad, e, Nat.lt_of_lt_of_le hb hg.size, fun k x hx => GX.getS hg (hc k x hx) (get?_in_map hm (hc k x hx))⟩
theorem SaleIs.gx {K V : Type} [DecidableEq K] [KEnc K] [VEnc V] {w w' : World} {r : Nat} {m : List (K × V)} (hm : mapAt K V w r = some m) (hg : GX r w w') {s : GAuctionSale} {x : MSale} (h : SaleIs w s x) : SaleIs w' s x := by
  obtain ⟨hd, h1, h2, h3⟩ := h
  exact ⟨hd, h1, h2.gx hm hg, h3⟩
theorem HouseAt.gx {w w' : World} {r r2 : Nat} {H : MHouse} {K V : Type} [DecidableEq K] [KEnc K] [VEnc V] {m : List (K × V)} (hm : mapAt K V w r = some m) (hg : GX r w w') (hne : r2 ≠ r) (h : HouseAt w r2 H) : HouseAt w' r2 H := by
  obtain ⟨m2, hm2, hr⟩ := h
  exact ⟨m2, (mapAt_keep (hg.block _ (mapAt_lt hm2) (fun e => hne (by injection e)))).trans hm2, HRel.mono (fun s x hs => SaleIs.gx hm hg hs) hr⟩
theorem HouseIs.gx {w w' : World} {p : Addr} {r r2 : Nat} {H : MHouse} {K V : Type} [DecidableEq K] [KEnc K] [VEnc V] {m : List (K × V)} (hm : mapAt K V w r = some m) (hg : GX r w w') (hne : r2 ≠ r) (hp : p.block ≠ r) (h : HouseIs w p r2 H) : HouseIs w' p r2 H :=
  ⟨GX.cell hg h.1 hp, h.2.gx hm hg hne⟩
theorem OwnS.gx {α : Type} [Enc α] {w w' : World} {r base : Nat} {e : TypeId} {v : Value} {xs : List α} (h : OwnS w base e v xs) (hg : GX r w w') (hr : r < base) : OwnS w' base e v xs := by
  refine h.kept hg ?_
  cases hv : v.ownBlock with
  | none => exact .inl rfl
  | some k => exact .inr (fun e => by injection e with e; have := (h.lt k hv).1; omega)
theorem Bel.gx {w0 w w' : World} {r : Nat} (hb : GX r w0 w) (h : Bel w w') : GX r w0 w' := GX.tr _ _ _ hb (GX.of_bel h r)

theorem permIn_list {α : Type} [Inhabited α] {xs : List α} {d : Array α} (h : PermIn 0 xs.toArray.size xs.toArray d) : d.toList.Perm xs := by
  obtain ⟨h1, _, h3⟩ := h
  rw [← h1] at h3
  have h4 : (List.take xs.length d.toList).Perm xs := by simpa [h1] using h3
  rwa [List.take_of_length_le (by have := h1; simp at this; simp; omega)] at h4
theorem sortedIn_list {α : Type} [Inhabited α] {lt : α → α → Bool} {d : Array α} (h : SortedIn lt 0 d.size d) : d.toList.Pairwise fun x y => lt y x = false := by
  rw [List.pairwise_iff_getElem]
  intro i j hi hj hij
  have h2 := h i j (Nat.zero_le _) hij (by simpa using hj)
  rw [getElem!_pos d i (by simpa using hi), getElem!_pos d j (by simpa using hj)] at h2
  simpa using h2
/-- SortFunc at a list of the call's own. -/
theorem sortSale_own (base c : Nat) (A : Option Addr) (xs : List GAuctionSale) (w : World) (h : OwnA w base 146 A c xs) (hn : xs.length ≤ 1000000) :
    Calls Try.prog 75 #[.slice A xs.length c, .func (.func 76) #[] #[]] w fun e w' => e = .returned (.tuple #[]) ∧
      ∃ (ys : List GAuctionSale) (gb : Nat), ys.Perm xs ∧ (ys.Pairwise fun x y => ltOf saleCmp y x = false) ∧ Sl GAuctionSale w' w'.heap.size A xs.length ys ∧ base ≤ gb ∧ GX gb w w' := by
  by_cases h0 : xs.length = 0
  · obtain rfl : xs = [] := List.eq_nil_of_length_eq_zero h0
    refine (AnyF.slices_SortFunc_none Try.sortSale A c _ w).mono ?_
    rintro e w' ⟨rfl, rfl⟩
    exact ⟨rfl, [], base, .refl _, List.Pairwise.nil, ⟨rfl, fun h => absurd h (by simp)⟩, Nat.le_refl _, GX.rf _⟩
  · obtain ⟨g, rfl, hg1, hg2, hg3⟩ := OwnA.place h (by omega)
    refine (sortSale_any g 0 c xs w h.sl hg2 hg3 hn).mono ?_
    rintro e w' ⟨rfl, d, hp, hs, hsl, hg⟩
    have hz : d.size = xs.toArray.size := hp.1
    refine ⟨rfl, d.toList, g, permIn_list hp, sortedIn_list (by rw [hz]; exact hs), hsl.more hg.size, hg1, hg⟩
theorem due_sorted {w : World} {ds : List GAuctionSale} {D : List MSale} (h : R2 (SaleIs w) ds D) (hs : ds.Pairwise fun x y => ltOf saleCmp y x = false) : D.Pairwise saleLe := by
  refine h.pairwise (fun a b a' b' ha hb hab => ?_) hs
  obtain ⟨h1, rfl, _⟩ := ha
  obtain ⟨h2, rfl, _⟩ := hb
  have : ¬ ltOf saleCmp (b'.at h2) (a'.at h1) = true := by rw [hab]; decide
  rw [saleLt_iff] at this
  unfold saleLe
  simp only [MSale.at] at this
  by_cases h1 : a'.close < b'.close
  · exact .inl h1
  · right
    by_cases h2 : b'.close < a'.close
    · exact absurd (.inl h2) this
    · exact ⟨by omega, fun h3 => this (.inr ⟨by omega, h3⟩)⟩
theorem atPoke {w : World} {g : Nat} {cs : List Value} (h : At w ⟨g, 0, none⟩ cs) {j : Nat} (hj : j < cs.length) (v : Value) : At (w.setCell ⟨g, j, none⟩ v) ⟨g, 0, none⟩ (cs.set j v) := by
  intro i u hu
  rw [addN, Nat.zero_add]
  have hi : i < cs.length := by have := (List.getElem?_eq_some_iff.1 hu).1; simpa using this
  have hx := h i _ (List.getElem?_eq_getElem hi)
  rw [addN, Nat.zero_add] at hx
  by_cases e : j = i
  · subst e
    rw [World.cell?_setCell_same w _ v hx]
    rw [List.getElem?_set_self hj] at hu; exact hu
  · rw [World.cell?_setCell_other w _ _ v (fun h => e (by injection h)), hx]
    rw [List.getElem?_set_ne e, List.getElem?_eq_getElem hi] at hu; exact hu
theorem atPutSeg {g j : Nat} : ∀ (vs : List Value) (i : Nat) (w : World) (cs : List Value), At w ⟨g, 0, none⟩ cs → j + i + vs.length ≤ cs.length → At (World.putFrom w ⟨g, j, none⟩ i vs) ⟨g, 0, none⟩ (setSeg cs (j + i) vs)
  | [], _, _, _, h, _ => h
  | v :: vs, i, w, cs, h, hl => by
    simp only [List.length_cons] at hl
    unfold World.putFrom setSeg
    rw [addN]
    exact atPutSeg vs (i + 1) _ _ (atPoke h (by omega) v) (by rw [List.length_set]; omega)
theorem get?_putSeg {α : Type} [Enc α] {w : World} {g j : Nat} {x y : α} {vs : List Value} (h : get? α w ⟨g, 0, none⟩ = some x) (hl : j + vs.length ≤ Enc.n α) (hy : Enc.enc y = setSeg (Enc.enc x) j vs) : get? α (World.putCells w ⟨g, j, none⟩ vs) ⟨g, 0, none⟩ = some y := by
  rw [get?_iff] at h ⊢
  rw [hy]
  unfold World.putCells
  exact atPutSeg vs 0 w _ h (by rw [Enc.len]; omega)
theorem sale_done (s : GAuctionSale) (x : GAuctionResult) : Enc.enc ({ s with settled := true, result := x } : GAuctionSale) = setSeg ((Enc.enc s).set 5 (.bool true)) 6 (Enc.enc x) := rfl

theorem mapAt_nodup_H {w : World} {r : Nat} {m : List (ByteArray × GAuctionSale)} {H : MHouse} (h : HRel w m H) (hm : mapAt ByteArray GAuctionSale w r = some m) : (H.map (·.1)).Nodup := by
  rw [← h.keys]; exact mapAt_nodup hm
/-- What Settle leaves. -/
def Settled (w : World) (p : Addr) (r : Nat) (H : MHouse) (now : Int) (e : Ending) (w' : World) : Prop :=
  ∃ (D : List MSale) (v : Value), e = .returned v ∧ D.Perm (dueM H now) ∧ D.Pairwise saleLe ∧ OwnS w' w.heap.size 59 v (D.map endR) ∧ HouseIs w' p r (settleH H now) ∧ GX r w w'

set_option maxRecDepth 100000 in
set_option maxHeartbeats 4000000 in
theorem settle_any (p : Addr) (r : Nat) (H : MHouse) (now : Int) (w : World) (hH : HouseIs w p r H) (hp : p.block ≠ r) (hN : Named H) (hlen : H.length ≤ 1000000) (hbids : ∀ q ∈ H, q.2.bids.length < 20) :
    Calls Try.prog 37 #[.pointer (some p), .int .u64 now] w (Settled w p r H now) := by
  obtain ⟨hc, m, hm, hr⟩ := hH
  have hml := hr.len
  have hpl : p.block < w.heap.size := World.block_lt_of_cell? w _ hc
  have hrl := mapAt_lt hm
  have HR := Lib.hid hr; have HN := Lib.hid hN; have HB := Lib.hid hbids; clear hr hN hbids
  have HML := Lib.hid hml; clear hml
  obtain ⟨o, hrange, hR0⟩ := ranges_start (P := Try.prog) um141 hm
  have HR0 := Lib.hid hR0; clear hR0
  have HM := Lib.hid hm; have HC := Lib.hid hc; clear hm
  go_enter Try.func37, Try.ntmps37
  go_wp2_with fail
  clear hrange hc
  go_loopw [5] (fun v wr => ∃ V L, (V ++ L).Perm m ∧ Ranges wr r w.heap.size m L ∧ OwnS wr (w.heap.size + 1) 146 v ((V.filter fun p => dueG now p.2).map (·.2)) ∧ Bel w wr ∧ w.heap.size < wr.heap.size) (fun _ wr => wr.rangeLeft r w.heap.size)
  case atStart => exact ⟨[], m, by simp, HR0.out, OwnS.nil _ _ _, (Bel.refl w).alloc _, by simp⟩
  case round =>
    obtain ⟨V, L, hperm, hR, hown, hb, hsz⟩ := hrel
    have HP := Lib.hid hperm; have HRG := Lib.hid hR; have HO := Lib.hid hown; have HBL := Lib.hid hb; clear hperm hR hown hb
    rcases HRG.out.next Try.prog with ⟨rfl, hnext⟩ | ⟨l1, q, l2, w1, rfl, hnext, hR1, hg1, hs1, hen⟩
    · have hV : V.Perm m := by simpa using HP.out
      obtain ⟨ys, hys⟩ : ∃ ys, ((V.filter fun p => dueG now p.2).map (·.2) : List GAuctionSale) = ys := ⟨_, rfl⟩
      have ho := HO.out
      rw [hys] at ho
      have hyl : ys.length ≤ 1000000 := by
        rw [← hys, List.length_map]
        refine Nat.le_trans (List.length_filter_le _ _) ?_
        have h1 := hV.length_eq
        have h2 := HML.out
        omega
      obtain ⟨A, c, rfl, hoa, hc1, hc2⟩ := OwnS.ownA ho
      have HS := Lib.hid (sortSale_own _ c A ys wr hoa hyl)
      have HV := Lib.hid hV; have HYS := Lib.hid hys
      clear hV hys ho HO HP HRG
      go_wp2_with fail
      refine HS.out.mono ?_
      rintro _ w5 ⟨rfl, ds, gb, hdp, hds, hsl, hgb, hgx⟩
      have hb5 : Bel w w5 := HBL.out.grown hgx (fun k hk => by injection hk with hk; omega)
      obtain ⟨D, hD, hR2⟩ := due_typed (now := now) HR.out HV.out (ds := ds) (by rw [HYS.out]; exact hdp)
      have hDs := due_sorted hR2 hds
      have hdl : ds.length = ys.length := hdp.length_eq
      have hDl : D.length = ys.length := by rw [← hR2.len, hdl]
      have HSL := Lib.hid hsl; have HB5 := Lib.hid hb5; have HD := Lib.hid hD; have HR2 := Lib.hid hR2; have HDS := Lib.hid hDs
      have HHS := Lib.hid (show HouseIs w5 p r H from HouseIs.step ⟨HC.out, m, HM.out, HR.out⟩ hb5)
      have HDL := Lib.hid hDl
      clear hdp hds hsl hgx hb5 hD hR2 hDs hdl hDl HS HV HYS hoa HBL
      obtain ⟨n, hn⟩ : ∃ n, ys.length = n := ⟨_, rfl⟩
      rw [hn] at HSL HDL hyl hc1 ⊢
      clear hn
      obtain ⟨m5, hm5, _⟩ := HHS.out.2
      have hr5 := mapAt_lt hm5
      have HM5 := Lib.hid hm5; clear hm5
      go_wp2_with fail
      obtain ⟨m5', hm5', hr5'⟩ := HHS.out.2
      have HS5 := Lib.hid (show mapAt ByteArray GAuctionSale w5 r = some m5' ∧ HRel w5 m5' H from ⟨hm5', hr5'⟩)
      clear hm5' hr5'
      go_loopw [8, 37] (fun v i wr => ∃ (k : Nat) (mk : List (ByteArray × GAuctionSale)), k ≤ n ∧ i = .int .i64 k ∧ OwnS wr w5.heap.size 59 v ((D.take k).map endR) ∧ mapAt ByteArray GAuctionSale wr r = some mk ∧ HRel w5 mk (settleBy ((D.take k).map (·.name)) H) ∧ GX r w5 wr) (fun _ i _ => n - (intOf i).toNat)
      case atStart => exact ⟨0, m5', by omega, rfl, OwnS.nil _ _ _, HS5.out.1, by simpa [settleBy_nil] using HS5.out.2, GX.rf _⟩
      case round =>
        obtain ⟨k, mk, hk, rfl, hown, hmk, hrk, hgk⟩ := hrel
        have HO := Lib.hid hown; have HMK := Lib.hid hmk; have HRK := Lib.hid hrk; have HGK := Lib.hid hgk; clear hown hmk hrk hgk
        have hz5 := HGK.out.size
        have hck : wr.cell? p = some (.map (some r)) := GX.cell HGK.out HHS.out.1 hp
        by_cases hlt : k < n
        · obtain ⟨ad, s, rfl, hab, hsk, hgs⟩ := (Sl.gx HM5.out HGK.out HSL.out).at_ (k := k) hlt
          obtain ⟨x, hxk, hsx⟩ := HR2.out.at_ hsk
          have hsx5 := hsx.step HB5.out
          have hsxr := SaleIs.gx HM5.out HGK.out hsx5
          have hxb := HB.out _ (due_mem HN.out HD.out (List.mem_of_getElem? hxk))
          have hsn : s.name = x.name := by obtain ⟨hd, rfl, _⟩ := hsx; rfl
          have hs8 : SaleIs w5 ({ s with settled := true, result := endR x } : GAuctionSale) (doneM x) := by
            obtain ⟨hd, rfl, h2, h3⟩ := hsx5
            exact ⟨hd, rfl, h2, h3⟩
          obtain ⟨s8, e8⟩ : ∃ s8 : GAuctionSale, ({ s with settled := true, result := endR x } : GAuctionSale) = s8 := ⟨_, rfl⟩
          rw [e8] at hs8
          have e8n : s8.name = s.name := by rw [← e8]
          have e8r : s8.result = endR x := by rw [← e8]
          have E8N := Lib.hid e8n; have E8R := Lib.hid e8r; clear e8n e8r
          have E8 := Lib.hid e8; clear e8
          change get? GAuctionSale wr (ad.add (k * 9)) = some s at hgs
          have HXK := Lib.hid hxk; have HSX := Lib.hid hsxr; have HXB := Lib.hid hxb; have HSN := Lib.hid hsn; have HS8 := Lib.hid hs8; clear hsk hxk hsx hsxr hxb hsn hs8 hsx5
          go_wp2_with fail
          refine (end_any s x _ (HSX.out.step ((Bel.refl _).alloc _)) HXB.out).mono ?_
          rintro _ w6 ⟨rfl, hb6⟩
          have hgb0 := get?_new (w := wr) 146 s
          have hfr0 := blkFree_new (t := 146) (w := wr) s.enc.toArray wr.heap.size rfl
          have hgb := GB.get hb6 hgb0
          have hbz : wr.heap.size < w6.heap.size := by have := hb6.size; simp at this; omega
          have hfr := GX.free (GX.of_bel hb6 (w6.heap.size)) hfr0 (by simp) (by omega)
          have f5 : w6.cell? ⟨wr.heap.size, 5, none⟩ = some (.bool s.settled) := by simpa using cell_off (by omega) (GAuctionSale.at_settled hgb)
          have z5 := frozen_of_free (a := ⟨wr.heap.size, 5, none⟩) hfr
          have hg7 : get? GAuctionSale (w6.setCell ⟨wr.heap.size, 5, none⟩ (.bool true)) ⟨wr.heap.size, 0, none⟩ = some { s with settled := true } := get?_poke hgb rfl
          have f6 : get? GAuctionResult (w6.setCell ⟨wr.heap.size, 5, none⟩ (.bool true)) ⟨wr.heap.size, 6, none⟩ = some s.result := by
            have := GAuctionSale.at_result hg7
            rwa [addN] at this
          have z6 : blkFree (w6.setCell ⟨wr.heap.size, 5, none⟩ (.bool true)) wr.heap.size = true := by rw [blkFree_setCell]; exact hfr
          have hg8 : get? GAuctionSale (World.putCells (w6.setCell ⟨wr.heap.size, 5, none⟩ (.bool true)) ⟨wr.heap.size, 6, none⟩ (endR x).enc) ⟨wr.heap.size, 0, none⟩ = some s8 := get?_putSeg hg7 (by show 6 + (endR x).enc.length ≤ 9; rw [GAuctionResult.enc_len]; omega) (by rw [← E8.out]; rfl)
          have hb8 : Bel wr (World.putCells (w6.setCell ⟨wr.heap.size, 5, none⟩ (.bool true)) ⟨wr.heap.size, 6, none⟩ (endR x).enc) :=
            Below_putCells (a := ⟨wr.heap.size, 6, none⟩) (((((Bel.refl wr).alloc _).trans hb6)).setCell (p := ⟨wr.heap.size, 5, none⟩) (Nat.le_refl _) _) (Nat.le_refl _) _
          have HG8 := Lib.hid hg8; have HB8 := Lib.hid hb8
          clear hgb0 hfr0 hgb hfr hb6 hg7 hg8 hb8
          go_wp2_with fail
          clear f5 f6 z5 z6
          generalize World.putCells (w6.setCell ⟨wr.heap.size, 5, none⟩ (.bool true)) ⟨wr.heap.size, 6, none⟩ (endR x).enc = w8 at HG8 HB8 ⊢
          have hbz8 := HB8.out.size
          have k0 : w8.cell? p = some (.map (some r)) := GB.cell HB8.out hck
          have k1 : w8.cell? ⟨wr.heap.size, 0, none⟩ = some (.string s.name) := by rw [← E8N.out]; exact cell_zero (GAuctionSale.at_name HG8.out)
          have hm8 : mapAt ByteArray GAuctionSale w8 r = some mk := (mapAt_below HB8.out (mapAt_lt HMK.out)).trans HMK.out
          refine wp_region_G GB [7] GB.rf (by kernel_rfl) ?_
          refine wpG_looks 1 8 [0,1,2,3,4,5,6] rfl GB.rf GB.tr (by kernel_rfl) (fun _ _ _ _ hd h => And.intro (hd ▸ And.left h) (And.right h)) rfl (by kernel_rfl) ?_
          intro ι W hne CW
          have g0 : ∀ z, (W z).cell? p = some (.map (some r)) := fun z => (CW.out z).cell k0
          have g1 : ∀ z, (W z).cell? ⟨wr.heap.size, 0, none⟩ = some (.string s.name) := fun z => (CW.out z).cell k1
          have g2 : ∀ z, get? GAuctionSale (W z) ⟨wr.heap.size, 0, none⟩ = some s8 := fun z => (CW.out z).get HG8.out
          repeat (refine wpLooksG_step (fun K hK => ?_); go_simp; refine hK _ ?_; clear hK K)
          refine wpLooksG_nil ?_
          clear g0 g1 g2 CW hne W ι
          refine wpG_force 7 _ rfl (by kernel_rfl) rfl fun wa hwa K hK => ?_
          have hma : mapAt ByteArray GAuctionSale wa r = some mk := (mapAt_below hwa.undrew (mapAt_lt hm8)).trans hm8
          go_simp
          have hml1 := mapAt_mput kl9 um141 hma s.name s8
          have hgr1 := mput_grown kl9 um141 hma s.name s8
          have hg9 : get? GAuctionSale (mput Try.prog 141 wa r s.name s8) ⟨wr.heap.size, 0, none⟩ = some s8 := (mput_get kl9 um141 hma s.name s8 _ _).trans (GB.get hwa.undrew HG8.out)
          have ho9 := ((HO.out.step HB8.out).step hwa.undrew).kept hgr1 (by
            cases hv : Value.ownBlock u8 with
            | none => exact .inl rfl
            | some j => exact .inr (fun e => by injection e with e; have := (HO.out.lt j hv).1; omega))
          have hgx9 : GX r w5 (mput Try.prog 141 wa r s.name s8) := GX.tr _ _ _ (GX.tr _ _ _ HGK.out (GX.of_bel (HB8.out.trans hwa.undrew) r)) hgr1
          have HM9 := Lib.hid hml1; have HG9 := Lib.hid hg9; have HO9 := Lib.hid ho9; have HX9 := Lib.hid hgx9
          clear hml1 hgr1 hg9 ho9 hgx9 hma k0 k1 hm8
          generalize mput Try.prog 141 wa r s.name s8 = w9 at HM9 HG9 HO9 HX9 ⊢
          refine hK _ _ (fun h => absurd (by simp) h) ?_
          clear hK K hwa
          refine wpG_end (by kernel_rfl) (fun wn hwn => ?_) _
          have k6 : get? GAuctionResult wn ⟨wr.heap.size, 6, none⟩ = some (endR x) := by
            have := GAuctionSale.at_result (GB.get hwn HG9.out)
            rwa [addN, Nat.zero_add, E8R.out] at this
          have hln : ((D.take k).map endR).length ≤ k := by rw [List.length_map]; exact List.length_take_le _ _
          obtain ⟨v4, w4, hrun4, ho4, hg4, _⟩ := gAppend_S (P := Try.prog) ei56 (t := 56) ((HO9.out.step hwn).alloc (.cells (endR x).enc.toArray 59)) (c := 1) (m := 1) (A := some ⟨wn.heap.size, 0, none⟩) (Sl.new_ (B := wn.heap.size + 1) (xs := [endR x]) (by simp; rfl) rfl rfl (by omega)) (Nat.le_trans (Nat.add_le_add_right hln 1) (by unfold maxLen; omega)) (Nat.le_trans (Nat.mul_le_mul_right _ (Nat.add_le_add_right hln 1)) (by omega)) (by have := HX9.out.size; have := hwn.size; simp only [World.size_alloc]; omega) 56
          have etk : (D.take (k + 1)).map endR = (D.take k).map endR ++ [endR x] := by rw [List.take_add_one, HXK.out, List.map_append]; rfl
          rw [← etk] at ho4
          have hown4 : ∀ j, u8.ownBlock = some j → w5.heap.size ≤ j := fun j hj => (HO9.out.lt j hj).1
          have hm4 : mapAt ByteArray GAuctionSale w4 r = some (mset mk s.name s8) :=
            mapAt_grown hg4 (fun e => by have := hown4 r e.symm; omega) (mapAt_alloc _ ((mapAt_below hwn (mapAt_lt HM9.out)).trans HM9.out))
          have hr4 : HRel w5 (mset mk s.name s8) (settleBy ((D.take (k + 1)).map (·.name)) H) := by
            have h1 := HRK.out.set (k := s.name) HS8.out
            rw [HSN.out] at h1 ⊢
            rwa [settle_step (mapAt_nodup_H HR.out HM.out) HN.out HD.out HXK.out] at h1
          have hx4 : GX r w5 w4 := World.grownBy.andThen (World.grownBy.andThen (World.grownBy.andThen HX9.out (GX.of_bel hwn r) (fun j hj => .inr hj)) (GX.of_bel ((Bel.refl wn).alloc _) r) (fun j hj => .inr hj)) hg4 (fun j hj => .inl (hown4 j hj))
          have HO4 := Lib.hid ho4; have HM4 := Lib.hid hm4; have HR4 := Lib.hid hr4; have HX4 := Lib.hid hx4
          clear ho4 hg4 hm4 hr4 hx4 etk hown4 hln hwn
          go_wp2_with fail
          exact ⟨⟨k + 1, mset mk s.name s8, by omega, by go_num, HO4.out, HM4.out, HR4.out, HX4.out⟩, by simp [intOf]; omega⟩
        · obtain rfl : k = n := by omega
          have htk : D.take k = D := List.take_of_length_le (by rw [HDL.out]; exact Nat.le_refl _)
          have HTK := Lib.hid htk; clear htk
          go_wp2_with fail
          go_ret
          refine ⟨D, _, rfl, HD.out, HDS.out, ?_, ⟨hck, mk, HMK.out, ?_⟩, GX.tr _ _ _ (GX.of_bel HB5.out r) HGK.out⟩
          · have := HO.out
            rw [HTK.out] at this
            exact OwnS.mono this HB5.out.size
          · have := HRK.out
            rw [HTK.out, settleBy_end (mapAt_nodup_H HR.out HM.out) HN.out HD.out] at this
            exact HRel.mono (fun _ _ hs => SaleIs.gx HM5.out HGK.out hs) this
    · obtain ⟨k, s⟩ := q
      replace hnext : ∀ ty : TypeId, (Instr.next (.pointer (some ⟨w.heap.size, 0, none⟩)) false ty).run Try.prog wr = .ok (.tuple #[.bool true, .string k, s.val]) w1 := hnext
      replace hen : (Instr.entry (.pointer (some ⟨w.heap.size, 0, none⟩))).run Try.prog w1 = .ok (.tuple #[.string k, s.val]) w1 := hen
      have hl1 : (((V.filter fun p => dueG now p.2).map (·.2)) : List GAuctionSale).length ≤ 1000000 := by
        rw [List.length_map]
        refine Nat.le_trans (List.length_filter_le _ _) ?_
        have h1 := HP.out.length_eq
        rw [List.length_append] at h1
        have h2 := HML.out
        omega
      have HR1 := Lib.hid hR1; have HG1 := Lib.hid hg1
      have HO1 := Lib.hid (HO.out.kept hg1 (by
        cases hv : Value.ownBlock u5 with
        | none => exact .inl rfl
        | some j => exact .inr (fun e => by injection e with e; have := (HO.out.lt j hv).1; omega)))
      have HB1 := Lib.hid (HBL.out.grown hg1 (fun j hj => by injection hj with hj; omega))
      have hp2 : ((V ++ [(k, s)]) ++ (l1 ++ l2)).Perm m := by
        refine List.Perm.trans ?_ HP.out
        rw [List.append_assoc]
        show (V ++ ((k, s) :: (l1 ++ l2))).Perm _
        exact (List.perm_middle.symm).append_left V
      have HP2 := Lib.hid hp2
      have hmeas : (l1 ++ l2).length < wr.rangeLeft r w.heap.size := by rw [HRG.out.leftN]; simp
      clear hR1 hg1 hp2
      by_cases hd : dueG now s = true
      · have hd2 : s.settled = false ∧ s.close < now := by unfold dueG at hd; simpa using hd
        obtain ⟨hd3, hd4⟩ := hd2
        have e : ((V ++ [(k, s)]).filter fun p => dueG now p.2).map (·.2) = ((V.filter fun p => dueG now p.2).map (·.2)) ++ [s] := by rw [List.filter_append, List.map_append]; simp [hd]
        have HE := Lib.hid e; clear e hd
        obtain ⟨v4, w4, hrun4, ho4, hg4, _⟩ := gAppend_S (P := Try.prog) ei154 (t := 154) ((HO1.out.alloc (.cells s.enc.toArray 146)).alloc (.cells s.enc.toArray 146)) (c := 1) (m := 1) (A := some ⟨wr.heap.size + 1, 0, none⟩) (Sl.new_ (B := wr.heap.size + 2) (xs := [s]) (by simp; rfl) rfl (by simp [World.size_alloc, hs1]) (by omega)) (Nat.le_trans (Nat.add_le_add_right hl1 1) (by unfold maxLen; omega)) (Nat.le_trans (Nat.mul_le_mul_right _ (Nat.add_le_add_right hl1 1)) (by omega)) (by simp only [World.size_alloc]; omega) 154
        rw [← HE.out] at ho4
        have hbB := ((HB1.out.alloc (.cells s.enc.toArray 146)).alloc (.cells s.enc.toArray 146)).appS hg4 ((HO1.out.alloc (.cells s.enc.toArray 146)).alloc (.cells s.enc.toArray 146)) (by omega)
        have hrg := ((HR1.out.below ((Below.refl _ _).alloc (Nat.le_refl _) (.cells s.enc.toArray 146))).below ((Below.refl _ _).alloc (Nat.le_refl _) (.cells s.enc.toArray 146))).kept hg4 (fun e => by have := (HO.out.lt _ e.symm).1; omega) (fun e => by have := (HO.out.lt _ e.symm).1; omega)
        have hz4 := hg4.size
        simp only [World.size_alloc] at hz4
        have HO4 := Lib.hid ho4; have HB4 := Lib.hid hbB; have HR4 := Lib.hid hrg; clear ho4 hg4 hbB hrg hl1
        go_wp2_with fail
        exact ⟨⟨V ++ [(k, s)], l1 ++ l2, HP2.out, HR4.out, HO4.out, HB4.out, by omega⟩, by rw [HR4.out.leftN]; exact hmeas⟩
      · have e : ((V ++ [(k, s)]).filter fun p => dueG now p.2).map (·.2) = ((V.filter fun p => dueG now p.2).map (·.2)) := by rw [List.filter_append, List.map_append]; simp [hd]
        have HE := Lib.hid e; clear e
        have hrg := HR1.out.below ((Below.refl _ _).alloc (Nat.le_refl _) (.cells s.enc.toArray 146))
        have HR4 := Lib.hid hrg; clear hrg hl1
        have hsd : s.settled = true ∨ (s.settled = false ∧ ¬ s.close < now) := by
          unfold dueG at hd
          cases hq : s.settled
          · right; rw [hq] at hd; exact ⟨rfl, by simpa using hd⟩
          · left; rfl
        clear hd
        rcases hsd with hd3 | ⟨hd3, hd4⟩
        · go_wp2_with fail
          exact ⟨⟨V ++ [(k, s)], l1 ++ l2, HP2.out, HR4.out, by rw [HE.out]; exact HO1.out.alloc _, HB1.out.alloc _, by simp; omega⟩, by rw [HR4.out.leftN]; exact hmeas⟩
        · go_wp2_with fail
          exact ⟨⟨V ++ [(k, s)], l1 ++ l2, HP2.out, HR4.out, by rw [HE.out]; exact HO1.out.alloc _, HB1.out.alloc _, by simp; omega⟩, by rw [HR4.out.leftN]; exact hmeas⟩
end Go.Proofs.Yteockodnfempfaa
