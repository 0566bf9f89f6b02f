/- LedgerBase returns true, walked. Conditions: those named in each theorem. -/
import Derived.Test.YteockodnfempfaaP12
/- Places that are open, as a list by their numbers. Conditions: those named in each theorem. -/
namespace Go.Proofs.Yteockodnfempfaa
open Go Go.RowKit Go.Gv Go.Sort

def opensFrom : Nat → List MPlace → List (Int × GEntry)
  | _, [] => []
  | i, m :: l => (if m.status = 1 then [((i : Int), m.e)] else []) ++ opensFrom (i + 1) l
theorem opens_snoc (m : MPlace) : ∀ (l : List MPlace) (i : Nat), opensFrom i (l ++ [m]) = opensFrom i l ++ (if m.status = 1 then [(((i + l.length : Nat) : Int), m.e)] else [])
  | [], i => by simp [opensFrom]
  | x :: l, i => by
    show _ ++ opensFrom (i + 1) (l ++ [m]) = (_ ++ opensFrom (i + 1) l) ++ _
    rw [opens_snoc m l (i + 1), List.append_assoc, List.length_cons, show i + 1 + l.length = i + (l.length + 1) from by omega]
theorem opens_in : ∀ (l : List MPlace) (i : Nat) (p : Int × GEntry), p ∈ opensFrom i l → (i : Int) ≤ p.1 ∧ p.1 < ((i + l.length : Nat) : Int)
  | [], _, _, h => by simp [opensFrom] at h
  | x :: l, i, p, h => by
    simp only [opensFrom, List.mem_append] at h
    rcases h with h | h
    · split at h
      · simp only [List.mem_singleton] at h
        subst h
        simp only [List.length_cons]
        omega
      · simp at h
    · have := opens_in l (i + 1) p h
      simp only [List.length_cons]
      omega
theorem opens_at : ∀ (l : List MPlace) (i k : Nat) (m : MPlace), l[k]? = some m → mget (opensFrom i l) (((i + k : Nat) : Int)) = if m.status = 1 then some m.e else none
  | [], _, _, _, h => by simp at h
  | x :: l, i, 0, m, h => by
    simp at h; subst h
    simp only [opensFrom]
    rw [mget_append]
    have hn : mget (opensFrom (i + 1) l) ((i + 0 : Nat) : Int) = none := mget_none.2 fun hm => by
      rw [List.mem_map] at hm
      obtain ⟨p, hp, e⟩ := hm
      have := opens_in l (i + 1) p hp
      omega
    rw [hn]
    split
    · rw [mget_cons]; simp
    · simp [mget_nil]
  | x :: l, i, k + 1, m, h => by
    simp only [opensFrom]
    rw [mget_append]
    have ih := opens_at l (i + 1) k m (by simpa using h)
    rw [show i + 1 + k = i + (k + 1) from by omega] at ih
    rw [ih]
    split
    · rw [mget_cons, if_neg (by simp only; omega), mget_nil]; rfl
    · rw [mget_nil]; rfl
def opensL (M : MLedger) : List (Int × GEntry) := opensFrom 0 M.l
theorem opensL_at {M : MLedger} {k : Nat} {m : MPlace} (h : M.l[k]? = some m) : mget (opensL M) (k : Int) = if m.status = 1 then some m.e else none := by
  have := opens_at M.l 0 k m h
  rwa [Nat.zero_add] at this
theorem opens_take {l : List MPlace} {k : Nat} {m : MPlace} (h : l[k]? = some m) : opensFrom 0 (l.take (k + 1)) = opensFrom 0 (l.take k) ++ (if m.status = 1 then [((k : Int), m.e)] else []) := by
  have hk : k < l.length := (List.getElem?_eq_some_iff.1 h).1
  rw [take_snoc h, opens_snoc, List.length_take, Nat.min_eq_left (Nat.le_of_lt hk), Nat.zero_add]
theorem opens_mset {l : List MPlace} {k : Nat} (e : GEntry) (hk : k ≤ l.length) : mset (opensFrom 0 (l.take k)) (k : Int) e = opensFrom 0 (l.take k) ++ [((k : Int), e)] := by
  unfold mset
  rw [if_neg]
  intro hm
  rw [List.mem_map] at hm
  obtain ⟨p, hp, e⟩ := hm
  have := opens_in _ _ p hp
  rw [List.length_take] at this
  omega
theorem opens_len : ∀ (l : List MPlace) (i : Nat), (opensFrom i l).length ≤ l.length
  | [], _ => Nat.le_refl _
  | x :: l, i => by
    simp only [opensFrom, List.length_append, List.length_cons]
    have := opens_len l (i + 1)
    split <;> simp <;> omega
theorem opens_nodup : ∀ (l : List MPlace) (i : Nat), ((opensFrom i l).map (·.1)).Nodup
  | [], _ => by simp [opensFrom]
  | x :: l, i => by
    simp only [opensFrom]
    rw [List.map_append, List.nodup_append]
    refine ⟨by split <;> simp, opens_nodup l (i + 1), ?_⟩
    intro a ha b hb hab
    rw [List.mem_map] at hb
    obtain ⟨p, hp, rfl⟩ := hb
    have := opens_in l (i + 1) p hp
    split at ha
    · simp at ha; omega
    · simp at ha
/-- Names stand at their places. -/
theorem namesFrom_at : ∀ (l : List MPlace) (i k : Nat) (m : MPlace), (l.map (·.e.name)).Nodup → l[k]? = some m → mget (namesFrom i l) m.e.name = some (((i + k : Nat) : Int))
  | [], _, _, _, _, h => by simp at h
  | x :: l, i, 0, m, _, h => by
    simp at h; subst h
    simp only [namesFrom]
    rw [mget_cons]; simp
  | x :: l, i, k + 1, m, hn, h => by
    simp only [namesFrom]
    rw [List.map_cons, List.nodup_cons] at hn
    have hm : m ∈ l := List.mem_of_getElem? (by simpa using h)
    rw [mget_cons, if_neg (fun e => hn.1 (by rw [show x.e.name = m.e.name from e]; exact List.mem_map.2 ⟨m, hm, rfl⟩)), namesFrom_at l (i + 1) k m hn.2 (by simpa using h), show i + 1 + k = i + (k + 1) from by omega]
theorem GoodM.indexR {M : MLedger} {n k : Nat} {m : MPlace} (h : GoodM M n) (hm : M.l[k]? = some m) : Go.Proofs.Yteockodnfempfaa.indexR M m.e.name = some (k : Int) := by
  have := namesFrom_at M.l 0 k m h.names hm
  rwa [Nat.zero_add] at this
end Go.Proofs.Yteockodnfempfaa
/- What a batch is held against: the ledger's Base. Conditions: those named in each theorem. -/
namespace Go.Proofs.Yteockodnfempfaa
open Go Go.RowKit Go.Gv Go.Sort

theorem LedgerIs.list {w : World} {g : Nat} {S U : Nat → Prop} {M : MLedger} (h : LedgerIs w g S U M) : ∃ (A : Option Addr) (c r : Nat), get? GLedgerLedger w ⟨g, 0, none⟩ = some ⟨M.epoch, M.last, ⟨A, M.l.length, c⟩, some r, M.done⟩ ∧ ∀ (k : Nat) (m : MPlace), M.l[k]? = some m → ∃ (pb : Nat) (x : GLedgerPlace), A = some ⟨pb, 0, none⟩ ∧ get? GLedgerPlace w ⟨pb, k * 37, none⟩ = some x ∧ x.e = m.e ∧ x.status = m.status := by
  obtain ⟨hd, r, hg, hl⟩ := h.len
  obtain ⟨A, n, c⟩ := hd
  simp only at hl
  subst hl
  refine ⟨A, c, r, hg, fun k m hm => ?_⟩
  obtain ⟨pb, c', r', x, hg', hx, hpl, _⟩ := h.place hm
  rw [hg] at hg'
  injection hg' with hg'
  injection hg' with _ _ e _ _
  injection e with e _ _
  exact ⟨pb, x, e, hx, hpl.1, hpl.2.1⟩
def BaseR (M : MLedger) (cf : GConf) (w : World) (e : Ending) (w' : World) : Prop := ∃ (rl ro : Nat) (nl : List (GName × Bool)), e = .returned (GBatchBase.val ⟨cf, M.epoch, M.last, some rl, some ro⟩) ∧ mapAt GName Bool w' rl = some nl ∧ SetIs nl (namesL M) ∧ mapAt Int GEntry w' ro = some (opensL M) ∧ w.heap.size ≤ rl ∧ w.heap.size ≤ ro ∧ Bel w w'
set_option maxRecDepth 100000 in
set_option maxHeartbeats 2000000 in
theorem base_any (g : Nat) (S U : Nat → Prop) (M : MLedger) (cf : GConf) (w : World) (h : LedgerIs w g S U M) (hlen : M.l.length ≤ 1000000) :
    Calls Try.prog 54 #[.pointer (some ⟨g, 0, none⟩), cf.val] w (BaseR M cf w) := by
  have hmm := @run_makeMap Try.prog
  have H := Lib.hid h
  obtain ⟨A, c, r, hg, hls⟩ := h.list
  have hgl := get?_lt hg
  simp only at hgl
  have hg3 := get?_alloc (.map #[] 0) (get?_alloc (.cells (GBatchBase.enc default).toArray 113) (get?_alloc (.cells cf.enc.toArray 109) hg))
  obtain ⟨_, _, f2, _, _⟩ := ledger_cells hg3
  have hgc := get?_alloc (.map #[] 0) (get?_alloc (.cells (GBatchBase.enc default).toArray 113) (get?_new (w := w) 109 cf))
  have hgb := get?_alloc (.map #[] 0) (get?_new (w := w.alloc (.cells cf.enc.toArray 109)) 113 (default : GBatchBase))
  rw [World.size_alloc] at hgb
  have hfb : blkFree (((w.alloc (.cells cf.enc.toArray 109)).alloc (.cells (GBatchBase.enc default).toArray 113)).alloc (.map #[] 0)) (w.heap.size + 1) = true := (blkFree_past _ _ (by simp)).trans (blkFree_new _ _ (by simp))
  have hmb : mapAt Int GEntry (((w.alloc (.cells cf.enc.toArray 109)).alloc (.cells (GBatchBase.enc default).toArray 113)).alloc (.map #[] 0)) (w.heap.size + 2) = some [] := by
    have := mapAt_new Int GEntry ((w.alloc (.cells cf.enc.toArray 109)).alloc (.cells (GBatchBase.enc default).toArray 113))
    rwa [World.size_alloc, World.size_alloc] at this
  have hbel : Bel w (((w.alloc (.cells cf.enc.toArray 109)).alloc (.cells (GBatchBase.enc default).toArray 113)).alloc (.map #[] 0)) := (((Bel.refl w).alloc _).alloc _).alloc _
  have hsz : (((w.alloc (.cells cf.enc.toArray 109)).alloc (.cells (GBatchBase.enc default).toArray 113)).alloc (.map #[] 0)).heap.size = w.heap.size + 3 := by simp
  have HGC := Lib.hid hgc; have HGB := Lib.hid hgb; have HFB := Lib.hid hfb; have HMB := Lib.hid hmb; have HBL := Lib.hid hbel; have HG3 := Lib.hid hg3
  have HLS := Lib.hid hls
  obtain ⟨n, hn⟩ : ∃ n, M.l.length = n := ⟨_, rfl⟩
  simp only [hn] at f2
  rw [hn] at hlen
  have HN := Lib.hid hn
  clear hg hls hg3 hgc hgb hfb hmb hbel h hn
  go_enter Try.func54, Try.ntmps54
  go_wp2_with fail
  generalize ((w.alloc (.cells cf.enc.toArray 109)).alloc (.cells (GBatchBase.enc default).toArray 113)).alloc (.map #[] 0) = w3 at HGC HGB HFB HMB HBL HG3 hsz f2 ⊢
  clear f2
  go_loopw [14] (fun i wr => ∃ k : Nat, k ≤ n ∧ i = .int .i64 k ∧ mapAt Int GEntry wr (w.heap.size + 2) = some (opensFrom 0 (M.l.take k)) ∧ GX (w.heap.size + 2) w3 wr) (fun i _ => n - (intOf i).toNat)
  case atStart => exact ⟨0, by omega, rfl, HMB.out, GX.rf _⟩
  case round =>
    obtain ⟨k, hk, rfl, hmk, hgk⟩ := hrel
    have HMK := Lib.hid hmk; have HGK := Lib.hid hgk; clear hmk hgk
    have hzk := HGK.out.size
    have HBK := Lib.hid (GX.bel HBL.out HGK.out (by omega))
    by_cases hlt : k < n
    · obtain ⟨m, hm⟩ : ∃ m, M.l[k]? = some m := ⟨_, List.getElem?_eq_getElem (by rw [HN.out]; exact hlt)⟩
      obtain ⟨pb, x, rfl, hx, hxe, hxs⟩ := HLS.out k m hm
      have hgx : get? GLedgerPlace wr ⟨pb, k * 37, none⟩ = some x := GB.get HBK.out hx
      have HM := Lib.hid hm
      have hlt2 : (k : Int) < (n : Int) := by omega
      have hgn := get?_new (w := wr) 169 x
      have f5 : (wr.alloc (.cells x.enc.toArray 169)).cell? ⟨wr.heap.size, 35, none⟩ = some (.int .i64 m.status) := by
        have := cell_off (by omega) (GLedgerPlace.at_status hgn)
        rw [hxs] at this
        exact this
      have f6 : get? GEntry (wr.alloc (.cells x.enc.toArray 169)) ⟨wr.heap.size, 0, none⟩ = some m.e := by
        have := GLedgerPlace.at_e hgn
        rw [Addr.add_zero', hxe] at this
        exact this
      have hma : mapAt Int GEntry (wr.alloc (.cells x.enc.toArray 169)) (w.heap.size + 2) = some (opensFrom 0 (M.l.take k)) := mapAt_alloc _ HMK.out
      have hga : GX (w.heap.size + 2) w3 (wr.alloc (.cells x.enc.toArray 169)) := GX.tr _ _ _ HGK.out (GX.of_bel ((Bel.refl wr).alloc _) _)
      have HMA := Lib.hid hma; have HGA := Lib.hid hga
      have hst := opens_take hm
      by_cases h1 : m.status = 1
      · have hb1 : (m.status == 1) = true := by simp [h1]
        rw [if_pos h1] at hst
        have hml := mapAt_mput kl3 um111 hma (k : Int) m.e
        have hgr := mput_grown kl3 um111 hma (k : Int) m.e
        rw [opens_mset m.e (by rw [HN.out]; exact hk), ← hst] at hml
        have HML := Lib.hid hml; have HGR := Lib.hid (GX.tr _ _ _ hga hgr)
        clear hm hx hxe hxs hgn hga hst h1 hml hgr
        go_wp2_with fail
        exact ⟨⟨k + 1, by omega, by go_num, HML.out, HGR.out⟩, by simp [intOf]; omega⟩
      · have hb1 : (m.status == 1) = false := by simp [h1]
        rw [if_neg h1, List.append_nil] at hst
        rw [← hst] at hma
        have HMA2 := Lib.hid hma
        clear hm hx hxe hxs hgn hga hst h1 hma
        go_wp2_with fail
        exact ⟨⟨k + 1, by omega, by go_num, HMA2.out, HGA.out⟩, by simp [intOf]; omega⟩
    · have hkn : k = n := by omega
      have hot : opensFrom 0 (M.l.take k) = opensL M := by unfold opensL; rw [List.take_of_length_le (by rw [HN.out]; omega)]
      have HMO := Lib.hid (hot ▸ HMK.out : mapAt Int GEntry wr (w.heap.size + 2) = some (opensL M))
      have hlt2 : ¬ (k : Int) < (n : Int) := by omega
      have hg4 := GX.getS HGK.out HG3.out (by show g ≠ _; omega)
      obtain ⟨k0, k1, _, _, _⟩ := ledger_cells hg4
      simp only at k0 k1
      have k2 : get? GConf wr ⟨w.heap.size, 0, none⟩ = some cf := GX.getS HGK.out HGC.out (by show w.heap.size ≠ w.heap.size + 2; omega)
      have HK3 := Lib.hid (GX.getS HGK.out HGB.out (by show w.heap.size + 1 ≠ w.heap.size + 2; omega))
      have HK4 := Lib.hid (GX.free HGK.out HFB.out (by omega) (by omega))
      clear hot hkn hg4
      go_wp2_with fail
      refine wp_region_G GB [13] GB.rf (by kernel_rfl) ?_
      refine wpG_looks 3 14 [0,1,2,3,4,5,6,7,8,9,11] rfl GB.rf GB.tr (by kernel_rfl) (fun _ _ _ _ hd h => And.intro (hd ▸ And.left h) (And.right h)) rfl (by kernel_rfl) ?_
      intro ι W hne CW
      have g0 := fun z => (CW.out z).cell k0
      have g1 := fun z => (CW.out z).cell k1
      have g2 := fun z => (CW.out z).get k2
      repeat (refine wpLooksG_step (fun K hK => ?_); go_simp; refine hK _ ?_; clear hK K)
      refine wpLooksG_nil ?_
      clear g0 g1 g2 k0 k1 k2 CW hne W ι
      refine wpG_force 10 _ rfl (by kernel_rfl) rfl fun wa hwa K hK => ?_
      go_simp
      refine (logged_any g S U M wa (H.out.bel (HBK.out.trans hwa.undrew))).mono ?_
      rintro _ wb ⟨rl, nl, rfl, hnl, hset, hrl, hbb⟩
      refine hK _ _ (fun _ => hbb) ?_
      clear hK K
      refine wpG_force 12 _ rfl (by kernel_rfl) rfl fun wc hwc K hK => ?_
      go_simp
      refine hK _ _ (fun _ => GB.rf _) ?_
      clear hK K
      refine wpG_force 13 _ rfl (by kernel_rfl) rfl fun wd hwd K hK => ?_
      have hbd : Bel wr wd := ((hwa.undrew.trans hbb).trans hwc).trans hwd
      have k7 : get? GBatchBase wd ⟨w.heap.size + 1, 0, none⟩ = some default := GB.get hbd HK3.out
      have k8 : blkFree wd (w.heap.size + 1) = true := (blkFree_keep (hbd.block _ (by omega))).trans HK4.out
      go_simp
      have hzd := hbd.size
      have hzbw : w.heap.size + 2 < wr.heap.size := mapAt_lt HMO.out
      have hwr := hwa.undrew.size
      have hput := get?_put (⟨cf, M.epoch, M.last, some rl, some (w.heap.size + 2)⟩ : GBatchBase) k7
      have hcp : Chg (fun q => q = w.heap.size + 1) wd (World.putCells wd ⟨w.heap.size + 1, 0, none⟩ (Enc.enc (⟨cf, M.epoch, M.last, some rl, some (w.heap.size + 2)⟩ : GBatchBase))) := Chg.putCells (a := ⟨w.heap.size + 1, 0, none⟩) _
      have hbp : Bel w (World.putCells wd ⟨w.heap.size + 1, 0, none⟩ (Enc.enc (⟨cf, M.epoch, M.last, some rl, some (w.heap.size + 2)⟩ : GBatchBase))) := Below_putCells (a := ⟨w.heap.size + 1, 0, none⟩) (HBK.out.trans hbd) (by show w.heap.size ≤ w.heap.size + 1; omega) _
      have hmo := hcp.map ((mapAt_below hbd (mapAt_lt HMO.out)).trans HMO.out) (by omega)
      have hml := hcp.map ((mapAt_below (Bel.trans hwc hwd) (mapAt_lt hnl)).trans hnl) (by omega)
      have HPUT := Lib.hid hput; have HBP := Lib.hid hbp; have HMP := Lib.hid hmo; have HLP := Lib.hid hml; have HSET := Lib.hid hset
      clear hput hcp hbp hmo hml hset hnl
      change Hid (get? GBatchBase (World.putCells wd ⟨w.heap.size + 1, 0, none⟩ (GBatchBase.enc ⟨cf, M.epoch, M.last, some rl, some (w.heap.size + 2)⟩)) ⟨w.heap.size + 1, 0, none⟩ = some ⟨cf, M.epoch, M.last, some rl, some (w.heap.size + 2)⟩) at HPUT
      change Hid (Bel w (World.putCells wd ⟨w.heap.size + 1, 0, none⟩ (GBatchBase.enc ⟨cf, M.epoch, M.last, some rl, some (w.heap.size + 2)⟩))) at HBP
      change Hid (mapAt Int GEntry (World.putCells wd ⟨w.heap.size + 1, 0, none⟩ (GBatchBase.enc ⟨cf, M.epoch, M.last, some rl, some (w.heap.size + 2)⟩)) (w.heap.size + 2) = some (opensL M)) at HMP
      change Hid (mapAt GName Bool (World.putCells wd ⟨w.heap.size + 1, 0, none⟩ (GBatchBase.enc ⟨cf, M.epoch, M.last, some rl, some (w.heap.size + 2)⟩)) rl = some nl) at HLP
      generalize World.putCells wd ⟨w.heap.size + 1, 0, none⟩ (GBatchBase.enc ⟨cf, M.epoch, M.last, some rl, some (w.heap.size + 2)⟩) = we at HPUT HBP HMP HLP ⊢
      refine hK _ _ (fun h => absurd (by simp) h) ?_
      clear hK K k7 k8
      refine wpG_end (by kernel_rfl) (fun wn hwn => ?_) _
      go_wp2_with fail
      refine bodyPost_ret (results_cell (x := (⟨cf, M.epoch, M.last, some rl, some (w.heap.size + 2)⟩ : GBatchBase)) rfl rfl ag113 sz113 (GB.get hwn HPUT.out)) rfl ⟨rl, w.heap.size + 2, nl, by rw [GBatchBase.val_eq], (mapAt_below hwn (mapAt_lt HLP.out)).trans HLP.out, HSET.out, (mapAt_below hwn (mapAt_lt HMP.out)).trans HMP.out, by omega, by omega, HBP.out.trans hwn⟩
end Go.Proofs.Yteockodnfempfaa
/- LedgerBase returns true, walked. Conditions: those named in each theorem. -/
namespace Go.Proofs.Yteockodnfempfaa
open Go Go.RowKit Go.Gv Go.Sort

set_option maxRecDepth 100000 in
set_option maxHeartbeats 8000000 in
theorem ledgerBase_any (A : Option Addr) (n c : Nat) (xs : List GBatch) (cf : GConf) (w : World) (hx : Sl GBatch w w.heap.size A n xs) (hox : ∀ x ∈ xs, ok74 w x) (hn : n ≤ maxLen) :
    Calls Try.prog 16 #[.slice A n c, cf.val] w fun e w' => e = .returned (.bool true) ∧ Bel w w' := by
  unfold maxLen at hn
  have HX := Lib.hid hx; have HOX := Lib.hid hox; clear hx hox
  have HCF := Lib.hid (get?_new (w := w) 109 cf)
  have HB0 := Lib.hid ((Bel.refl w).alloc (.cells cf.enc.toArray 109))
  go_enter Try.func16, Try.ntmps16
  go_upto_block 0 with (first | (go_at_call 41; refine (newLedger_any _).mono ?_; rintro _ w1 ⟨g, S, U, rfl, hL, hU, hb⟩; have HA := Lib.hid (LedAt.new hL hU hb); clear hL hU hb) | fail)
  change Hid (get? GConf (w.alloc (.cells cf.enc.toArray 109)) ⟨w.heap.size, 0, none⟩ = some cf) at HCF
  generalize w.alloc (.cells cf.enc.toArray 109) = w0 at HCF HB0 HA ⊢
  go_cut [6] (fun _ wx => Bel w0 wx)
  case first =>
    go_wp2_with fail
    go_loopw [6] (fun i wr => ∃ (k : Nat) (M : MLedger), k ≤ n ∧ k ≤ 8 ∧ i = .int .i64 k ∧ LedAt w0 wr g M ∧ GoodM M k) (fun i _ => 9 - (intOf i).toNat)
    case atStart => exact ⟨0, _, by omega, by omega, rfl, HA.out, GoodM.zero⟩
    case round =>
      obtain ⟨k, M, hk, hk8, rfl, hA, hG⟩ := hrel
      have HG := Lib.hid hG
      obtain ⟨S2, U2, hL2, hU2, hB2⟩ := hA
      by_cases hcont : k < n ∧ k < 8
      · obtain ⟨hlt, hlt8⟩ := hcont
        obtain ⟨ad, x, rfl, _, hxk, hgx⟩ := (HX.out.stepB (HB0.out.trans hB2)).at_ (k := k) hlt
        obtain ⟨R, hR⟩ := raw_of (HOX.out x (List.mem_of_getElem? hxk))
        change get? GBatch wr (ad.add (k * 5)) = some x at hgx
        have HR := Lib.hid (hR.bel (HB0.out.trans hB2)); have HL := Lib.hid hL2; have HU := Lib.hid hU2; have HB := Lib.hid hB2
        have hUlt := Lib.hid hL2.ltU
        have hlt2 : (k : Int) < (n : Int) := by omega
        have hlt55 : (k : Int) < 8 := by omega
        clear hxk hR hL2 hU2 hB2 hG
        go_wp2_with fail
        have hlt3 : k < n := hlt
        have hk0 : (0 : Int) ≤ (k : Int) := by omega
        refine wp_region_G GB [10] GB.rf (by kernel_rfl) ?_
        refine wpG_looks 2 11 [0,1,2,3,4,5,6,7,8] rfl GB.rf GB.tr (by kernel_rfl) (fun _ _ _ _ hd h => And.intro (hd ▸ And.left h) (And.right h)) rfl (by kernel_rfl) ?_
        intro ι W hne CW
        have g1 := fun z => (CW.out z).get hgx
        repeat (refine wpLooksG_step (fun K hK => ?_); go_simp; refine hK _ ?_; clear hK K)
        refine wpLooksG_step (fun K hK => ?_); go_simp
        refine ⟨_, fun z => quietG (epoch_any g S2 U2 M (W z) (HL.out.bel (CW.out z).undrew)) (fun _ _ h => ⟨h.1, h.2.symm⟩), hK _ ?_⟩
        clear hK K
        repeat (refine wpLooksG_step (fun K hK => ?_); go_simp; refine hK _ ?_; clear hK K)
        refine wpLooksG_step (fun K hK => ?_); go_simp
        refine ⟨_, fun z => quietG (last_any g S2 U2 M (W z) (HL.out.bel (CW.out z).undrew)) (fun _ _ h => ⟨h.1, h.2.symm⟩), hK _ ?_⟩
        clear hK K
        refine wpLooksG_nil ?_
        clear g1 CW hne W ι
        refine wpG_force 9 _ rfl (by kernel_rfl) rfl fun wa hwa K hK => ?_
        go_simp
        refine (smallB_any x R M.epoch M.last wa (HR.out.bel hwa.undrew) HG.out.last0 (by have := HG.out.last1; omega)).mono ?_
        rintro _ wb ⟨y, rfl, hy, hbb⟩
        refine hK _ _ (fun _ => hbb) ?_
        clear hK K
        refine wpG_force 10 _ rfl (by kernel_rfl) rfl fun wc hwc K hK => ?_
        go_simp
        have hbc : Bel wr wc := (hwa.undrew.trans hbb).trans hwc
        refine (apply_any g S2 U2 M y (smallM R M.epoch M.last) (fun q => wa.heap.size ≤ q) wc (HL.out.bel hbc) (hy.bel hwc) (fun q hq hu => by have := hUlt.out q hu; have := hwa.undrew.size; omega) HG.out.epoch0 (by have := HG.out.epoch1; omega) (by have := HG.out.len; omega) (by have := small_flat R M.epoch M.last; omega)).mono ?_
        rintro _ wd ⟨M', n', c', S3, U3, hst, rfl, hL3, hU3, hC3⟩
        have HG3 := Lib.hid (hst.good HG.out)
        have HBd := Lib.hid (Chg.bel2 (HB.out.trans hbc) hC3 (fun q hq => HU.out q (HL.out.sub q hq)))
        have HUd := Lib.hid (show ∀ q, U3 q → w0.heap.size ≤ q from fun q hq => by
          rcases hU3 q hq with h | h
          · exact HU.out q h
          · have := (HB.out.trans hbc).size
            omega)
        obtain ⟨n1, hn1⟩ : ∃ n1, M'.l.length = n1 := ⟨_, rfl⟩
        have HN1 := Lib.hid hn1
        have hn1b := HG3.out.len
        rw [hn1] at hn1b
        refine hK _ _ (fun h => absurd (by simp) h) ?_
        clear hK K hst hU3 hC3 hbc hwc hbb hy hwa hgx hn1
        refine wpG_end (by kernel_rfl) (fun wn hwn => ?_) _
        have HL4 := Lib.hid (hL3.bel hwn); have HBn := Lib.hid (HBd.out.trans hwn)
        have HPAY := Lib.hid (show ∀ m ∈ M'.l, m.pay.length ≤ 1000000 from fun m hm => Nat.le_trans (HG3.out.pays m hm) (by omega))
        clear hwn hL3 HBd HB
        have hcf : get? GConf wn ⟨w.heap.size, 0, none⟩ = some cf := GB.get HBn.out HCF.out
        go_wp2_with fail
        refine (base_any g S3 U3 M' cf _ HL4.out (by rw [HN1.out]; omega)).mono ?_
        rintro _ w5 ⟨rl, ro, nl, rfl, hnl, hset, hop, _, _, hb5⟩
        obtain ⟨gb, hgb⟩ : ∃ gb, w5.heap.size = gb := ⟨_, rfl⟩
        have hgn := get?_new (w := w5) 113 (⟨cf, M'.epoch, M'.last, some rl, some ro⟩ : GBatchBase)
        rw [hgb] at hgn
        have hal := (Bel.refl w5).alloc (.cells (GBatchBase.enc ⟨cf, M'.epoch, M'.last, some rl, some ro⟩).toArray 113)
        have HGN := Lib.hid hgn; have HB6 := Lib.hid (hb5.trans hal); have HNL := Lib.hid ((mapAt_below hal (mapAt_lt hnl)).trans hnl); have HOP := Lib.hid ((mapAt_below hal (mapAt_lt hop)).trans hop)
        have HGS := Lib.hid hgb
        have HSET := Lib.hid hset
        clear hcf hgn hal hb5 hnl hop hset
        go_wp2_with fail
        change Hid (get? GBatchBase (w5.alloc (.cells (GBatchBase.enc ⟨cf, M'.epoch, M'.last, some rl, some ro⟩).toArray 113)) ⟨gb, 0, none⟩ = _) at HGN
        generalize w5.alloc (.cells (GBatchBase.enc ⟨cf, M'.epoch, M'.last, some rl, some ro⟩).toArray 113) = w6 at HGN HB6 HNL HOP ⊢
        clear hgb HGS
        go_loopw [8, 9] (fun o i wi => ∃ (p q : Nat), p ≤ n1 ∧ i = .int .i64 p ∧ o = .int .i64 q ∧ (opensFrom 0 (M'.l.take p)).length = q ∧ Bel w6 wi) (fun _ i _ => n1 - (intOf i).toNat)
        case atStart => exact ⟨0, 0, by omega, rfl, rfl, rfl, Bel.refl _⟩
        case round =>
          obtain ⟨p, q, hp, rfl, rfl, hq, hbi⟩ := hrel
          obtain ⟨wi, rfl⟩ : ∃ wi : World, wi = wr := ⟨_, rfl⟩
          have HBI := Lib.hid hbi; have HQ := Lib.hid hq
          have hqb : q ≤ 108 := by
            rw [← hq]
            have := opens_len (M'.l.take p) 0
            rw [List.length_take] at this
            omega
          clear hbi hq
          by_cases hltp : p < n1
          · obtain ⟨m, hm⟩ : ∃ m, M'.l[p]? = some m := ⟨_, List.getElem?_eq_getElem (by rw [HN1.out]; exact hltp)⟩
            have hp2 : (p : Int) < (n1 : Int) := by omega
            obtain ⟨hre, hri, hrs⟩ := entry_at M' hm
            have HRE := Lib.hid hre; have HRI := Lib.hid hri; have HRS := Lib.hid hrs
            have HIX := Lib.hid (HG3.out.indexR hm)
            have HM := Lib.hid hm
            have hmn : mget nl m.e.name = some true := by
              rw [HSET.out m.e.name, if_pos]
              exact List.mem_map.2 ⟨m, List.mem_of_getElem? hm, rfl⟩
            have HMN := Lib.hid hmn
            have HMO := Lib.hid (opensL_at hm)
            clear hre hri hrs hm hmn
            go_wp2_with fail
            refine (lenL_any g S3 U3 M' _ (HL4.out.bel (HB6.out.trans HBI.out))).mono ?_
            rw [HN1.out]
            rintro _ wz ⟨rfl, hz⟩
            obtain rfl : wi = wz := by first | exact hz | exact hz.symm
            go_wp2_with fail
            refine (entry_any g S3 U3 M' (p : Int) _ (HL4.out.bel (HB6.out.trans HBI.out))).mono ?_
            rintro _ w7 ⟨rfl, hb7⟩
            rw [HRE.out, HRI.out]
            have hg7 := get?_new (w := w7) 30 m.e
            have hb8 : Bel wi (w7.alloc (.cells m.e.enc.toArray 30)) := Bel.alloc hb7 _
            have hk7 : get? GName (w7.alloc (.cells m.e.enc.toArray 30)) ⟨w7.heap.size, 0, none⟩ = some m.e.name := by
              have := GEntry.at_name hg7
              rw [Addr.add_zero'] at this
              exact this
            have HG7 := Lib.hid hg7; have HB8 := Lib.hid hb8
            clear hb7 hg7 hb8
            go_wp2_with fail
            refine (index_any g S3 U3 M' m.e.name _ (HL4.out.bel (HB6.out.trans (HBI.out.trans HB8.out)))).mono ?_
            rintro _ w8 ⟨rfl, hb9⟩
            rw [HIX.out]
            simp only [Option.getD_some, Option.isSome_some]
            obtain ⟨ge, hge⟩ : ∃ ge, w7.heap.size = ge := ⟨_, rfl⟩
            rw [hge] at HG7 ⊢
            have HG8 := Lib.hid (GB.get hb9 HG7.out)
            have HB9 := Lib.hid (HB8.out.trans hb9)
            clear hk7 hb9 hge HG7 HB8
            go_wp2_with fail
            refine (status_any g S3 U3 M' (p : Int) _ (HL4.out.bel (HB6.out.trans (HBI.out.trans HB9.out))) HPAY.out).mono ?_
            rintro _ w9 ⟨v9, rfl, hv9, hb10⟩
            rw [HRS.out]
            have HBX := Lib.hid (HB9.out.trans hb10)
            have hbx6 : Bel w6 w9 := HBI.out.trans HBX.out
            have hgE : get? GEntry w9 ⟨ge, 0, none⟩ = some m.e := GB.get hb10 HG8.out
            have hgb9 := GB.get hbx6 HGN.out
            have k5 : w9.cell? ⟨gb, 5, none⟩ = some (.map (some ro)) := cell_off (by omega) (GBatchBase.at_open_ hgb9)
            have hop9 : mapAt Int GEntry w9 ro = some (opensL M') := (mapAt_below hbx6 (mapAt_lt HOP.out)).trans HOP.out
            have hnl9 : mapAt GName Bool w9 rl = some nl := (mapAt_below hbx6 (mapAt_lt HNL.out)).trans HNL.out
            have hmn := HMN.out; have hmo := HMO.out
            have HGE := Lib.hid hgE; have HGB9 := Lib.hid hgb9; have HNL9 := Lib.hid hnl9
            clear hv9 hb10 hbx6 hgE hgb9 hnl9 HG8 HB9
            by_cases h1 : m.status = 1
            · rw [if_pos h1] at hmo
              have hb1 : (m.status == 1) = true := by simp [h1]
              have HLQ := Lib.hid (show (opensFrom 0 (M'.l.take (p + 1))).length = q + 1 by rw [opens_take HM.out, if_pos h1, List.length_append, HQ.out]; rfl)
              have hEA := get?_alloc (.cells m.e.enc.toArray 30) HGE.out
              have hKN : get? GName (w9.alloc (.cells m.e.enc.toArray 30)) ⟨ge, 0, none⟩ = some m.e.name := by
                have := GEntry.at_name hEA
                rwa [Addr.add_zero'] at this
              have hK4 : (w9.alloc (.cells m.e.enc.toArray 30)).cell? ⟨gb, 4, none⟩ = some (.map (some rl)) := cell_off (by omega) (GBatchBase.at_logged (get?_alloc (.cells m.e.enc.toArray 30) HGB9.out))
              have hNA := mapAt_alloc (.cells m.e.enc.toArray 30) HNL9.out
              have hOA := get?_new (w := w9) 30 m.e
              have HBA := Lib.hid ((HBI.out.trans HBX.out).alloc (.cells m.e.enc.toArray 30))
              clear h1
              go_wp2_with fail
              exact ⟨⟨p + 1, q + 1, by omega, by go_num, by go_num, HLQ.out, HBA.out⟩, by simp [intOf]; omega⟩
            · rw [if_neg h1] at hmo
              have hb1 : (m.status == 1) = false := by simp [h1]
              have HLQ := Lib.hid (show (opensFrom 0 (M'.l.take (p + 1))).length = q by rw [opens_take HM.out, if_neg h1, List.append_nil, HQ.out])
              have hEA := get?_alloc (.cells (GEntry.enc default).toArray 30) HGE.out
              have hKN : get? GName (w9.alloc (.cells (GEntry.enc default).toArray 30)) ⟨ge, 0, none⟩ = some m.e.name := by
                have := GEntry.at_name hEA
                rwa [Addr.add_zero'] at this
              have hK4 : (w9.alloc (.cells (GEntry.enc default).toArray 30)).cell? ⟨gb, 4, none⟩ = some (.map (some rl)) := cell_off (by omega) (GBatchBase.at_logged (get?_alloc (.cells (GEntry.enc default).toArray 30) HGB9.out))
              have hNA := mapAt_alloc (.cells (GEntry.enc default).toArray 30) HNL9.out
              have HBA := Lib.hid ((HBI.out.trans HBX.out).alloc (.cells (GEntry.enc default).toArray 30))
              clear h1
              go_wp2_with fail
              exact ⟨⟨p + 1, q, by omega, by go_num, rfl, HLQ.out, HBA.out⟩, by simp [intOf]; omega⟩
          · have hpe : n1 = p := by omega
            subst hpe
            have hol : (opensL M').length = q := by rw [← HQ.out]; unfold opensL; rw [List.take_of_length_le (by rw [HN1.out]; exact Nat.le_refl _)]
            have hbx6 : Bel w6 wi := HBI.out
            have hgb9 := GB.get hbx6 HGN.out
            have k5 : wi.cell? ⟨gb, 5, none⟩ = some (.map (some ro)) := cell_off (by omega) (GBatchBase.at_open_ hgb9)
            have k1 : wi.cell? ⟨gb, 2, none⟩ = some (.int .i64 M'.epoch) := cell_off (by omega) (GBatchBase.at_epoch hgb9)
            have k2 : wi.cell? ⟨gb, 3, none⟩ = some (.int .u64 M'.last) := cell_off (by omega) (GBatchBase.at_last hgb9)
            have kc : get? GConf wi ⟨gb, 0, none⟩ = some cf := by
              have := GBatchBase.at_conf hgb9
              rw [Addr.add_zero'] at this
              exact this
            have kc2 : get? GConf wi ⟨w.heap.size, 0, none⟩ = some cf := GB.get (HBn.out.trans (HB6.out.trans hbx6)) HCF.out
            have hop9 : mapAt Int GEntry wi ro = some (opensL M') := (mapAt_below hbx6 (mapAt_lt HOP.out)).trans HOP.out
            have HLi := Lib.hid (HL4.out.bel (HB6.out.trans hbx6)); have HBi := Lib.hid (HBn.out.trans (HB6.out.trans hbx6))
            have hln : ∀ d, (Builtin.len_ #[111] 3 #[.map (some ro)]).run Try.prog (wi.drewN d) = .ok (.int .i64 (q : Int)) (wi.drewN d) := fun d => by
              rw [Gv.run_len_map kl3 um111 ((mapAt_drewN d).trans hop9) 3, hol]
            clear hol hop9
            have hlt9 : ¬ (n1 : Int) < (n1 : Int) := by omega
            clear hbx6 hgb9 hltp
            go_wp2_with fail
            refine (lenL_any g S3 U3 M' _ HLi.out).mono ?_
            rw [HN1.out]
            rintro _ wz ⟨rfl, hz⟩
            obtain rfl : wi = wz := by first | exact hz | exact hz.symm
            go_wp2_with fail
            go_big_quiet ((first | (go_at_call 44; exact Calls.quiet_of_same (flipC (epoch_any g S3 U3 M' _ (HLi.out.bel (bdN (Below.refl _ _) _))))) | (go_at_call 45; exact Calls.quiet_of_same (flipC (last_any g S3 U3 M' _ (HLi.out.bel (bdN (Below.refl _ _) _)))))))
            go_wp2_with fail
            exact ⟨⟨k + 1, M', by omega, by omega, by go_num, ⟨S3, U3, HLi.out.bel (bdN (Below.refl _ _) _), HUd.out, HBi.out.trans (bdN (Below.refl _ _) _)⟩, HG3.out⟩, by simp [intOf]; omega⟩
      · have hstop : (n : Int) ≤ (k : Int) ∨ ((k : Int) < (n : Int) ∧ 8 ≤ (k : Int)) := by omega
        have HB2 := Lib.hid hB2
        clear hcont hL2 hU2 hB2 hG
        rcases hstop with hs | ⟨hs, hs2⟩
        all_goals
          go_wp2_with fail
          go_meet
          exact HB2.out
  case rest =>
    obtain ⟨w2, rfl⟩ : ∃ w2 : World, w2 = wc := ⟨_, rfl⟩
    have HB2 := Lib.hid (HB0.out.trans hcut)
    clear hcut
    go_wp2_with fail
    refine (wakesL_any _).mono ?_
    rintro _ w7 ⟨rfl, hb7⟩
    have HB7 := Lib.hid (HB2.out.trans hb7); clear hb7
    go_wp2_with fail
    go_ret
    exact ⟨rfl, HB7.out⟩
end Go.Proofs.Yteockodnfempfaa
