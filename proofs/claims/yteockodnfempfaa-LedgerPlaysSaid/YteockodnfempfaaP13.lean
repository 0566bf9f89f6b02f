/- What a batch is held against: the ledger's Base. Conditions: those named in each theorem. -/
import Derived.Test.YteockodnfempfaaP12
/- Places that are open, as a list by their numbers. Conditions: those named in each theorem. -/
namespace Go.Proofs.Yteockodnfempfaa
open Go Go.RowKit Go.Gv Go.Sort

def opensFrom : Nat → List MPlace → List (Int × GEntry)
  | _, [] => []
  | i, m :: l => (if m.status = 1 then [((i : Int), m.e)] else []) ++ opensFrom (i + 1) l
theorem opens_snoc (m : MPlace) : ∀ (l : List MPlace) (i : Nat), opensFrom i (l ++ [m]) = opensFrom i l ++ (if m.status = 1 then [(((i + l.length : Nat) : Int), m.e)] else [])
  | [], i => by simp [opensFrom]
  | x :: l, i => by
    show _ ++ opensFrom (i + 1) (l ++ [m]) = (_ ++ opensFrom (i + 1) l) ++ _
    rw [opens_snoc m l (i + 1), List.append_assoc, List.length_cons, show i + 1 + l.length = i + (l.length + 1) from by omega]
theorem opens_in : ∀ (l : List MPlace) (i : Nat) (p : Int × GEntry), p ∈ opensFrom i l → (i : Int) ≤ p.1 ∧ p.1 < ((i + l.length : Nat) : Int)
  | [], _, _, h => by simp [opensFrom] at h
  | x :: l, i, p, h => by
    simp only [opensFrom, List.mem_append] at h
    rcases h with h | h
    · split at h
      · simp only [List.mem_singleton] at h
        subst h
        simp only [List.length_cons]
        omega
      · simp at h
    · have := opens_in l (i + 1) p h
      simp only [List.length_cons]
      omega
theorem opens_at : ∀ (l : List MPlace) (i k : Nat) (m : MPlace), l[k]? = some m → mget (opensFrom i l) (((i + k : Nat) : Int)) = if m.status = 1 then some m.e else none
  | [], _, _, _, h => by simp at h
  | x :: l, i, 0, m, h => by
    simp at h; subst h
    simp only [opensFrom]
    rw [mget_append]
    have hn : mget (opensFrom (i + 1) l) ((i + 0 : Nat) : Int) = none := mget_none.2 fun hm => by
      rw [List.mem_map] at hm
      obtain ⟨p, hp, e⟩ := hm
      have := opens_in l (i + 1) p hp
      omega
    rw [hn]
    split
    · rw [mget_cons]; simp
    · simp [mget_nil]
  | x :: l, i, k + 1, m, h => by
    simp only [opensFrom]
    rw [mget_append]
    have ih := opens_at l (i + 1) k m (by simpa using h)
    rw [show i + 1 + k = i + (k + 1) from by omega] at ih
    rw [ih]
    split
    · rw [mget_cons, if_neg (by simp only; omega), mget_nil]; rfl
    · rw [mget_nil]; rfl
def opensL (M : MLedger) : List (Int × GEntry) := opensFrom 0 M.l
theorem opensL_at {M : MLedger} {k : Nat} {m : MPlace} (h : M.l[k]? = some m) : mget (opensL M) (k : Int) = if m.status = 1 then some m.e else none := by
  have := opens_at M.l 0 k m h
  rwa [Nat.zero_add] at this
theorem opens_take {l : List MPlace} {k : Nat} {m : MPlace} (h : l[k]? = some m) : opensFrom 0 (l.take (k + 1)) = opensFrom 0 (l.take k) ++ (if m.status = 1 then [((k : Int), m.e)] else []) := by
  have hk : k < l.length := (List.getElem?_eq_some_iff.1 h).1
  rw [take_snoc h, opens_snoc, List.length_take, Nat.min_eq_left (Nat.le_of_lt hk), Nat.zero_add]
theorem opens_mset {l : List MPlace} {k : Nat} (e : GEntry) (hk : k ≤ l.length) : mset (opensFrom 0 (l.take k)) (k : Int) e = opensFrom 0 (l.take k) ++ [((k : Int), e)] := by
  unfold mset
  rw [if_neg]
  intro hm
  rw [List.mem_map] at hm
  obtain ⟨p, hp, e⟩ := hm
  have := opens_in _ _ p hp
  rw [List.length_take] at this
  omega
theorem opens_len : ∀ (l : List MPlace) (i : Nat), (opensFrom i l).length ≤ l.length
  | [], _ => Nat.le_refl _
  | x :: l, i => by
    simp only [opensFrom, List.length_append, List.length_cons]
    have := opens_len l (i + 1)
    split <;> simp <;> omega
theorem opens_nodup : ∀ (l : List MPlace) (i : Nat), ((opensFrom i l).map (·.1)).Nodup
  | [], _ => by simp [opensFrom]
  | x :: l, i => by
    simp only [opensFrom]
    rw [List.map_append, List.nodup_append]
    refine ⟨by split <;> simp, opens_nodup l (i + 1), ?_⟩
    intro a ha b hb hab
    rw [List.mem_map] at hb
    obtain ⟨p, hp, rfl⟩ := hb
    have := opens_in l (i + 1) p hp
    split at ha
    · simp at ha; omega
    · simp at ha
/-- Names stand at their places. -/
theorem namesFrom_at : ∀ (l : List MPlace) (i k : Nat) (m : MPlace), (l.map (·.e.name)).Nodup → l[k]? = some m → mget (namesFrom i l) m.e.name = some (((i + k : Nat) : Int))
  | [], _, _, _, _, h => by simp at h
  | x :: l, i, 0, m, _, h => by
    simp at h; subst h
    simp only [namesFrom]
    rw [mget_cons]; simp
  | x :: l, i, k + 1, m, hn, h => by
    simp only [namesFrom]
    rw [List.map_cons, List.nodup_cons] at hn
    have hm : m ∈ l := List.mem_of_getElem? (by simpa using h)
    rw [mget_cons, if_neg (fun e => hn.1 (by rw [show x.e.name = m.e.name from e]; exact List.mem_map.2 ⟨m, hm, rfl⟩)), namesFrom_at l (i + 1) k m hn.2 (by simpa using h), show i + 1 + k = i + (k + 1) from by omega]
theorem GoodM.indexR {M : MLedger} {n k : Nat} {m : MPlace} (h : GoodM M n) (hm : M.l[k]? = some m) : Go.Proofs.Yteockodnfempfaa.indexR M m.e.name = some (k : Int) := by
  have := namesFrom_at M.l 0 k m h.names hm
  rwa [Nat.zero_add] at this
end Go.Proofs.Yteockodnfempfaa
/- What a batch is held against: the ledger's Base. Conditions: those named in each theorem. -/
namespace Go.Proofs.Yteockodnfempfaa
open Go Go.RowKit Go.Gv Go.Sort

theorem LedgerIs.list {w : World} {g : Nat} {S U : Nat → Prop} {M : MLedger} (h : LedgerIs w g S U M) : ∃ (A : Option Addr) (c r : Nat), get? GLedgerLedger w ⟨g, 0, none⟩ = some ⟨M.epoch, M.last, ⟨A, M.l.length, c⟩, some r, M.done⟩ ∧ ∀ (k : Nat) (m : MPlace), M.l[k]? = some m → ∃ (pb : Nat) (x : GLedgerPlace), A = some ⟨pb, 0, none⟩ ∧ get? GLedgerPlace w ⟨pb, k * 37, none⟩ = some x ∧ x.e = m.e ∧ x.status = m.status := by
  obtain ⟨hd, r, hg, hl⟩ := h.len
  obtain ⟨A, n, c⟩ := hd
  simp only at hl
  subst hl
  refine ⟨A, c, r, hg, fun k m hm => ?_⟩
  obtain ⟨pb, c', r', x, hg', hx, hpl, _⟩ := h.place hm
  rw [hg] at hg'
  injection hg' with hg'
  injection hg' with _ _ e _ _
  injection e with e _ _
  exact ⟨pb, x, e, hx, hpl.1, hpl.2.1⟩
def BaseR (M : MLedger) (cf : GConf) (w : World) (e : Ending) (w' : World) : Prop := ∃ (rl ro : Nat) (nl : List (GName × Bool)), e = .returned (GBatchBase.val ⟨cf, M.epoch, M.last, some rl, some ro⟩) ∧ mapAt GName Bool w' rl = some nl ∧ SetIs nl (namesL M) ∧ mapAt Int GEntry w' ro = some (opensL M) ∧ w.heap.size ≤ rl ∧ w.heap.size ≤ ro ∧ Bel w w'
set_option maxRecDepth 100000 in
set_option maxHeartbeats 2000000 in
theorem base_any (g : Nat) (S U : Nat → Prop) (M : MLedger) (cf : GConf) (w : World) (h : LedgerIs w g S U M) (hlen : M.l.length ≤ 1000000) :
    Calls Try.prog 54 #[.pointer (some ⟨g, 0, none⟩), cf.val] w (BaseR M cf w) := by
  have hmm := @run_makeMap Try.prog
  have H := Lib.hid h
  obtain ⟨A, c, r, hg, hls⟩ := h.list
  have hgl := get?_lt hg
  simp only at hgl
  have hg3 := get?_alloc (.map #[] 0) (get?_alloc (.cells (GBatchBase.enc default).toArray 113) (get?_alloc (.cells cf.enc.toArray 109) hg))
  obtain ⟨_, _, f2, _, _⟩ := ledger_cells hg3
  have hgc := get?_alloc (.map #[] 0) (get?_alloc (.cells (GBatchBase.enc default).toArray 113) (get?_new (w := w) 109 cf))
  have hgb := get?_alloc (.map #[] 0) (get?_new (w := w.alloc (.cells cf.enc.toArray 109)) 113 (default : GBatchBase))
  rw [World.size_alloc] at hgb
  have hfb : blkFree (((w.alloc (.cells cf.enc.toArray 109)).alloc (.cells (GBatchBase.enc default).toArray 113)).alloc (.map #[] 0)) (w.heap.size + 1) = true := (blkFree_past _ _ (by simp)).trans (blkFree_new _ _ (by simp))
  have hmb : mapAt Int GEntry (((w.alloc (.cells cf.enc.toArray 109)).alloc (.cells (GBatchBase.enc default).toArray 113)).alloc (.map #[] 0)) (w.heap.size + 2) = some [] := by
    have := mapAt_new Int GEntry ((w.alloc (.cells cf.enc.toArray 109)).alloc (.cells (GBatchBase.enc default).toArray 113))
    rwa [World.size_alloc, World.size_alloc] at this
  have hbel : Bel w (((w.alloc (.cells cf.enc.toArray 109)).alloc (.cells (GBatchBase.enc default).toArray 113)).alloc (.map #[] 0)) := (((Bel.refl w).alloc _).alloc _).alloc _
  have hsz : (((w.alloc (.cells cf.enc.toArray 109)).alloc (.cells (GBatchBase.enc default).toArray 113)).alloc (.map #[] 0)).heap.size = w.heap.size + 3 := by simp
  have HGC := Lib.hid hgc; have HGB := Lib.hid hgb; have HFB := Lib.hid hfb; have HMB := Lib.hid hmb; have HBL := Lib.hid hbel; have HG3 := Lib.hid hg3
  have HLS := Lib.hid hls
  obtain ⟨n, hn⟩ : ∃ n, M.l.length = n := ⟨_, rfl⟩
  simp only [hn] at f2
  rw [hn] at hlen
  have HN := Lib.hid hn
  clear hg hls hg3 hgc hgb hfb hmb hbel h hn
  go_enter Try.func54, Try.ntmps54
  go_wp2_with fail
  generalize ((w.alloc (.cells cf.enc.toArray 109)).alloc (.cells (GBatchBase.enc default).toArray 113)).alloc (.map #[] 0) = w3 at HGC HGB HFB HMB HBL HG3 hsz f2 ⊢
  clear f2
  go_loopw [14] (fun i wr => ∃ k : Nat, k ≤ n ∧ i = .int .i64 k ∧ mapAt Int GEntry wr (w.heap.size + 2) = some (opensFrom 0 (M.l.take k)) ∧ GX (w.heap.size + 2) w3 wr) (fun i _ => n - (intOf i).toNat)
  case atStart => exact ⟨0, by omega, rfl, HMB.out, GX.rf _⟩
  case round =>
    obtain ⟨k, hk, rfl, hmk, hgk⟩ := hrel
    have HMK := Lib.hid hmk; have HGK := Lib.hid hgk; clear hmk hgk
    have hzk := HGK.out.size
    have HBK := Lib.hid (GX.bel HBL.out HGK.out (by omega))
    by_cases hlt : k < n
    · obtain ⟨m, hm⟩ : ∃ m, M.l[k]? = some m := ⟨_, List.getElem?_eq_getElem (by rw [HN.out]; exact hlt)⟩
      obtain ⟨pb, x, rfl, hx, hxe, hxs⟩ := HLS.out k m hm
      have hgx : get? GLedgerPlace wr ⟨pb, k * 37, none⟩ = some x := GB.get HBK.out hx
      have HM := Lib.hid hm
      have hlt2 : (k : Int) < (n : Int) := by omega
      have hgn := get?_new (w := wr) 169 x
      have f5 : (wr.alloc (.cells x.enc.toArray 169)).cell? ⟨wr.heap.size, 35, none⟩ = some (.int .i64 m.status) := by
        have := cell_off (by omega) (GLedgerPlace.at_status hgn)
        rw [hxs] at this
        exact this
      have f6 : get? GEntry (wr.alloc (.cells x.enc.toArray 169)) ⟨wr.heap.size, 0, none⟩ = some m.e := by
        have := GLedgerPlace.at_e hgn
        rw [Addr.add_zero', hxe] at this
        exact this
      have hma : mapAt Int GEntry (wr.alloc (.cells x.enc.toArray 169)) (w.heap.size + 2) = some (opensFrom 0 (M.l.take k)) := mapAt_alloc _ HMK.out
      have hga : GX (w.heap.size + 2) w3 (wr.alloc (.cells x.enc.toArray 169)) := GX.tr _ _ _ HGK.out (GX.of_bel ((Bel.refl wr).alloc _) _)
      have HMA := Lib.hid hma; have HGA := Lib.hid hga
      have hst := opens_take hm
      by_cases h1 : m.status = 1
      · have hb1 : (m.status == 1) = true := by simp [h1]
        rw [if_pos h1] at hst
        have hml := mapAt_mput kl3 um111 hma (k : Int) m.e
        have hgr := mput_grown kl3 um111 hma (k : Int) m.e
        rw [opens_mset m.e (by rw [HN.out]; exact hk), ← hst] at hml
        have HML := Lib.hid hml; have HGR := Lib.hid (GX.tr _ _ _ hga hgr)
        clear hm hx hxe hxs hgn hga hst h1 hml hgr
        go_wp2_with fail
        exact ⟨⟨k + 1, by omega, by go_num, HML.out, HGR.out⟩, by simp [intOf]; omega⟩
      · have hb1 : (m.status == 1) = false := by simp [h1]
        rw [if_neg h1, List.append_nil] at hst
        rw [← hst] at hma
        have HMA2 := Lib.hid hma
        clear hm hx hxe hxs hgn hga hst h1 hma
        go_wp2_with fail
        exact ⟨⟨k + 1, by omega, by go_num, HMA2.out, HGA.out⟩, by simp [intOf]; omega⟩
    · have hkn : k = n := by omega
      have hot : opensFrom 0 (M.l.take k) = opensL M := by unfold opensL; rw [List.take_of_length_le (by rw [HN.out]; omega)]
      have HMO := Lib.hid (hot ▸ HMK.out : mapAt Int GEntry wr (w.heap.size + 2) = some (opensL M))
      have hlt2 : ¬ (k : Int) < (n : Int) := by omega
      have hg4 := GX.getS HGK.out HG3.out (by show g ≠ _; omega)
      obtain ⟨k0, k1, _, _, _⟩ := ledger_cells hg4
      simp only at k0 k1
      have k2 : get? GConf wr ⟨w.heap.size, 0, none⟩ = some cf := GX.getS HGK.out HGC.out (by show w.heap.size ≠ w.heap.size + 2; omega)
      have HK3 := Lib.hid (GX.getS HGK.out HGB.out (by show w.heap.size + 1 ≠ w.heap.size + 2; omega))
      have HK4 := Lib.hid (GX.free HGK.out HFB.out (by omega) (by omega))
      clear hot hkn hg4
      go_wp2_with fail
      refine wp_region_G GB [13] GB.rf (by kernel_rfl) ?_
      refine wpG_looks 3 14 [0,1,2,3,4,5,6,7,8,9,11] rfl GB.rf GB.tr (by kernel_rfl) (fun _ _ _ _ hd h => And.intro (hd ▸ And.left h) (And.right h)) rfl (by kernel_rfl) ?_
      intro ι W hne CW
      have g0 := fun z => (CW.out z).cell k0
      have g1 := fun z => (CW.out z).cell k1
      have g2 := fun z => (CW.out z).get k2
      repeat (refine wpLooksG_step (fun K hK => ?_); go_simp; refine hK _ ?_; clear hK K)
      refine wpLooksG_nil ?_
      clear g0 g1 g2 k0 k1 k2 CW hne W ι
      refine wpG_force 10 _ rfl (by kernel_rfl) rfl fun wa hwa K hK => ?_
      go_simp
      refine (logged_any g S U M wa (H.out.bel (HBK.out.trans hwa.undrew))).mono ?_
      rintro _ wb ⟨rl, nl, rfl, hnl, hset, hrl, hbb⟩
      refine hK _ _ (fun _ => hbb) ?_
      clear hK K
      refine wpG_force 12 _ rfl (by kernel_rfl) rfl fun wc hwc K hK => ?_
      go_simp
      refine hK _ _ (fun _ => GB.rf _) ?_
      clear hK K
      refine wpG_force 13 _ rfl (by kernel_rfl) rfl fun wd hwd K hK => ?_
      have hbd : Bel wr wd := ((hwa.undrew.trans hbb).trans hwc).trans hwd
      have k7 : get? GBatchBase wd ⟨w.heap.size + 1, 0, none⟩ = some default := GB.get hbd HK3.out
      have k8 : blkFree wd (w.heap.size + 1) = true := (blkFree_keep (hbd.block _ (by omega))).trans HK4.out
      go_simp
      have hzd := hbd.size
      have hzbw : w.heap.size + 2 < wr.heap.size := mapAt_lt HMO.out
      have hwr := hwa.undrew.size
      have hput := get?_put (⟨cf, M.epoch, M.last, some rl, some (w.heap.size + 2)⟩ : GBatchBase) k7
      have hcp : Chg (fun q => q = w.heap.size + 1) wd (World.putCells wd ⟨w.heap.size + 1, 0, none⟩ (Enc.enc (⟨cf, M.epoch, M.last, some rl, some (w.heap.size + 2)⟩ : GBatchBase))) := Chg.putCells (a := ⟨w.heap.size + 1, 0, none⟩) _
      have hbp : Bel w (World.putCells wd ⟨w.heap.size + 1, 0, none⟩ (Enc.enc (⟨cf, M.epoch, M.last, some rl, some (w.heap.size + 2)⟩ : GBatchBase))) := Below_putCells (a := ⟨w.heap.size + 1, 0, none⟩) (HBK.out.trans hbd) (by show w.heap.size ≤ w.heap.size + 1; omega) _
      have hmo := hcp.map ((mapAt_below hbd (mapAt_lt HMO.out)).trans HMO.out) (by omega)
      have hml := hcp.map ((mapAt_below (Bel.trans hwc hwd) (mapAt_lt hnl)).trans hnl) (by omega)
      have HPUT := Lib.hid hput; have HBP := Lib.hid hbp; have HMP := Lib.hid hmo; have HLP := Lib.hid hml; have HSET := Lib.hid hset
      clear hput hcp hbp hmo hml hset hnl
      change Hid (get? GBatchBase (World.putCells wd ⟨w.heap.size + 1, 0, none⟩ (GBatchBase.enc ⟨cf, M.epoch, M.last, some rl, some (w.heap.size + 2)⟩)) ⟨w.heap.size + 1, 0, none⟩ = some ⟨cf, M.epoch, M.last, some rl, some (w.heap.size + 2)⟩) at HPUT
      change Hid (Bel w (World.putCells wd ⟨w.heap.size + 1, 0, none⟩ (GBatchBase.enc ⟨cf, M.epoch, M.last, some rl, some (w.heap.size + 2)⟩))) at HBP
      change Hid (mapAt Int GEntry (World.putCells wd ⟨w.heap.size + 1, 0, none⟩ (GBatchBase.enc ⟨cf, M.epoch, M.last, some rl, some (w.heap.size + 2)⟩)) (w.heap.size + 2) = some (opensL M)) at HMP
      change Hid (mapAt GName Bool (World.putCells wd ⟨w.heap.size + 1, 0, none⟩ (GBatchBase.enc ⟨cf, M.epoch, M.last, some rl, some (w.heap.size + 2)⟩)) rl = some nl) at HLP
      generalize World.putCells wd ⟨w.heap.size + 1, 0, none⟩ (GBatchBase.enc ⟨cf, M.epoch, M.last, some rl, some (w.heap.size + 2)⟩) = we at HPUT HBP HMP HLP ⊢
      refine hK _ _ (fun h => absurd (by simp) h) ?_
      clear hK K k7 k8
      refine wpG_end (by kernel_rfl) (fun wn hwn => ?_) _
      go_wp2_with fail
      refine bodyPost_ret (results_cell (x := (⟨cf, M.epoch, M.last, some rl, some (w.heap.size + 2)⟩ : GBatchBase)) rfl rfl ag113 sz113 (GB.get hwn HPUT.out)) rfl ⟨rl, w.heap.size + 2, nl, by rw [GBatchBase.val_eq], (mapAt_below hwn (mapAt_lt HLP.out)).trans HLP.out, HSET.out, (mapAt_below hwn (mapAt_lt HMP.out)).trans HMP.out, by omega, by omega, HBP.out.trans hwn⟩
end Go.Proofs.Yteockodnfempfaa
