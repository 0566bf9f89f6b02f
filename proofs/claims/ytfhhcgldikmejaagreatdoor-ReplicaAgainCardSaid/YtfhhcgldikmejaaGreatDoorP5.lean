/- A replica's begin. Conditions: those named in each theorem. -/
import Derived.Test.YtfhhcgldikmejaaGreatDoorP4
import Derived.Deep.CutBlock
import Derived.Test.YtfhhcgldikmejaaGreatDoorP3
import Derived.LaidEqlPtr
import Derived.Shelf.SlMaps.Clone
/- A round entered; the core's start. Conditions: those named in each theorem. -/
namespace Go.Proofs.YtfhhcgldikmejaaGreatDoor
open Go Go.RowKit Go.Gv Go.Proofs

def entered (s : GCoreState) (r : Int) : GCoreState := { s with round := r, step := 1 }
def enterAct (s : GCoreState) (id r : Int) (p : Nat) : GCoreAct := if (p : Int) = id then ⟨1, r, s.validRound, s.valid⟩ else ⟨4, r, 1, default⟩
set_option maxRecDepth 100000 in
set_option maxHeartbeats 4000000 in
theorem enter_any (g gt mh mc ma ml mq : Nat) (c : GConf) (ep id : Int) (s : GCoreState) (b1 b2 b3 : Bool) (H : List (GTallyVoter × Bool)) (A : List (GTallyTurn × Int)) (L : List (Int × Int)) (w : World) (h : CoreIs w g gt mh mc ma ml mq c ep id s b1 b2 b3 H A L) (f e r : Nat) (hf : c.f = (f : Int)) (hf1 : f ≤ 21) (he : ep = (e : Int)) (he1 : e ≤ 1048576) (hr : r ≤ 1048576) (hgt : g ≠ gt) :
    Calls Tryz.prog 83 #[.pointer (some ⟨g, 0, none⟩), .int .i64 (r : Int)] w fun x w' => ∃ A2 : Option Addr, x = .returned (.slice A2 1 1) ∧ Sl GCoreAct w' w'.heap.size A2 1 [enterAct s id r ((e % (3 * f + 1) + r % (3 * f + 1)) % (3 * f + 1))] ∧
      CoreIs w' g gt mh mc ma ml mq c ep id (entered s r) false false false H A L ∧ Chg (fun k => k = g) w w' := by
  subst he
  have HH := Lib.hid h
  have k0 := h.cells
  have f4 := k0.2.2.2.1
  have f5 := k0.2.2.2.2.1
  have f7 := k0.2.2.2.2.2.2.2.2.2.1
  have f8 := k0.2.2.2.2.2.2.2.2.2.2.1
  have f9 := k0.2.2.2.2.2.2.2.2.2.2.2.1
  clear k0 h
  have hfz := frozen_of_free (a := ⟨g, 4, none⟩) HH.out.free
  have hfz5 := frozen_of_free (a := ⟨g, 5, none⟩) HH.out.free
  have hfz7 := frozen_of_free (a := ⟨g, 107, none⟩) HH.out.free
  have hfz8 := frozen_of_free (a := ⟨g, 108, none⟩) HH.out.free
  have hfz9 := frozen_of_free (a := ⟨g, 109, none⟩) HH.out.free
  have hr1 : ¬ (1048576 : Int) < (r : Int) := by omega
  go_enter Tryz.func83, Tryz.ntmps83
  go_upto_region 5 with fail
  have hg5 : get? GCoreCore (((((w.setCell ⟨g, 4, none⟩ (.int .i64 r)).setCell ⟨g, 5, none⟩ (.int .i64 1)).setCell ⟨g, 107, none⟩ (.bool false)).setCell ⟨g, 108, none⟩ (.bool false)).setCell ⟨g, 109, none⟩ (.bool false)) ⟨g, 0, none⟩ = some ⟨c, e, id, entered s r, some ⟨gt, 0, none⟩, some mq, false, false, false⟩ :=
    get?_poke (get?_poke (get?_poke (get?_poke (get?_poke HH.out.get (core_round ⟨c, e, id, s, some ⟨gt, 0, none⟩, some mq, b1, b2, b3⟩ r)) (core_step ⟨c, e, id, { s with round := r }, some ⟨gt, 0, none⟩, some mq, b1, b2, b3⟩ 1)) (core_b1 ⟨c, e, id, entered s r, some ⟨gt, 0, none⟩, some mq, b1, b2, b3⟩ false)) (core_b2 ⟨c, e, id, entered s r, some ⟨gt, 0, none⟩, some mq, false, b2, b3⟩ false)) (core_b3 ⟨c, e, id, entered s r, some ⟨gt, 0, none⟩, some mq, false, false, b3⟩ false)
  have hc5 : Chg (fun k => k = g) w (((((w.setCell ⟨g, 4, none⟩ (.int .i64 r)).setCell ⟨g, 5, none⟩ (.int .i64 1)).setCell ⟨g, 107, none⟩ (.bool false)).setCell ⟨g, 108, none⟩ (.bool false)).setCell ⟨g, 109, none⟩ (.bool false)) :=
    ((((chg_cell (S := fun k => k = g) rfl _).tr (chg_cell (S := fun k => k = g) rfl _)).tr (chg_cell (S := fun k => k = g) rfl _)).tr (chg_cell (S := fun k => k = g) rfl _)).tr (chg_cell (S := fun k => k = g) rfl _)
  have hb5 : blkFree (((((w.setCell ⟨g, 4, none⟩ (.int .i64 r)).setCell ⟨g, 5, none⟩ (.int .i64 1)).setCell ⟨g, 107, none⟩ (.bool false)).setCell ⟨g, 108, none⟩ (.bool false)).setCell ⟨g, 109, none⟩ (.bool false)) g = true := by
    rw [blkFree_setCell, blkFree_setCell, blkFree_setCell, blkFree_setCell, blkFree_setCell]; exact HH.out.free
  clear f4 f5 f7 f8 f9 hfz hfz5 hfz7 hfz8 hfz9
  generalize ((((w.setCell ⟨g, 4, none⟩ (.int .i64 r)).setCell ⟨g, 5, none⟩ (.int .i64 1)).setCell ⟨g, 107, none⟩ (.bool false)).setCell ⟨g, 108, none⟩ (.bool false)).setCell ⟨g, 109, none⟩ (.bool false) = wE at hg5 hc5 hb5 ⊢
  have nq : ¬ mq = g := fun e => get_not_mapV HH.out.props HH.out.get e.symm
  have nh : ¬ mh = g := fun e => get_not_mapV HH.out.have_ HH.out.get e.symm
  have na : ¬ ma = g := fun e => get_not_mapV HH.out.all HH.out.get e.symm
  have nl : ¬ ml = g := fun e => get_not_mapV HH.out.last HH.out.get e.symm
  have HE := Lib.hid (show CoreIs wE g gt mh mc ma ml mq c e id (entered s r) false false false H A L from ⟨hg5, hb5, hc5.get HH.out.tal (fun e => hgt e.symm), hc5.map HH.out.props nq, hc5.map HH.out.have_ nh, hc5.map HH.out.all na, hc5.map HH.out.last nl⟩)
  have HC5 := Lib.hid hc5
  clear hg5 hc5 hb5 nq nh na nl
  obtain ⟨p, hp⟩ : ∃ p, (e % (3 * f + 1) + r % (3 * f + 1)) % (3 * f + 1) = p := ⟨_, rfl⟩
  have HP := Lib.hid hp
  refine wp_region_G GB [] GB.rf (by kernel_rfl) ?_
  refine wpG_looks 2 15 [0, 1, 2, 3, 4, 5, 6, 7, 8, 10, 11, 12, 13] rfl GB.rf GB.tr (by kernel_rfl) (fun _ _ _ _ hd h => And.intro (hd ▸ And.left h) (And.right h)) rfl (by kernel_rfl) ?_
  intro ι W hne CW
  have k0 := fun z => (HE.out.step (GB.undrew (CW.out z))).cells
  have k1 := fun z => (k0 z).2.1
  have k2 := fun z => (k0 z).2.2.1
  have k3 := fun z => (k0 z).2.2.2.2.2.2.2.2.2.2.2.2.1
  clear k0
  repeat (refine wpLooksG_step (fun K hK => ?_); go_simp; refine hK _ ?_; clear hK K)
  refine wpLooksG_nil ?_
  clear k1 k2 k3 CW hne W ι
  refine wpG_force 9 _ rfl (by kernel_rfl) rfl fun wa hwa K hK => ?_
  go_simp
  refine (proposer_any c f e r wa hf hf1 he1 (by omega)).mono ?_
  rw [hp]
  rintro _ wb ⟨rfl, hbb⟩
  refine hK _ _ (fun _ => hbb) ?_
  clear hK K
  refine wpG_force 14 _ rfl (by kernel_rfl) rfl fun wc hwc K hK => ?_
  go_simp
  refine hK _ _ (fun _ => GB.rf _) ?_
  clear hK K
  refine wpG_end (by kernel_rfl) (fun wn hwn => ?_) _
  have hbn := Bel.trans (GB.undrew hwa) (Bel.trans hbb (GB.tr _ _ _ hwc hwn))
  have HN := Lib.hid (HE.out.step hbn)
  have HCN := Lib.hid (HC5.out.tr (Chg.of_bel hbn _))
  clear hbn hwn hwc hbb hwa HE HC5 hp
  by_cases hpi : (p : Int) = id
  · have hpb : ((p : Int) == id) = true := by rw [beq_iff_eq]; exact hpi
    have HA := Lib.hid (show enterAct s id r p = ⟨1, r, s.validRound, s.valid⟩ by unfold enterAct; rw [if_pos hpi])
    have k0 := HN.out.cells
    have k1 := k0.2.2.2.2.2.1
    have k2 := k0.2.2.2.2.2.2.2.2.2.2.2.2.2.1
    clear k0 hpi
    go_wp2_with fail
    go_region
    go_wp2_with fail
    go_ret
    rw [HP.out, HA.out]
    exact ⟨_, rfl, (Sl.new_ (xs := [(⟨1, r, s.validRound, s.valid⟩ : GCoreAct)]) (by simp; rfl) rfl rfl (by simp)).drew_, HN.out.step ((Bel.refl wn).alloc _).drew, HCN.out.tr (Chg.of_bel ((Bel.refl wn).alloc _).drew _)⟩
  · have hpb : ((p : Int) == id) = false := by rw [beq_eq_false_iff_ne]; exact hpi
    have HA := Lib.hid (show enterAct s id r p = ⟨4, r, 1, default⟩ by unfold enterAct; rw [if_neg hpi])
    clear hpi
    go_wp2_with fail
    refine (timer_any g gt mh mc ma ml mq c e id (entered s r) false false false H A L wn HN.out 1).mono ?_
    rintro _ wt ⟨rfl, hbt⟩
    have HN2 := Lib.hid (HN.out.step hbt)
    have HCN2 := Lib.hid (HCN.out.tr (Chg.of_bel hbt _))
    clear hbt HN HCN
    go_wp2_with fail
    go_ret
    rw [HP.out, HA.out]
    exact ⟨_, rfl, Sl.new_ (xs := [(⟨4, r, 1, default⟩ : GCoreAct)]) (by simp; rfl) rfl rfl (by simp), HN2.out.step ((Bel.refl wt).alloc _), HCN2.out.tr (Chg.of_bel ((Bel.refl wt).alloc _) _)⟩
theorem gAppend_zeroV {P : Program} {α : Type} [Enc α] {w : World} {e t : TypeId} {by8 : Nat} (E : ElemI P t e α by8) (A A2 : Option Addr) {k c c2 : Nat} (hkc : k ≤ c) (ty : TypeId) : (gAppend #[t, t] ty #[.slice A k c, .slice A2 0 c2]).run P w = .ok (.slice A k c) w := by
  obtain ⟨i, hi, hx⟩ := Option.map_eq_some_iff.1 E.ex
  unfold gAppend
  cases A <;> cases A2 <;> simp [Builtin.append_, run_underlying E.ht, sizeOf, typeInfo, hi, Builtin.lenOf, Builtin.firstCells, hkc, storeCells, loadCells, loadCellsFrom]
set_option maxRecDepth 100000 in
set_option maxHeartbeats 2000000 in
theorem startC_any (g gt mh mc ma ml mq : Nat) (c : GConf) (ep id : Int) (s : GCoreState) (b1 b2 b3 : Bool) (H : List (GTallyVoter × Bool)) (A : List (GTallyTurn × Int)) (L : List (Int × Int)) (w : World) (h : CoreIs w g gt mh mc ma ml mq c ep id s b1 b2 b3 H A L) (f e : Nat) (hf : c.f = (f : Int)) (hf0 : 1 ≤ f) (hf1 : f ≤ 21) (he : ep = (e : Int)) (he1 : e ≤ 1048576) (hgt : g ≠ gt) (hst : s.step = 0) (hd : s.decided = false) (hL : ∀ p ∈ L, p.2 ≤ 0) (hA : allOf A 2 0 < 2 * c.f + 1) :
    Calls Tryz.prog 43 #[.pointer (some ⟨g, 0, none⟩)] w fun x w' => ∃ A2 : Option Addr, x = .returned (.slice A2 1 1) ∧ Sl GCoreAct w' w'.heap.size A2 1 [enterAct s id 0 ((e % (3 * f + 1) + 0 % (3 * f + 1)) % (3 * f + 1))] ∧
      CoreIs w' g gt mh mc ma ml mq c ep id (entered s 0) false false false H A L ∧ Chg (fun k => k = g) w w' := by
  have HH := Lib.hid h; have HL := Lib.hid hL; have HA := Lib.hid hA; have HD := Lib.hid hd; have HF := Lib.hid hf; have HE := Lib.hid he
  have k0 := h.cells
  have f5 := k0.2.2.2.2.1
  rw [hst] at f5
  clear k0 h hL hA hd hst hf he
  go_enter Tryz.func43, Tryz.ntmps43
  go_wp2_with fail
  refine (enter_any g gt mh mc ma ml mq c ep id s b1 b2 b3 H A L w HH.out f e 0 HF.out hf1 HE.out he1 (by omega) hgt).mono ?_
  rintro _ w1 ⟨A2, rfl, hs, hc, hch⟩
  have HS := Lib.hid hs; have HC := Lib.hid hc; have HCH := Lib.hid hch
  clear hs hc hch f5
  go_wp2_with fail
  refine (settle0_any g gt mh mc ma ml mq c ep id (entered s 0) false false false H A L w1 HC.out (by have := HF.out; omega) HL.out rfl HD.out rfl HA.out).mono ?_
  rintro _ w2 ⟨rfl, hb2⟩
  have hap : (gAppend #[126, 126] 126 #[.slice A2 1 1, .slice none 0 0]).run Tryz.prog w2 = .ok (.slice A2 1 1) w2 := gAppend_zeroV ei126 A2 none (by omega) _
  have HS2 := Lib.hid (HS.out.stepB hb2); have HC2 := Lib.hid (HC.out.step hb2); have HCH2 := Lib.hid (HCH.out.tr (Chg.of_bel hb2 _))
  clear hb2
  go_wp2_with fail
  go_ret
  exact ⟨A2, rfl, HS2.out, HC2.out, HCH2.out⟩
set_option maxRecDepth 100000 in
set_option maxHeartbeats 1000000 in
theorem state_any (g gt mh mc ma ml mq : Nat) (c : GConf) (ep id : Int) (s : GCoreState) (b1 b2 b3 : Bool) (H : List (GTallyVoter × Bool)) (A : List (GTallyTurn × Int)) (L : List (Int × Int)) (w : World) (h : CoreIs w g gt mh mc ma ml mq c ep id s b1 b2 b3 H A L) :
    Calls Tryz.prog 141 #[.pointer (some ⟨g, 0, none⟩)] w fun x w' => x = .returned s.val ∧ Bel w w' := by
  have f0 := GCoreCore.at_s h.get
  simp only [Addr.add_lit, Nat.zero_add] at f0
  have hgl : g < w.heap.size := get?_lt h.get
  have f1 := get?_alloc (.cells (GCoreState.enc default).toArray 197) f0
  clear h
  go_enter Tryz.func141, Tryz.ntmps141
  go_wp2_with fail
  refine bodyPost_ret (results_cell (x := s) rfl rfl ag197 sz197 (get?_new _ _)) rfl ⟨?_, (Bel.refl w).alloc _⟩
  simp only [GCoreState.val_eq]
end Go.Proofs.YtfhhcgldikmejaaGreatDoor
/- Messages that hold no list, in new memory. Conditions: those named in each theorem. -/
namespace Go.Proofs.YtfhhcgldikmejaaGreatDoor
open Go Go.RowKit Go.Gv Go.Proofs

theorem setCell_id {w : World} {a : Addr} {v : Value} (h : w.cell? a = some v) : w.setCell a v = w := by
  unfold World.cell? at h
  split at h
  · rename_i c e f hb
    split at h
    · cases h
    · rename_i hs
      unfold World.setCell
      have : w.heap.modify a.block (fun | .cells c elem frozen => .cells (if a.spot.isSome then c else c.setIfInBounds a.off v) elem frozen | o => o) = w.heap := by
        apply Array.ext_getElem?
        intro k
        rw [Array.getElem?_modify]
        split
        · rename_i hk
          subst hk
          rw [hb]
          simp only [Option.map_some]
          rw [show c.setIfInBounds a.off v = c by
            apply Array.ext_getElem?
            intro j
            rw [Array.getElem?_setIfInBounds]
            split
            · rename_i hj; subst hj; first | exact h.symm | (rw [if_pos (Array.getElem?_eq_some_iff.1 h).1, h])
            · rfl]
        · rfl
      exact congrArg (fun h => ({ w with heap := h } : World)) this
  · cases h
theorem putFrom_id {w : World} {a : Addr} : ∀ (vs : List Value) (i : Nat), (∀ j v, vs[j]? = some v → w.cell? (a.add (i + j)) = some v) → World.putFrom w a i vs = w
  | [], _, _ => rfl
  | v :: vs, i, h => by
    unfold World.putFrom
    have h0 := h 0 v rfl
    rw [Nat.add_zero] at h0
    rw [setCell_id h0]
    exact putFrom_id vs (i + 1) (fun j u hu => by
      have := h (j + 1) u (by simpa using hu)
      rwa [show i + (j + 1) = i + 1 + j by omega] at this)
/-- A value stored where it stands already. -/
theorem put_id {α : Type} [Enc α] {w : World} {a : Addr} {x : α} (h : get? α w a = some x) : World.putCells w a (Enc.enc x) = w := by
  unfold World.putCells
  exact putFrom_id _ 0 (fun j v hv => by rw [Nat.zero_add]; exact (get?_iff.1 h) j v hv)
set_option maxRecDepth 100000 in
theorem copied0Stamp_any (f : Value) (w : World) : Calls Tryz.prog 174 #[.slice none 0 0, f] w fun e w' => e = .returned (.slice none 0 0) ∧ w' = w := by
  go_enter Tryz.func174, Tryz.ntmps174
  go_wp2_with fail
  go_loopw [5, 10] (fun ov iv wr => ov = .slice none 0 0 ∧ iv = .int .i64 0 ∧ wr = w) (fun _ _ _ => 0)
  case atStart => exact ⟨rfl, rfl, rfl⟩
  case round =>
    obtain ⟨rfl, rfl, rfl⟩ := hrel
    go_wp2_with fail
    go_ret
    exact ⟨rfl, rfl⟩
set_option maxRecDepth 100000 in
theorem copied0Cert_any (f : Value) (w : World) : Calls Tryz.prog 176 #[.slice none 0 0, f] w fun e w' => e = .returned (.slice none 0 0) ∧ w' = w := by
  go_enter Tryz.func176, Tryz.ntmps176
  go_wp2_with fail
  go_loopw [5, 10] (fun ov iv wr => ov = .slice none 0 0 ∧ iv = .int .i64 0 ∧ wr = w) (fun _ _ _ => 0)
  case atStart => exact ⟨rfl, rfl, rfl⟩
  case round =>
    obtain ⟨rfl, rfl, rfl⟩ := hrel
    go_wp2_with fail
    go_ret
    exact ⟨rfl, rfl⟩
set_option maxRecDepth 100000 in
theorem copied0Promise_any (f : Value) (w : World) : Calls Tryz.prog 177 #[.slice none 0 0, f] w fun e w' => e = .returned (.slice none 0 0) ∧ w' = w := by
  go_enter Tryz.func177, Tryz.ntmps177
  go_wp2_with fail
  go_loopw [5, 10] (fun ov iv wr => ov = .slice none 0 0 ∧ iv = .int .i64 0 ∧ wr = w) (fun _ _ _ => 0)
  case atStart => exact ⟨rfl, rfl, rfl⟩
  case round =>
    obtain ⟨rfl, rfl, rfl⟩ := hrel
    go_wp2_with fail
    go_ret
    exact ⟨rfl, rfl⟩
set_option maxRecDepth 100000 in
theorem copied0Opening_any (f : Value) (w : World) : Calls Tryz.prog 178 #[.slice none 0 0, f] w fun e w' => e = .returned (.slice none 0 0) ∧ w' = w := by
  go_enter Tryz.func178, Tryz.ntmps178
  go_wp2_with fail
  go_loopw [5, 10] (fun ov iv wr => ov = .slice none 0 0 ∧ iv = .int .i64 0 ∧ wr = w) (fun _ _ _ => 0)
  case atStart => exact ⟨rfl, rfl, rfl⟩
  case round =>
    obtain ⟨rfl, rfl, rfl⟩ := hrel
    go_wp2_with fail
    go_ret
    exact ⟨rfl, rfl⟩
set_option maxRecDepth 100000 in
theorem copied0Tomb_any (f : Value) (w : World) : Calls Tryz.prog 179 #[.slice none 0 0, f] w fun e w' => e = .returned (.slice none 0 0) ∧ w' = w := by
  go_enter Tryz.func179, Tryz.ntmps179
  go_wp2_with fail
  go_loopw [5, 10] (fun ov iv wr => ov = .slice none 0 0 ∧ iv = .int .i64 0 ∧ wr = w) (fun _ _ _ => 0)
  case atStart => exact ⟨rfl, rfl, rfl⟩
  case round =>
    obtain ⟨rfl, rfl, rfl⟩ := hrel
    go_wp2_with fail
    go_ret
    exact ⟨rfl, rfl⟩
set_option maxRecDepth 100000 in
theorem copied0Vote_any (f : Value) (w : World) : Calls Tryz.prog 121 #[.slice none 0 0, f] w fun e w' => e = .returned (.slice none 0 0) ∧ w' = w := by
  go_enter Tryz.func121, Tryz.ntmps121
  go_wp2_with fail
  go_loopw [5, 10] (fun ov iv wr => ov = .slice none 0 0 ∧ iv = .int .i64 0 ∧ wr = w) (fun _ _ _ => 0)
  case atStart => exact ⟨rfl, rfl, rfl⟩
  case round =>
    obtain ⟨rfl, rfl, rfl⟩ := hrel
    go_wp2_with fail
    go_ret
    exact ⟨rfl, rfl⟩
set_option maxRecDepth 100000 in
set_option maxHeartbeats 1000000 in
theorem cert0_any (x : GCert) (w : World) (hx : x.stamps = ⟨none, 0, 0⟩) : Calls Tryz.prog 117 #[x.val] w fun e w' => e = .returned x.val ∧ Bel w w' := by
  have HX := Lib.hid hx
  clear hx
  go_enter Tryz.func117, Tryz.ntmps117
  have c1 : get? GCert ((w.alloc (.cells (GCert.enc x).toArray 44)).alloc (.cells (GCert.enc default).toArray 44)) ⟨w.heap.size, 0, none⟩ = some x := get?_alloc _ (get?_new _ _)
  have c2 : get? GCert ((w.alloc (.cells (GCert.enc x).toArray 44)).alloc (.cells (GCert.enc default).toArray 44)) ⟨w.heap.size + 1, 0, none⟩ = some default := by
    have := get?_new (w := w.alloc (.cells (GCert.enc x).toArray 44)) 44 (default : GCert)
    rwa [World.size_alloc] at this
  have b1 : blkFree ((w.alloc (.cells (GCert.enc x).toArray 44)).alloc (.cells (GCert.enc default).toArray 44)) w.heap.size = true := by rw [blkFree_past _ _ (by simp)]; exact blkFree_new _ _ rfl
  have b2 : blkFree ((w.alloc (.cells (GCert.enc x).toArray 44)).alloc (.cells (GCert.enc default).toArray 44)) (w.heap.size + 1) = true := blkFree_new _ _ (by simp)
  have HB := Lib.hid (((Bel.refl w).alloc (.cells (GCert.enc x).toArray 44)).alloc (.cells (GCert.enc default).toArray 44))
  have f0 := GCert.at_stamps c1
  simp only [Addr.add_lit, Nat.zero_add] at f0
  rw [HX.out] at f0
  go_upto_region 1 with fail
  obtain ⟨q, hq⟩ : ∃ q, w.heap.size = q := ⟨_, rfl⟩
  have HQ := Lib.hid hq
  rw [hq] at c1 c2 b1 b2 f0 ⊢
  generalize (w.alloc (.cells (GCert.enc x).toArray 44)).alloc (.cells (GCert.enc default).toArray 44) = wa at c1 c2 b1 b2 HB f0 ⊢
  have hfr : wa.frozen? ⟨q, 37, none⟩ = false := frozen_of_free b1
  have hsame : wa.setCell ⟨q, 37, none⟩ (.slice none 0 0) = wa := setCell_id f0
  go_wp2_with fail
  refine (copied0Stamp_any _ _).mono ?_
  rintro _ w1 ⟨rfl, hw1⟩
  obtain rfl : wa = w1 := hw1.symm
  go_wp2_with fail
  try rw [hsame]
  try go_wp2_with fail
  have v2 : get? GCert (World.putCells wa ⟨q + 1, 0, none⟩ (GCert.enc x)) ⟨q + 1, 0, none⟩ = some x := get?_putV _ c2
  refine bodyPost_ret (results_cell (x := x) rfl rfl ag44 sz44 v2) rfl ⟨?_, ?_⟩
  · simp only [GCert.val_eq]
  · exact Chg.bel2 HB.out (chg_put (S := fun k => k = q + 1) rfl _) (fun k e => by rw [e, HQ.out]; omega)
set_option maxRecDepth 100000 in
set_option maxHeartbeats 1000000 in
theorem promC0_any (x : GPromise) (w : World) (hx : x.certs = ⟨none, 0, 0⟩) : Calls Tryz.prog 118 #[x.val] w fun e w' => e = .returned x.val ∧ Bel w w' := by
  have HX := Lib.hid hx
  clear hx
  go_enter Tryz.func118, Tryz.ntmps118
  have c1 : get? GPromise ((w.alloc (.cells (GPromise.enc x).toArray 49)).alloc (.cells (GPromise.enc default).toArray 49)) ⟨w.heap.size, 0, none⟩ = some x := get?_alloc _ (get?_new _ _)
  have c2 : get? GPromise ((w.alloc (.cells (GPromise.enc x).toArray 49)).alloc (.cells (GPromise.enc default).toArray 49)) ⟨w.heap.size + 1, 0, none⟩ = some default := by
    have := get?_new (w := w.alloc (.cells (GPromise.enc x).toArray 49)) 49 (default : GPromise)
    rwa [World.size_alloc] at this
  have b1 : blkFree ((w.alloc (.cells (GPromise.enc x).toArray 49)).alloc (.cells (GPromise.enc default).toArray 49)) w.heap.size = true := by rw [blkFree_past _ _ (by simp)]; exact blkFree_new _ _ rfl
  have b2 : blkFree ((w.alloc (.cells (GPromise.enc x).toArray 49)).alloc (.cells (GPromise.enc default).toArray 49)) (w.heap.size + 1) = true := blkFree_new _ _ (by simp)
  have HB := Lib.hid (((Bel.refl w).alloc (.cells (GPromise.enc x).toArray 49)).alloc (.cells (GPromise.enc default).toArray 49))
  have f0 := GPromise.at_certs c1
  simp only [Addr.add_lit, Nat.zero_add] at f0
  rw [HX.out] at f0
  go_upto_region 1 with fail
  obtain ⟨q, hq⟩ : ∃ q, w.heap.size = q := ⟨_, rfl⟩
  have HQ := Lib.hid hq
  rw [hq] at c1 c2 b1 b2 f0 ⊢
  generalize (w.alloc (.cells (GPromise.enc x).toArray 49)).alloc (.cells (GPromise.enc default).toArray 49) = wa at c1 c2 b1 b2 HB f0 ⊢
  have hfr : wa.frozen? ⟨q, 3, none⟩ = false := frozen_of_free b1
  have hsame : wa.setCell ⟨q, 3, none⟩ (.slice none 0 0) = wa := setCell_id f0
  go_wp2_with fail
  refine (copied0Cert_any _ _).mono ?_
  rintro _ w1 ⟨rfl, hw1⟩
  obtain rfl : wa = w1 := hw1.symm
  go_wp2_with fail
  try rw [hsame]
  try go_wp2_with fail
  have v2 : get? GPromise (World.putCells wa ⟨q + 1, 0, none⟩ (GPromise.enc x)) ⟨q + 1, 0, none⟩ = some x := get?_putV _ c2
  refine bodyPost_ret (results_cell (x := x) rfl rfl ag49 sz49 v2) rfl ⟨?_, ?_⟩
  · simp only [GPromise.val_eq]
  · exact Chg.bel2 HB.out (chg_put (S := fun k => k = q + 1) rfl _) (fun k e => by rw [e, HQ.out]; omega)
set_option maxRecDepth 100000 in
set_option maxHeartbeats 1000000 in
theorem open0_any (x : GOpening) (w : World) (hx : x.payload = ⟨none, 0, 0⟩) : Calls Tryz.prog 119 #[x.val] w fun e w' => e = .returned x.val ∧ Bel w w' := by
  have HX := Lib.hid hx
  clear hx
  go_enter Tryz.func119, Tryz.ntmps119
  have c1 : get? GOpening ((w.alloc (.cells (GOpening.enc x).toArray 63)).alloc (.cells (GOpening.enc default).toArray 63)) ⟨w.heap.size, 0, none⟩ = some x := get?_alloc _ (get?_new _ _)
  have c2 : get? GOpening ((w.alloc (.cells (GOpening.enc x).toArray 63)).alloc (.cells (GOpening.enc default).toArray 63)) ⟨w.heap.size + 1, 0, none⟩ = some default := by
    have := get?_new (w := w.alloc (.cells (GOpening.enc x).toArray 63)) 63 (default : GOpening)
    rwa [World.size_alloc] at this
  have b1 : blkFree ((w.alloc (.cells (GOpening.enc x).toArray 63)).alloc (.cells (GOpening.enc default).toArray 63)) w.heap.size = true := by rw [blkFree_past _ _ (by simp)]; exact blkFree_new _ _ rfl
  have b2 : blkFree ((w.alloc (.cells (GOpening.enc x).toArray 63)).alloc (.cells (GOpening.enc default).toArray 63)) (w.heap.size + 1) = true := blkFree_new _ _ (by simp)
  have HB := Lib.hid (((Bel.refl w).alloc (.cells (GOpening.enc x).toArray 63)).alloc (.cells (GOpening.enc default).toArray 63))
  have f0 := GOpening.at_payload c1
  simp only [Addr.add_lit, Nat.zero_add] at f0
  rw [HX.out] at f0
  go_upto_region 1 with fail
  obtain ⟨q, hq⟩ : ∃ q, w.heap.size = q := ⟨_, rfl⟩
  have HQ := Lib.hid hq
  rw [hq] at c1 c2 b1 b2 f0 ⊢
  generalize (w.alloc (.cells (GOpening.enc x).toArray 63)).alloc (.cells (GOpening.enc default).toArray 63) = wa at c1 c2 b1 b2 HB f0 ⊢
  have hfr : wa.frozen? ⟨q, 1, none⟩ = false := frozen_of_free b1
  have hsame : wa.setCell ⟨q, 1, none⟩ (.slice none 0 0) = wa := setCell_id f0
  have hap : (gAppend #[61, 61] 61 #[.slice none 0 0, .slice none 0 0]).run Tryz.prog wa = .ok (.slice none 0 0) wa := by unfold gAppend; exact Go.Gv.run_append_nil ei61 (OwnS.nil (α := U8) wa 0 5) _ 0
  go_wp2_with fail
  try rw [hsame]
  try go_wp2_with fail
  have v2 : get? GOpening (World.putCells wa ⟨q + 1, 0, none⟩ (GOpening.enc x)) ⟨q + 1, 0, none⟩ = some x := get?_putV _ c2
  refine bodyPost_ret (results_cell (x := x) rfl rfl ag63 sz63 v2) rfl ⟨?_, ?_⟩
  · simp only [GOpening.val_eq]
  · exact Chg.bel2 HB.out (chg_put (S := fun k => k = q + 1) rfl _) (fun k e => by rw [e, HQ.out]; omega)
end Go.Proofs.YtfhhcgldikmejaaGreatDoor
/- A message that holds no list, in new memory. Conditions: those named in each theorem. -/
namespace Go.Proofs.YtfhhcgldikmejaaGreatDoor
open Go Go.RowKit Go.Gv Go.Proofs

def nilH : Hdr := ⟨none, 0, 0⟩
structure PlainB (x : GBatch) : Prop where
  p : x.promises = ⟨none, 0, 0⟩
  o : x.openings = ⟨none, 0, 0⟩
  t : x.tombs = ⟨none, 0, 0⟩
structure PlainM (x : GMsg) : Prop where
  c : x.cert.stamps = ⟨none, 0, 0⟩
  p : x.promise.certs = ⟨none, 0, 0⟩
  o : x.opening.payload = ⟨none, 0, 0⟩
  b : PlainB x.proposal.batch
  d : PlainB x.decided.batch
  v : x.decided.votes = ⟨none, 0, 0⟩
set_option maxRecDepth 100000 in
set_option maxHeartbeats 2000000 in
theorem batch0_any (x : GBatch) (w : World) (hx : PlainB x) : Calls Tryz.prog 120 #[x.val] w fun e w' => e = .returned x.val ∧ Bel w w' := by
  have HX := Lib.hid hx
  clear hx
  go_enter Tryz.func120, Tryz.ntmps120
  have c1 : get? GBatch ((w.alloc (.cells (GBatch.enc x).toArray 54)).alloc (.cells (GBatch.enc default).toArray 54)) ⟨w.heap.size, 0, none⟩ = some x := get?_alloc _ (get?_new _ _)
  have c2 : get? GBatch ((w.alloc (.cells (GBatch.enc x).toArray 54)).alloc (.cells (GBatch.enc default).toArray 54)) ⟨w.heap.size + 1, 0, none⟩ = some default := by
    have := get?_new (w := w.alloc (.cells (GBatch.enc x).toArray 54)) 54 (default : GBatch)
    rwa [World.size_alloc] at this
  have b1 : blkFree ((w.alloc (.cells (GBatch.enc x).toArray 54)).alloc (.cells (GBatch.enc default).toArray 54)) w.heap.size = true := by rw [blkFree_past _ _ (by simp)]; exact blkFree_new _ _ rfl
  have b2 : blkFree ((w.alloc (.cells (GBatch.enc x).toArray 54)).alloc (.cells (GBatch.enc default).toArray 54)) (w.heap.size + 1) = true := blkFree_new _ _ (by simp)
  have HB := Lib.hid (((Bel.refl w).alloc (.cells (GBatch.enc x).toArray 54)).alloc (.cells (GBatch.enc default).toArray 54))
  go_upto_region 1 with fail
  obtain ⟨q, hq⟩ : ∃ q, w.heap.size = q := ⟨_, rfl⟩
  have HQ := Lib.hid hq
  rw [hq] at c1 c2 b1 b2 ⊢
  generalize (w.alloc (.cells (GBatch.enc x).toArray 54)).alloc (.cells (GBatch.enc default).toArray 54) = wa at c1 c2 b1 b2 HB ⊢
  have C1 := Lib.hid c1; have C2 := Lib.hid c2; have B1 := Lib.hid b1; have B2 := Lib.hid b2
  clear c1 c2 b1 b2 hq
  refine wp_region_G GB [10, 12, 14] GB.rf (by kernel_rfl) ?_
  refine wpG_looks 5 15 [0, 1, 2, 3, 4, 5, 6, 7, 8, 9] rfl GB.rf GB.tr (by kernel_rfl) (fun _ _ _ _ hd h => And.intro (hd ▸ And.left h) (And.right h)) rfl (by kernel_rfl) ?_
  intro ι W hne CW
  have k0 := GBatch.at_promises C1.out
  simp only [Addr.add_lit, Nat.zero_add] at k0
  rw [HX.out.p] at k0
  have j0 := fun z => GB.cell (CW.out z) k0
  have k1 := GBatch.at_openings C1.out
  simp only [Addr.add_lit, Nat.zero_add] at k1
  rw [HX.out.o] at k1
  have j1 := fun z => GB.cell (CW.out z) k1
  have k2 := GBatch.at_tombs C1.out
  simp only [Addr.add_lit, Nat.zero_add] at k2
  rw [HX.out.t] at k2
  have j2 := fun z => GB.cell (CW.out z) k2
  refine wpLooksG_step (fun K hK => ?_); go_simp; refine hK _ ?_; clear hK K
  refine wpLooksG_step (fun K hK => ?_); go_simp; refine hK _ ?_; clear hK K
  refine wpLooksG_step (fun K hK => ?_)
  go_simp
  refine ⟨_, fun z => quietG (copied0Promise_any _ _) (fun _ _ h => h), hK _ ?_⟩
  clear hK K
  refine wpLooksG_step (fun K hK => ?_); go_simp; refine hK _ ?_; clear hK K
  refine wpLooksG_step (fun K hK => ?_); go_simp; refine hK _ ?_; clear hK K
  refine wpLooksG_step (fun K hK => ?_)
  go_simp
  refine ⟨_, fun z => quietG (copied0Opening_any _ _) (fun _ _ h => h), hK _ ?_⟩
  clear hK K
  refine wpLooksG_step (fun K hK => ?_); go_simp; refine hK _ ?_; clear hK K
  refine wpLooksG_step (fun K hK => ?_); go_simp; refine hK _ ?_; clear hK K
  refine wpLooksG_step (fun K hK => ?_)
  go_simp
  refine ⟨_, fun z => quietG (copied0Tomb_any _ _) (fun _ _ h => h), hK _ ?_⟩
  clear hK K
  refine wpLooksG_step (fun K hK => ?_); go_simp; refine hK _ ?_; clear hK K
  refine wpLooksG_nil ?_
  clear k0 k1 k2 j0 j1 j2 CW hne W ι
  refine wpG_force 10 _ rfl (by kernel_rfl) rfl fun w10 hw10 K hK => ?_
  have hb10 : GB wa w10 := GB.undrew hw10
  have m10 := GBatch.at_promises (GB.get hb10 C1.out)
  simp only [Addr.add_lit, Nat.zero_add] at m10
  rw [HX.out.p] at m10
  have n10 : w10.frozen? ⟨q, 2, none⟩ = false := frozen_of_free ((blkFree_keep (Below.block hb10 _ (get?_lt C1.out))).trans B1.out)
  go_simp
  refine hK _ _ (fun h => absurd (by simp) h) ?_
  clear hK K
  have e10 : w10.setCell ⟨q, 2, none⟩ (.slice none 0 0) = w10 := setCell_id m10
  rw [e10]
  clear e10 m10 n10
  refine wpG_force 11 _ rfl (by kernel_rfl) rfl fun w11 hw11 K hK => ?_
  have hb11 : GB wa w11 := GB.tr _ _ _ hb10 hw11
  go_simp
  refine hK _ _ (fun _ => GB.rf _) ?_
  clear hK K
  refine wpG_force 12 _ rfl (by kernel_rfl) rfl fun w12 hw12 K hK => ?_
  have hb12 : GB wa w12 := GB.tr _ _ _ hb11 hw12
  have m12 := GBatch.at_openings (GB.get hb12 C1.out)
  simp only [Addr.add_lit, Nat.zero_add] at m12
  rw [HX.out.o] at m12
  have n12 : w12.frozen? ⟨q, 3, none⟩ = false := frozen_of_free ((blkFree_keep (Below.block hb12 _ (get?_lt C1.out))).trans B1.out)
  go_simp
  refine hK _ _ (fun h => absurd (by simp) h) ?_
  clear hK K
  have e12 : w12.setCell ⟨q, 3, none⟩ (.slice none 0 0) = w12 := setCell_id m12
  rw [e12]
  clear e12 m12 n12
  refine wpG_force 13 _ rfl (by kernel_rfl) rfl fun w13 hw13 K hK => ?_
  have hb13 : GB wa w13 := GB.tr _ _ _ hb12 hw13
  go_simp
  refine hK _ _ (fun _ => GB.rf _) ?_
  clear hK K
  refine wpG_force 14 _ rfl (by kernel_rfl) rfl fun w14 hw14 K hK => ?_
  have hb14 : GB wa w14 := GB.tr _ _ _ hb13 hw14
  have m14 := GBatch.at_tombs (GB.get hb14 C1.out)
  simp only [Addr.add_lit, Nat.zero_add] at m14
  rw [HX.out.t] at m14
  have n14 : w14.frozen? ⟨q, 4, none⟩ = false := frozen_of_free ((blkFree_keep (Below.block hb14 _ (get?_lt C1.out))).trans B1.out)
  go_simp
  refine hK _ _ (fun h => absurd (by simp) h) ?_
  clear hK K
  have e14 : w14.setCell ⟨q, 4, none⟩ (.slice none 0 0) = w14 := setCell_id m14
  rw [e14]
  clear e14 m14 n14
  refine wpG_end (by kernel_rfl) (fun wn hwn => ?_) _
  have HBN := Lib.hid (GB.tr _ _ _ hb14 hwn)
  have d1 := GB.get HBN.out C1.out
  have d2 := GB.get HBN.out C2.out
  have db2 := (blkFree_keep (Below.block HBN.out _ (get?_lt C2.out))).trans B2.out
  clear hwn hb10 hb11 hb12 hb13 hb14 hw10 hw11 hw12 hw13 hw14
  go_wp2_with fail
  have v2 : get? GBatch (World.putCells wn ⟨q + 1, 0, none⟩ (GBatch.enc x)) ⟨q + 1, 0, none⟩ = some x := get?_putV _ d2
  refine bodyPost_ret (results_cell (x := x) rfl rfl ag54 sz54 v2) rfl ⟨?_, ?_⟩
  · simp only [GBatch.val_eq]
  · exact Chg.bel2 (HB.out.trans HBN.out) (chg_put (S := fun k => k = q + 1) rfl _) (fun k e => by rw [e, HQ.out]; omega)
set_option maxRecDepth 100000 in
set_option maxHeartbeats 4000000 in
theorem copy0_any (x : GMsg) (w : World) (hx : PlainM x) : Calls Tryz.prog 65 #[x.val] w fun e w' => e = .returned x.val ∧ Bel w w' := by
  have HX := Lib.hid hx
  clear hx
  go_enter Tryz.func65, Tryz.ntmps65
  have c1 : get? GMsg ((w.alloc (.cells (GMsg.enc x).toArray 70)).alloc (.cells (GMsg.enc default).toArray 70)) ⟨w.heap.size, 0, none⟩ = some x := get?_alloc _ (get?_new _ _)
  have c2 : get? GMsg ((w.alloc (.cells (GMsg.enc x).toArray 70)).alloc (.cells (GMsg.enc default).toArray 70)) ⟨w.heap.size + 1, 0, none⟩ = some default := by
    have := get?_new (w := w.alloc (.cells (GMsg.enc x).toArray 70)) 70 (default : GMsg)
    rwa [World.size_alloc] at this
  have b1 : blkFree ((w.alloc (.cells (GMsg.enc x).toArray 70)).alloc (.cells (GMsg.enc default).toArray 70)) w.heap.size = true := by rw [blkFree_past _ _ (by simp)]; exact blkFree_new _ _ rfl
  have b2 : blkFree ((w.alloc (.cells (GMsg.enc x).toArray 70)).alloc (.cells (GMsg.enc default).toArray 70)) (w.heap.size + 1) = true := blkFree_new _ _ (by simp)
  have HB := Lib.hid (((Bel.refl w).alloc (.cells (GMsg.enc x).toArray 70)).alloc (.cells (GMsg.enc default).toArray 70))
  go_upto_region 1 with fail
  obtain ⟨q, hq⟩ : ∃ q, w.heap.size = q := ⟨_, rfl⟩
  have HQ := Lib.hid hq
  rw [hq] at c1 c2 b1 b2 ⊢
  generalize (w.alloc (.cells (GMsg.enc x).toArray 70)).alloc (.cells (GMsg.enc default).toArray 70) = wa at c1 c2 b1 b2 HB ⊢
  have C1 := Lib.hid c1; have C2 := Lib.hid c2; have B1 := Lib.hid b1; have B2 := Lib.hid b2
  clear c1 c2 b1 b2 hq
  refine wp_region_G GB [10, 12, 14] GB.rf (by kernel_rfl) ?_
  refine wpG_looks 5 15 [0, 1, 2, 3, 4, 5, 6, 7, 8, 9] rfl GB.rf GB.tr (by kernel_rfl) (fun _ _ _ _ hd h => And.intro (hd ▸ And.left h) (And.right h)) rfl (by kernel_rfl) ?_
  intro ι W hne CW
  have k0 := GMsg.at_cert C1.out
  simp only [Addr.add_lit, Nat.zero_add] at k0
  have j0 := fun z => GB.get (CW.out z) k0
  have k1 := GMsg.at_promise C1.out
  simp only [Addr.add_lit, Nat.zero_add] at k1
  have j1 := fun z => GB.get (CW.out z) k1
  have k2 := GMsg.at_opening C1.out
  simp only [Addr.add_lit, Nat.zero_add] at k2
  have j2 := fun z => GB.get (CW.out z) k2
  refine wpLooksG_step (fun K hK => ?_); go_simp; refine hK _ ?_; clear hK K
  refine wpLooksG_step (fun K hK => ?_); go_simp; refine hK _ ?_; clear hK K
  refine wpLooksG_step (fun K hK => ?_)
  go_simp
  refine ⟨_, fun z => cert0_any x.cert (W z) HX.out.c, hK _ ?_⟩
  clear hK K
  refine wpLooksG_step (fun K hK => ?_); go_simp; refine hK _ ?_; clear hK K
  refine wpLooksG_step (fun K hK => ?_); go_simp; refine hK _ ?_; clear hK K
  refine wpLooksG_step (fun K hK => ?_)
  go_simp
  refine ⟨_, fun z => promC0_any x.promise (W z) HX.out.p, hK _ ?_⟩
  clear hK K
  refine wpLooksG_step (fun K hK => ?_); go_simp; refine hK _ ?_; clear hK K
  refine wpLooksG_step (fun K hK => ?_); go_simp; refine hK _ ?_; clear hK K
  refine wpLooksG_step (fun K hK => ?_)
  go_simp
  refine ⟨_, fun z => open0_any x.opening (W z) HX.out.o, hK _ ?_⟩
  clear hK K
  refine wpLooksG_step (fun K hK => ?_); go_simp; refine hK _ ?_; clear hK K
  refine wpLooksG_nil ?_
  clear k0 k1 k2 j0 j1 j2 CW hne W ι
  refine wpG_force 10 _ rfl (by kernel_rfl) rfl fun w10 hw10 K hK => ?_
  have hb10 : GB wa w10 := GB.undrew hw10
  have m10 := GMsg.at_cert (GB.get hb10 C1.out)
  simp only [Addr.add_lit, Nat.zero_add] at m10
  have n10 := (blkFree_keep (Below.block hb10 _ (get?_lt C1.out))).trans B1.out
  go_simp
  refine hK _ _ (fun h => absurd (by simp) h) ?_
  clear hK K
  have e10 : World.putCells w10 ⟨q, 78, none⟩ (GCert.enc x.cert) = w10 := put_id m10
  rw [e10]
  clear e10 m10 n10
  refine wpG_force 11 _ rfl (by kernel_rfl) rfl fun w11 hw11 K hK => ?_
  have hb11 : GB wa w11 := GB.tr _ _ _ hb10 hw11
  go_simp
  refine hK _ _ (fun _ => GB.rf _) ?_
  clear hK K
  refine wpG_force 12 _ rfl (by kernel_rfl) rfl fun w12 hw12 K hK => ?_
  have hb12 : GB wa w12 := GB.tr _ _ _ hb11 hw12
  have m12 := GMsg.at_promise (GB.get hb12 C1.out)
  simp only [Addr.add_lit, Nat.zero_add] at m12
  have n12 := (blkFree_keep (Below.block hb12 _ (get?_lt C1.out))).trans B1.out
  go_simp
  refine hK _ _ (fun h => absurd (by simp) h) ?_
  clear hK K
  have e12 : World.putCells w12 ⟨q, 157, none⟩ (GPromise.enc x.promise) = w12 := put_id m12
  rw [e12]
  clear e12 m12 n12
  refine wpG_force 13 _ rfl (by kernel_rfl) rfl fun w13 hw13 K hK => ?_
  have hb13 : GB wa w13 := GB.tr _ _ _ hb12 hw13
  go_simp
  refine hK _ _ (fun _ => GB.rf _) ?_
  clear hK K
  refine wpG_force 14 _ rfl (by kernel_rfl) rfl fun w14 hw14 K hK => ?_
  have hb14 : GB wa w14 := GB.tr _ _ _ hb13 hw14
  have m14 := GMsg.at_opening (GB.get hb14 C1.out)
  simp only [Addr.add_lit, Nat.zero_add] at m14
  have n14 := (blkFree_keep (Below.block hb14 _ (get?_lt C1.out))).trans B1.out
  go_simp
  refine hK _ _ (fun h => absurd (by simp) h) ?_
  clear hK K
  have e14 : World.putCells w14 ⟨q, 248, none⟩ (GOpening.enc x.opening) = w14 := put_id m14
  rw [e14]
  clear e14 m14 n14
  refine wpG_end (by kernel_rfl) (fun wn hwn => ?_) _
  have HBN := Lib.hid (GB.tr _ _ _ hb14 hwn)
  have D1 := Lib.hid (GB.get HBN.out C1.out)
  have D2 := Lib.hid (GB.get HBN.out C2.out)
  have DB1 := Lib.hid ((blkFree_keep (Below.block HBN.out _ (get?_lt C1.out))).trans B1.out)
  have DB2 := Lib.hid ((blkFree_keep (Below.block HBN.out _ (get?_lt C2.out))).trans B2.out)
  clear hwn hb10 hb11 hb12 hb13 hb14 hw10 hw11 hw12 hw13 hw14 C1 C2 B1 B2
  have p1 := GProposal.at_batch (GMsg.at_proposal D1.out)
  simp only [Addr.add_lit, Nat.zero_add, Nat.reduceAdd] at p1
  go_wp2_with fail
  refine (batch0_any x.proposal.batch wn HX.out.b).mono ?_
  rintro _ wp ⟨rfl, hbp⟩
  have HBP := Lib.hid (Bel.trans HBN.out hbp)
  have E1 := Lib.hid (GB.get hbp D1.out); have E2 := Lib.hid (GB.get hbp D2.out)
  have EB1 := Lib.hid ((blkFree_keep (Below.block hbp _ (get?_lt D1.out))).trans DB1.out)
  have EB2 := Lib.hid ((blkFree_keep (Below.block hbp _ (get?_lt D2.out))).trans DB2.out)
  clear hbp p1 D1 D2 DB1 DB2 HBN
  have p1 := GProposal.at_batch (GMsg.at_proposal E1.out)
  simp only [Addr.add_lit, Nat.zero_add, Nat.reduceAdd] at p1
  have eb1 := EB1.out
  have ep : World.putCells wp ⟨q, 167, none⟩ (GBatch.enc x.proposal.batch) = wp := put_id p1
  go_wp2_with fail
  clear p1 eb1 ep
  refine wp_region_G GB [10, 13] GB.rf (by kernel_rfl) ?_
  refine wpG_looks 5 14 [0, 1, 2, 3, 4, 5, 6, 7, 8] rfl GB.rf GB.tr (by kernel_rfl) (fun _ _ _ _ hd h => And.intro (hd ▸ And.left h) (And.right h)) rfl (by kernel_rfl) ?_
  intro ι W hne CW
  have k0 := GDecided.at_batch (GMsg.at_decided E1.out)
  simp only [Addr.add_lit, Nat.zero_add] at k0
  have j0 := fun z => GB.get (CW.out z) k0
  have k1 := GDecided.at_votes (GMsg.at_decided E1.out)
  simp only [Addr.add_lit, Nat.zero_add] at k1
  rw [HX.out.v] at k1
  have j1 := fun z => GB.cell (CW.out z) k1
  refine wpLooksG_step (fun K hK => ?_); go_simp; refine hK _ ?_; clear hK K
  refine wpLooksG_step (fun K hK => ?_); go_simp; refine hK _ ?_; clear hK K
  refine wpLooksG_step (fun K hK => ?_); go_simp; refine hK _ ?_; clear hK K
  refine wpLooksG_step (fun K hK => ?_)
  go_simp
  refine ⟨_, fun z => batch0_any x.decided.batch (W z) HX.out.d, hK _ ?_⟩
  clear hK K
  refine wpLooksG_step (fun K hK => ?_); go_simp; refine hK _ ?_; clear hK K
  refine wpLooksG_step (fun K hK => ?_); go_simp; refine hK _ ?_; clear hK K
  refine wpLooksG_step (fun K hK => ?_); go_simp; refine hK _ ?_; clear hK K
  refine wpLooksG_step (fun K hK => ?_)
  go_simp
  refine ⟨_, fun z => quietG (copied0Vote_any _ _) (fun _ _ h => h), hK _ ?_⟩
  clear hK K
  refine wpLooksG_step (fun K hK => ?_); go_simp; refine hK _ ?_; clear hK K
  refine wpLooksG_nil ?_
  clear k0 k1 j0 j1 CW hne W ι
  refine wpG_force 9 _ rfl (by kernel_rfl) rfl fun w9 hw9 K hK => ?_
  have hb9 : GB wp w9 := GB.undrew hw9
  go_simp
  refine hK _ _ (fun _ => GB.rf _) ?_
  clear hK K
  refine wpG_force 10 _ rfl (by kernel_rfl) rfl fun w10 hw10 K hK => ?_
  have hb10 : GB wp w10 := GB.tr _ _ _ hb9 hw10
  have m10 := GDecided.at_batch (GMsg.at_decided (GB.get hb10 E1.out))
  simp only [Addr.add_lit, Nat.zero_add] at m10
  have n10 := (blkFree_keep (Below.block hb10 _ (get?_lt E1.out))).trans EB1.out
  go_simp
  refine hK _ _ (fun h => absurd (by simp) h) ?_
  clear hK K
  have e10 : World.putCells w10 ⟨q, 289, none⟩ (GBatch.enc x.decided.batch) = w10 := put_id m10
  rw [e10]
  clear e10 m10 n10
  refine wpG_force 11 _ rfl (by kernel_rfl) rfl fun w11 hw11 K hK => ?_
  have hb11 : GB wp w11 := GB.tr _ _ _ hb10 hw11
  go_simp
  refine hK _ _ (fun _ => GB.rf _) ?_
  clear hK K
  refine wpG_force 12 _ rfl (by kernel_rfl) rfl fun w12 hw12 K hK => ?_
  have hb12 : GB wp w12 := GB.tr _ _ _ hb11 hw12
  go_simp
  refine hK _ _ (fun _ => GB.rf _) ?_
  clear hK K
  refine wpG_force 13 _ rfl (by kernel_rfl) rfl fun w13 hw13 K hK => ?_
  have hb13 : GB wp w13 := GB.tr _ _ _ hb12 hw13
  have m13 := GDecided.at_votes (GMsg.at_decided (GB.get hb13 E1.out))
  simp only [Addr.add_lit, Nat.zero_add, Nat.reduceAdd] at m13
  rw [HX.out.v] at m13
  have n13 : w13.frozen? ⟨q, 294, none⟩ = false := frozen_of_free ((blkFree_keep (Below.block hb13 _ (get?_lt E1.out))).trans EB1.out)
  go_simp
  refine hK _ _ (fun h => absurd (by simp) h) ?_
  clear hK K
  have e13 : w13.setCell ⟨q, 294, none⟩ (.slice none 0 0) = w13 := setCell_id m13
  rw [e13]
  clear e13 m13 n13
  refine wpG_end (by kernel_rfl) (fun wn2 hwn => ?_) _
  have HBN2 := Lib.hid (GB.tr _ _ _ hb13 hwn)
  have d1 := GB.get HBN2.out E1.out
  have d2 := GB.get HBN2.out E2.out
  have db2 := (blkFree_keep (Below.block HBN2.out _ (get?_lt E2.out))).trans EB2.out
  clear hwn hb9 hb10 hb11 hb12 hb13 hw9 hw10 hw11 hw12 hw13
  go_wp2_with fail
  have v2 : get? GMsg (World.putCells wn2 ⟨q + 1, 0, none⟩ (GMsg.enc x)) ⟨q + 1, 0, none⟩ = some x := get?_putV _ d2
  refine bodyPost_ret (results_cell (x := x) rfl rfl ag70 sz70 v2) rfl ⟨?_, ?_⟩
  · simp only [GMsg.val_eq]
  · exact Chg.bel2 (HB.out.trans (Bel.trans HBP.out HBN2.out)) (chg_put (S := fun k => k = q + 1) rfl _) (fun k e => by rw [e, HQ.out]; omega)
end Go.Proofs.YtfhhcgldikmejaaGreatDoor
/- A replica in memory, while nothing was decided. Conditions: those named in each theorem. -/
namespace Go.Proofs.YtfhhcgldikmejaaGreatDoor
open Go Go.RowKit Go.Gv Go.Proofs

/-- What a replica holds, while its log is empty and no certificate, opening or proposal has come. -/
structure RSt where
  c : GConf
  id : Int
  started : Bool
  now : Int
  floor : Int
  last : Int
  stamps : List (GName × GStamp)
  s : GCoreState
  b1 : Bool
  b2 : Bool
  b3 : Bool
  H : List (GTallyVoter × Bool)
  A : List (GTallyTurn × Int)
  L : List (Int × Int)
  timers : List GReplicaTimer
  asks : Bool
  askRound : Int
  askTime : Int
  promises : List GPromise
  pv : Option (Nat × GVote)
  ho : Hdr
  out : List GMsg
  book : MBook
  kept : Nat → Option Obj
def ptrV (o : Option (Nat × GVote)) : Option Addr := o.map fun p => ⟨p.1, 0, none⟩
/-- The first blocks are unlike all the others. -/
def Apart (B : Nat → Nat) : Prop := ∀ i j, i < 20 → j < 20 → i ≠ j → i ≤ 12 → B i ≠ B j
def repG (B : Nat → Nat) (x : RSt) (a : Option Addr) : GReplicaReplica :=
  ⟨x.c, x.id, some ⟨B 1, 0, none⟩, x.started, some ⟨B 3, 0, none⟩, some ⟨B 5, 0, none⟩, some ⟨B 7, 0, none⟩, some ⟨B 9, 0, none⟩, a, some ⟨B 11, 0, none⟩, ⟨none, 0, 0⟩, ⟨none, 0, 0⟩, x.ho⟩
def epG (B : Nat → Nat) (x : RSt) (bm : Nat) (ht hp : Hdr) : GReplicaEpoch :=
  ⟨some ⟨B 12, 0, none⟩, some bm, some (B 19), ht, x.asks, x.askRound, x.askTime, hp, none, ptrV x.pv, none⟩
structure Slices (w0 w : World) (B : Nat → Nat) (x : RSt) (ht hp : Hdr) : Prop where
  out : OwnS w w0.heap.size 70 x.ho.val x.out
  timers : OwnS w w0.heap.size 141 ht.val x.timers
  proms : OwnS w w0.heap.size 49 hp.val x.promises
  no : ∀ j < 20, x.ho.val.ownBlock ≠ some (B j)
  nt : ∀ j < 20, ht.val.ownBlock ≠ some (B j)
  np : ∀ j < 20, hp.val.ownBlock ≠ some (B j)
  ot : ∀ k, x.ho.val.ownBlock = some k → ht.val.ownBlock ≠ some k ∧ hp.val.ownBlock ≠ some k
  tp : ∀ k, ht.val.ownBlock = some k → hp.val.ownBlock ≠ some k
  pv : ∀ p, x.pv = some p → get? GVote w ⟨p.1, 0, none⟩ = some p.2 ∧ w0.heap.size ≤ p.1 ∧ (∀ j < 20, p.1 ≠ B j) ∧ x.ho.val.ownBlock ≠ some p.1 ∧ ht.val.ownBlock ≠ some p.1 ∧ hp.val.ownBlock ≠ some p.1
  kp : ∀ k o, x.kept k = some o → w.heap[k]? = some o ∧ (∀ j < 20, k ≠ B j) ∧ x.ho.val.ownBlock ≠ some k ∧ ht.val.ownBlock ≠ some k ∧ hp.val.ownBlock ≠ some k
structure RepIs (w0 w : World) (B : Nat → Nat) (x : RSt) : Prop where
  bel : Bel w0 w
  new : ∀ j < 20, w0.heap.size ≤ B j
  lt : ∀ j < 20, B j < w.heap.size
  apart : Apart B
  book : BookIs w (B 1) (B 2) x.book
  st : StampIs w (B 3) (B 4) x.c x.id x.now x.floor x.last x.stamps
  tb : TableIs w (B 5) (B 6) x.c x.id
  led : LedIs w (B 7) (B 8)
  rev : RevIs w (B 9) (B 10) x.c x.id
  core : CoreIs w (B 12) (B 13) (B 14) (B 20) (B 16) (B 17) (B 18) x.c 0 x.id x.s x.b1 x.b2 x.b3 x.H x.A x.L
  pre : mapAt GReplicaVoter GVote w (B 19) = some []
  more : ∃ (a : Option Addr) (bm : Nat) (ht hp : Hdr), get? GReplicaReplica w ⟨B 0, 0, none⟩ = some (repG B x a) ∧ blkFree w (B 0) = true ∧ get? GReplicaEpoch w ⟨B 11, 0, none⟩ = some (epG B x bm ht hp) ∧ blkFree w (B 11) = true ∧ Slices w0 w B x ht hp
section
variable {w0 w w' : World} {B : Nat → Nat} {x : RSt} {ht hp : Hdr}
theorem some_lt {w : World} {k : Nat} {o : Obj} (h : w.heap[k]? = some o) : k < w.heap.size := (Array.getElem?_eq_some_iff.1 h).1
theorem Slices.chg {S : Nat → Prop} (h : Slices w0 w B x ht hp) (hc : Chg S w w') (h1 : ∀ k, x.ho.val.ownBlock = some k → ¬ S k) (h2 : ∀ k, ht.val.ownBlock = some k → ¬ S k) (h3 : ∀ k, hp.val.ownBlock = some k → ¬ S k) (h4 : ∀ p, x.pv = some p → ¬ S p.1) (h5 : ∀ k o, x.kept k = some o → ¬ S k) : Slices w0 w' B x ht hp :=
  ⟨h.out.chg hc h1, h.timers.chg hc h2, h.proms.chg hc h3, h.no, h.nt, h.np, h.ot, h.tp, fun p e => ⟨hc.get (h.pv p e).1 (h4 p e), (h.pv p e).2⟩, fun k o e => ⟨(hc.block k (some_lt (h.kp k o e).1) (h5 k o e)).trans (h.kp k o e).1, (h.kp k o e).2⟩⟩
theorem Slices.with {y : RSt} (h : Slices w0 w B x ht hp) (e1 : y.out = x.out) (e2 : y.timers = x.timers) (e3 : y.promises = x.promises) (e4 : y.pv = x.pv) (e5 : y.ho = x.ho) (e6 : y.kept = x.kept := by rfl) : Slices w0 w B y ht hp := by
  obtain ⟨g1, g2, g3, g4, g5, g6, g7, g8, g9, g10⟩ := h
  exact ⟨by rw [e5, e1]; exact g1, e2 ▸ g2, e3 ▸ g3, by rw [e5]; exact g4, g5, g6, by rw [e5]; exact g7, g8, by rw [e5, e4]; exact g9, by rw [e5, e6]; exact g10⟩
theorem Slices.one {i : Nat} (h : Slices w0 w B x ht hp) (hc : Chg (fun k => k = B i) w w') (hi : i < 20) : Slices w0 w' B x ht hp :=
  h.chg hc (fun k e he => h.no i hi (by rw [e, he])) (fun k e he => h.nt i hi (by rw [e, he])) (fun k e he => h.np i hi (by rw [e, he])) (fun p e he => (h.pv p e).2.2.1 i hi he) (fun k o e he => (h.kp k o e).2.1 i hi he)
theorem RepIs.step (h : RepIs w0 w B x) (hb : Bel w w') : RepIs w0 w' B x := by
  obtain ⟨a, bm, ht, hp, h1, h2, h3, h4, h5⟩ := h.more
  have hc : Chg (fun _ => False) w w' := Chg.of_bel hb _
  exact ⟨h.bel.trans hb, h.new, fun j hj => Nat.lt_of_lt_of_le (h.lt j hj) hc.size, h.apart, h.book.step hb, h.st.step hb, h.tb.step hb, h.led.step hb, h.rev.step hb, h.core.step hb, hc.map h.pre id, a, bm, ht, hp, GB.get hb h1, hc.free h2 (get?_lt h1) id, GB.get hb h3, hc.free h4 (get?_lt h3) id, h5.chg hc (fun _ _ h => h) (fun _ _ h => h) (fun _ _ h => h) (fun _ _ h => h) (fun _ _ _ h => h)⟩
/-- What one written block's change leaves alone. -/
theorem RepIs.ne (h : RepIs w0 w B x) {i : Nat} (hi : i ≤ 12) (j : Nat) (hj : j < 20) (hne : j ≠ i) : ¬ B j = B i :=
  fun e => h.apart i j (by omega) hj (fun e => hne e.symm) hi e.symm
theorem RepIs.withBook (h : RepIs w0 w B x) {b : MBook} (hb : BookIs w' (B 1) (B 2) b) (hc : Chg (fun k => k = B 2) w w') : RepIs w0 w' B { x with book := b } := by
  obtain ⟨a, bm, ht, hp, h1, h2, h3, h4, h5⟩ := h.more
  have n := h.ne (i := 2) (by omega)
  exact ⟨Chg.bel2 h.bel hc (fun k e => e ▸ h.new 2 (by omega)), h.new, fun j hj => Nat.lt_of_lt_of_le (h.lt j hj) hc.size, h.apart, hb, h.st.chg hc (n 3 (by omega) (by omega)) (n 4 (by omega) (by omega)), h.tb.chg hc (n 5 (by omega) (by omega)) (n 6 (by omega) (by omega)), h.led.chg hc (n 7 (by omega) (by omega)) (n 8 (by omega) (by omega)),
    h.rev.chg hc (n 9 (by omega) (by omega)) (n 10 (by omega) (by omega)), h.core.chg hc (n 12 (by omega) (by omega)) (n 13 (by omega) (by omega)) (n 18 (by omega) (by omega)) (n 14 (by omega) (by omega)) (n 16 (by omega) (by omega)) (n 17 (by omega) (by omega)), hc.map h.pre (n 19 (by omega) (by omega)),
    a, bm, ht, hp, hc.get h1 (n 0 (by omega) (by omega)), hc.free h2 (get?_lt h1) (n 0 (by omega) (by omega)), hc.get h3 (n 11 (by omega) (by omega)), hc.free h4 (get?_lt h3) (n 11 (by omega) (by omega)), (h5.one hc (by omega)).with rfl rfl rfl rfl rfl⟩
theorem RepIs.withOut (h : RepIs w0 w B x) {ho : Hdr} {l : List GMsg} (hc : Chg (fun k => k = B 0 ∨ x.ho.val.ownBlock = some k) w w') (hg : ∀ a, get? GReplicaReplica w ⟨B 0, 0, none⟩ = some (repG B x a) → get? GReplicaReplica w' ⟨B 0, 0, none⟩ = some (repG B { x with ho := ho } a)) (hf : blkFree w' (B 0) = true) (ho1 : OwnS w' w0.heap.size 70 ho.val l)
    (hb : ho.val.ownBlock = none ∨ ho.val.ownBlock = x.ho.val.ownBlock ∨ ∃ k, ho.val.ownBlock = some k ∧ w.heap.size ≤ k) : RepIs w0 w' B { x with ho := ho, out := l } := by
  obtain ⟨a, bm, ht, hp, h1, h2, h3, h4, h5⟩ := h.more
  have n := fun (j : Nat) (hj : j < 20) (hne : j ≠ 0) => show ¬ (B j = B 0 ∨ x.ho.val.ownBlock = some (B j)) from fun e => e.elim (h.ne (i := 0) (by omega) j hj hne) (h5.no j hj)
  have hnew : ∀ k, (k = B 0 ∨ x.ho.val.ownBlock = some k) → w0.heap.size ≤ k := fun k e => e.elim (fun e => e ▸ h.new 0 (by omega)) (fun e => (h5.out.lt k e).1)
  refine ⟨Chg.bel2 h.bel hc hnew, h.new, fun j hj => Nat.lt_of_lt_of_le (h.lt j hj) hc.size, h.apart, h.book.chg hc (n 1 (by omega) (by omega)) (n 2 (by omega) (by omega)), h.st.chg hc (n 3 (by omega) (by omega)) (n 4 (by omega) (by omega)), h.tb.chg hc (n 5 (by omega) (by omega)) (n 6 (by omega) (by omega)), h.led.chg hc (n 7 (by omega) (by omega)) (n 8 (by omega) (by omega)),
    h.rev.chg hc (n 9 (by omega) (by omega)) (n 10 (by omega) (by omega)), h.core.chg hc (n 12 (by omega) (by omega)) (n 13 (by omega) (by omega)) (n 18 (by omega) (by omega)) (n 14 (by omega) (by omega)) (n 16 (by omega) (by omega)) (n 17 (by omega) (by omega)), hc.map h.pre (n 19 (by omega) (by omega)),
    a, bm, ht, hp, hg a h1, hf, hc.get h3 (n 11 (by omega) (by omega)), hc.free h4 (get?_lt h3) (n 11 (by omega) (by omega)), ?_⟩
  have ot : ∀ k, x.ho.val.ownBlock = some k → ht.val.ownBlock ≠ some k ∧ hp.val.ownBlock ≠ some k := h5.ot
  refine ⟨ho1, h5.timers.chg hc ?_, h5.proms.chg hc ?_, ?_, h5.nt, h5.np, ?_, h5.tp, fun p e => ?_, fun k o e => ?_⟩
  · intro k e e2
    rcases e2 with e2 | e2
    · exact h5.nt 0 (by omega) (by rw [e, e2])
    · exact (ot k e2).1 e
  · intro k e e2
    rcases e2 with e2 | e2
    · exact h5.np 0 (by omega) (by rw [e, e2])
    · exact (ot k e2).2 e
  · intro j hj e
    change ho.val.ownBlock = some (B j) at e
    rcases hb with hb | hb | ⟨k, hk, hlt⟩
    · rw [hb] at e; cases e
    · rw [hb] at e; exact h5.no j hj e
    · rw [hk] at e; injection e with e; have := h.lt j hj; omega
  · intro k e
    change ho.val.ownBlock = some k at e
    rcases hb with hb | hb | ⟨k', hk, hlt⟩
    · rw [hb] at e; cases e
    · rw [hb] at e; exact ot k e
    · rw [hk] at e; injection e with e; subst e
      exact ⟨fun e => by have := (h5.timers.lt _ e).2; omega, fun e => by have := (h5.proms.lt _ e).2; omega⟩
  · obtain ⟨p1, p2, p3, p4, p5, p6⟩ := h5.pv p e
    refine ⟨hc.get p1 ?_, p2, p3, ?_, p5, p6⟩
    · rintro (e | e)
      · exact p3 0 (by omega) e
      · exact p4 e
    · intro e
      change ho.val.ownBlock = some p.1 at e
      rcases hb with hb | hb | ⟨k', hk, hlt⟩
      · rw [hb] at e; cases e
      · rw [hb] at e; exact p4 e
      · rw [hk] at e; injection e with e; have := get?_lt p1; simp only at this; omega
  · obtain ⟨p1, p3, p4, p5, p6⟩ := h5.kp k o e
    refine ⟨(hc.block k (some_lt p1) ?_).trans p1, p3, ?_, p5, p6⟩
    · rintro (e | e)
      · exact p3 0 (by omega) e
      · exact p4 e
    · intro e
      change ho.val.ownBlock = some k at e
      rcases hb with hb | hb | ⟨k', hk, hlt⟩
      · rw [hb] at e; cases e
      · rw [hb] at e; exact p4 e
      · rw [hk] at e; injection e with e; have := some_lt p1; omega
theorem RepIs.withStamp (h : RepIs w0 w B x) {now floor last : Int} {l : List (GName × GStamp)} (hs : StampIs w' (B 3) (B 4) x.c x.id now floor last l) (hc : Chg (fun k => k = B 3) w w') : RepIs w0 w' B { x with now := now, floor := floor, last := last, stamps := l } := by
  obtain ⟨a, bm, ht, hp, h1, h2, h3, h4, h5⟩ := h.more
  have n := h.ne (i := 3) (by omega)
  exact ⟨Chg.bel2 h.bel hc (fun k e => e ▸ h.new 3 (by omega)), h.new, fun j hj => Nat.lt_of_lt_of_le (h.lt j hj) hc.size, h.apart, h.book.chg hc (n 1 (by omega) (by omega)) (n 2 (by omega) (by omega)), hs, h.tb.chg hc (n 5 (by omega) (by omega)) (n 6 (by omega) (by omega)), h.led.chg hc (n 7 (by omega) (by omega)) (n 8 (by omega) (by omega)),
    h.rev.chg hc (n 9 (by omega) (by omega)) (n 10 (by omega) (by omega)), h.core.chg hc (n 12 (by omega) (by omega)) (n 13 (by omega) (by omega)) (n 18 (by omega) (by omega)) (n 14 (by omega) (by omega)) (n 16 (by omega) (by omega)) (n 17 (by omega) (by omega)), hc.map h.pre (n 19 (by omega) (by omega)),
    a, bm, ht, hp, hc.get h1 (n 0 (by omega) (by omega)), hc.free h2 (get?_lt h1) (n 0 (by omega) (by omega)), hc.get h3 (n 11 (by omega) (by omega)), hc.free h4 (get?_lt h3) (n 11 (by omega) (by omega)), (h5.one hc (by omega)).with rfl rfl rfl rfl rfl⟩
theorem RepIs.withCore (h : RepIs w0 w B x) {s : GCoreState} {b1 b2 b3 : Bool} {H : List (GTallyVoter × Bool)} {A : List (GTallyTurn × Int)} {L : List (Int × Int)} (hs : CoreIs w' (B 12) (B 13) (B 14) (B 20) (B 16) (B 17) (B 18) x.c 0 x.id s b1 b2 b3 H A L) (hc : Chg (fun k => k = B 12) w w') : RepIs w0 w' B { x with s := s, b1 := b1, b2 := b2, b3 := b3, H := H, A := A, L := L } := by
  obtain ⟨a, bm, ht, hp, h1, h2, h3, h4, h5⟩ := h.more
  have n := h.ne (i := 12) (by omega)
  exact ⟨Chg.bel2 h.bel hc (fun k e => e ▸ h.new 12 (by omega)), h.new, fun j hj => Nat.lt_of_lt_of_le (h.lt j hj) hc.size, h.apart, h.book.chg hc (n 1 (by omega) (by omega)) (n 2 (by omega) (by omega)), h.st.chg hc (n 3 (by omega) (by omega)) (n 4 (by omega) (by omega)), h.tb.chg hc (n 5 (by omega) (by omega)) (n 6 (by omega) (by omega)), h.led.chg hc (n 7 (by omega) (by omega)) (n 8 (by omega) (by omega)),
    h.rev.chg hc (n 9 (by omega) (by omega)) (n 10 (by omega) (by omega)), hs, hc.map h.pre (n 19 (by omega) (by omega)),
    a, bm, ht, hp, hc.get h1 (n 0 (by omega) (by omega)), hc.free h2 (get?_lt h1) (n 0 (by omega) (by omega)), hc.get h3 (n 11 (by omega) (by omega)), hc.free h4 (get?_lt h3) (n 11 (by omega) (by omega)), (h5.one hc (by omega)).with rfl rfl rfl rfl rfl⟩
end
end Go.Proofs.YtfhhcgldikmejaaGreatDoor
/- A replica's own small functions; what it says. Conditions: those named in each theorem. -/
namespace Go.Proofs.YtfhhcgldikmejaaGreatDoor
open Go Go.RowKit Go.Gv Go.Proofs

theorem rep_out (x : GReplicaReplica) (h : Hdr) : Enc.enc ({ x with out := h } : GReplicaReplica) = (Enc.enc x).set 13 (.slice h.a h.len h.cap) := by
  show GReplicaReplica.enc _ = (GReplicaReplica.enc _).set _ _
  simp [GReplicaReplica.enc, GConf.enc_len, Hdr.val]
theorem rep_other {w : World} {B : Nat → Nat} {x : RSt} {w0 : World} (h : RepIs w0 w B x) : blkFree w (B 0) = true ∧ ∃ a, get? GReplicaReplica w ⟨B 0, 0, none⟩ = some (repG B x a) := by
  obtain ⟨a, _, _, _, h1, h2, _⟩ := h.more
  exact ⟨h2, a, h1⟩
theorem rep_own {w : World} {B : Nat → Nat} {x : RSt} {w0 : World} (h : RepIs w0 w B x) : OwnS w w0.heap.size 70 x.ho.val x.out ∧ ∀ j < 20, x.ho.val.ownBlock ≠ some (B j) := by
  obtain ⟨_, _, _, _, _, _, _, _, h5⟩ := h.more
  exact ⟨h5.out, h5.no⟩
set_option maxRecDepth 100000 in
set_option maxHeartbeats 1000000 in
theorem told_any (w0 : World) (B : Nat → Nat) (x : RSt) (w : World) (h : RepIs w0 w B x) : Calls Tryz.prog 25 #[.pointer (some ⟨B 0, 0, none⟩)] w fun e w' =>
    e = .returned (.slice x.ho.a x.ho.len x.ho.cap) ∧ RepIs w0 w' B { x with ho := nilH, out := [] } ∧ OwnS w' w0.heap.size 70 x.ho.val x.out ∧ Chg (fun k => k = B 0) w w' := by
  have HH := Lib.hid h
  obtain ⟨hfr, a, hg⟩ := rep_other h
  have HG := Lib.hid hg; have HF := Lib.hid hfr
  have f0 := GReplicaReplica.at_out hg
  simp only [Addr.add_lit, Nat.zero_add] at f0
  change w.cell? ⟨B 0, 13, none⟩ = some (.slice x.ho.a x.ho.len x.ho.cap) at f0
  have hfz := frozen_of_free (a := ⟨B 0, 13, none⟩) hfr
  clear h hg hfr
  go_enter Tryz.func25, Tryz.ntmps25
  go_wp2_with fail
  go_ret
  have hc : Chg (fun k => k = B 0) w (w.setCell ⟨B 0, 13, none⟩ (.slice none 0 0)) := chg_cell (S := fun k => k = B 0) rfl _
  refine ⟨rfl, ?_, ?_, hc⟩
  · refine HH.out.withOut (ho := nilH) (l := []) (hc.sub (fun k e => .inl e)) (fun a ha => get?_poke ha (rep_out (repG B x a) nilH)) (by rw [blkFree_setCell]; exact HF.out) (OwnS.nil _ _ _) (.inl rfl)
  · exact (rep_own HH.out).1.chg hc (fun k e he => (rep_own HH.out).2 0 (by omega) (by rw [e, he]))
set_option maxRecDepth 100000 in
set_option maxHeartbeats 1000000 in
theorem repNow_any (w0 : World) (B : Nat → Nat) (x : RSt) (w : World) (h : RepIs w0 w B x) : Calls Tryz.prog 15 #[.pointer (some ⟨B 0, 0, none⟩)] w fun e w' =>
    e = .returned (.int .u64 x.now) ∧ w' = w := by
  have HH := Lib.hid h
  obtain ⟨hfr, a, hg⟩ := rep_other h
  have f0 := GReplicaReplica.at_s hg
  simp only [Addr.add_lit, Nat.zero_add] at f0
  change w.cell? ⟨B 0, 5, none⟩ = some (.pointer (some ⟨B 3, 0, none⟩)) at f0
  clear h hg hfr
  go_enter Tryz.func15, Tryz.ntmps15
  go_wp2_with fail
  refine (now_any (B 3) (B 4) x.c x.id x.now x.floor x.last x.stamps w HH.out.st).mono ?_
  rintro _ wa ⟨rfl, rfl⟩
  go_wp2_with fail
  go_ret
  exact ⟨rfl, rfl⟩
theorem ep_get {w : World} {B : Nat → Nat} {x : RSt} {w0 : World} (h : RepIs w0 w B x) : blkFree w (B 11) = true ∧ ∃ bm ht hp, get? GReplicaEpoch w ⟨B 11, 0, none⟩ = some (epG B x bm ht hp) := by
  obtain ⟨_, bm, ht, hp, _, _, h3, h4, _⟩ := h.more
  exact ⟨h4, bm, ht, hp, h3⟩
theorem rep_cells {w0 w : World} {B : Nat → Nat} {x : RSt} (h : RepIs w0 w B x) : w.cell? ⟨B 0, 2, none⟩ = some (.int .i64 x.id) ∧ w.cell? ⟨B 0, 3, none⟩ = some (.pointer (some ⟨B 1, 0, none⟩)) ∧ w.cell? ⟨B 0, 4, none⟩ = some (.bool x.started) ∧
    w.cell? ⟨B 0, 5, none⟩ = some (.pointer (some ⟨B 3, 0, none⟩)) ∧ w.cell? ⟨B 0, 6, none⟩ = some (.pointer (some ⟨B 5, 0, none⟩)) ∧ w.cell? ⟨B 0, 7, none⟩ = some (.pointer (some ⟨B 7, 0, none⟩)) ∧ w.cell? ⟨B 0, 8, none⟩ = some (.pointer (some ⟨B 9, 0, none⟩)) ∧
    w.cell? ⟨B 0, 10, none⟩ = some (.pointer (some ⟨B 11, 0, none⟩)) ∧ w.cell? ⟨B 0, 13, none⟩ = some (.slice x.ho.a x.ho.len x.ho.cap) ∧ get? GConf w ⟨B 0, 0, none⟩ = some x.c := by
  obtain ⟨hfr, a, hg⟩ := rep_other h
  have f0 := GReplicaReplica.at_id hg
  have f1 := GReplicaReplica.at_b hg
  have f2 := GReplicaReplica.at_started hg
  have f3 := GReplicaReplica.at_s hg
  have f4 := GReplicaReplica.at_t hg
  have f5 := GReplicaReplica.at_l hg
  have f6 := GReplicaReplica.at_v hg
  have f7 := GReplicaReplica.at_e hg
  have f8 := GReplicaReplica.at_out hg
  have f9 := GReplicaReplica.at_c hg
  simp only [Addr.add_lit, Nat.zero_add] at f0 f1 f2 f3 f4 f5 f6 f7 f8 f9
  exact ⟨f0, f1, f2, f3, f4, f5, f6, f7, f8, f9⟩
theorem ep_cells {w0 w : World} {B : Nat → Nat} {x : RSt} (h : RepIs w0 w B x) : w.cell? ⟨B 11, 0, none⟩ = some (.pointer (some ⟨B 12, 0, none⟩)) ∧ w.cell? ⟨B 11, 4, none⟩ = some (.bool x.asks) ∧ w.cell? ⟨B 11, 5, none⟩ = some (.int .i64 x.askRound) ∧
    w.cell? ⟨B 11, 6, none⟩ = some (.int .u64 x.askTime) := by
  obtain ⟨hfr, bm, ht, hp, hg⟩ := ep_get h
  have f0 := GReplicaEpoch.at_k hg
  have f1 := GReplicaEpoch.at_asks hg
  have f2 := GReplicaEpoch.at_askRound hg
  have f3 := GReplicaEpoch.at_askTime hg
  simp only [Addr.add_lit, Nat.zero_add] at f0 f1 f2 f3
  exact ⟨f0, f1, f2, f3⟩
set_option maxRecDepth 100000 in
set_option maxHeartbeats 1000000 in
theorem round_any (w0 : World) (B : Nat → Nat) (x : RSt) (w : World) (h : RepIs w0 w B x) : Calls Tryz.prog 91 #[.pointer (some ⟨B 0, 0, none⟩)] w fun e w' =>
    e = .returned (.int .i64 x.s.round) ∧ Bel w w' := by
  have HH := Lib.hid h
  have k0 := (rep_cells h).2.2.2.2.2.2.2.1
  have k1 := (ep_cells h).1
  clear h
  go_enter Tryz.func91, Tryz.ntmps91
  go_wp2_with fail
  refine (state_any (B 12) (B 13) (B 14) (B 20) (B 16) (B 17) (B 18) x.c 0 x.id x.s x.b1 x.b2 x.b3 x.H x.A x.L w HH.out.core).mono ?_
  rintro _ wb ⟨rfl, hbb⟩
  have HBB := Lib.hid hbb
  clear hbb
  go_wp2_with fail
  go_ret
  exact ⟨rfl, HBB.out⟩
end Go.Proofs.YtfhhcgldikmejaaGreatDoor
/- A replica's say: a message to one. Conditions: those named in each theorem. -/
namespace Go.Proofs.YtfhhcgldikmejaaGreatDoor
open Go Go.RowKit Go.Gv Go.Proofs

def sent (id tq : Int) (m : GMsg) : GMsg := { { m with from_ := id } with «to» := tq }
theorem plain_sent {m : GMsg} (h : PlainM m) (id tq : Int) : PlainM (sent id tq m) := ⟨h.c, h.p, h.o, h.b, h.d, h.v⟩
set_option maxRecDepth 100000 in
set_option maxHeartbeats 4000000 in
theorem say_any (w0 : World) (B : Nat → Nat) (x : RSt) (m : GMsg) (tq : Int) (w : World) (h : RepIs w0 w B x) (hm : PlainM m) (hl : x.out.length ≤ 1000000) : Calls Tryz.prog 62 #[.pointer (some ⟨B 0, 0, none⟩), Value.int .i64 tq, m.val] w fun e w' =>
    e = .returned (.tuple #[]) ∧ ∃ ho, RepIs w0 w' B { x with ho := ho, out := x.out ++ [sent x.id tq m] } ∧ Chg (fun k => k = B 0 ∨ x.ho.val.ownBlock = some k) w w' ∧ (ho.val.ownBlock = none ∨ ho.val.ownBlock = x.ho.val.ownBlock ∨ ∃ k, ho.val.ownBlock = some k ∧ w.heap.size ≤ k) := by
  have HH := Lib.hid h; have HM := Lib.hid (plain_sent hm x.id tq); have HL := Lib.hid hl
  have h1 := h.step ((Bel.refl w).alloc (.cells (GMsg.enc m).toArray 70))
  have k0 := (rep_cells h1).1
  have c1 : get? GMsg (w.alloc (.cells (GMsg.enc m).toArray 70)) ⟨w.heap.size, 0, none⟩ = some m := get?_new _ _
  have b1 : blkFree (w.alloc (.cells (GMsg.enc m).toArray 70)) w.heap.size = true := blkFree_new _ _ rfl
  have hz1 := frozen_of_free (a := ⟨w.heap.size, 1, none⟩) b1
  have hz2 := frozen_of_free (a := ⟨w.heap.size, 2, none⟩) b1
  clear h hm hl h1
  go_enter Tryz.func62, Tryz.ntmps62
  go_upto_region 2 with fail
  have ee : (m.enc.set 1 (.int .i64 x.id)).set 2 (.int .i64 tq) = GMsg.enc (sent x.id tq m) := rfl
  rw [ee]
  have c2 : get? GMsg (w.alloc (.cells (GMsg.enc (sent x.id tq m)).toArray 70)) ⟨w.heap.size, 0, none⟩ = some (sent x.id tq m) := get?_new _ _
  have hbe : Bel w (w.alloc (.cells (GMsg.enc (sent x.id tq m)).toArray 70)) := (Bel.refl w).alloc _
  clear ee
  clear k0 c1 b1 hz1 hz2
  obtain ⟨q, hq⟩ : ∃ q, w.heap.size = q := ⟨_, rfl⟩
  have HQ := Lib.hid hq
  rw [hq] at c2 ⊢
  generalize w.alloc (.cells (GMsg.enc (sent x.id tq m)).toArray 70) = wa at c2 hbe ⊢
  have C2 := Lib.hid c2; have HBE := Lib.hid hbe
  clear c2 hbe hq
  obtain ⟨M, hM⟩ : ∃ M, sent x.id tq m = M := ⟨_, rfl⟩
  rw [hM] at C2 HM
  have HMM := Lib.hid hM
  clear hM
  have HR := Lib.hid (HH.out.step HBE.out)
  have hoq : ¬ x.ho.val.ownBlock = some q := fun e => by have := ((rep_own HH.out).1.lt q e).2; have := HQ.out; omega
  have hob : ∀ j < 20, ¬ x.ho.val.ownBlock = some (B j) := (rep_own HH.out).2
  have HOQ := Lib.hid hoq; have HOB := Lib.hid hob
  clear hoq hob
  refine wp_region_H GB (Chg (fun k => x.ho.val.ownBlock = some k)) [8, 11] [11] GB.rf (by kernel_rfl) ?_
  refine wpH_looks 6 12 [0, 1, 2, 3, 4, 5] rfl GB.rf GB.tr (Chg.refl _) (fun _ _ _ => Chg.tr) (fun _ _ h => Chg.of_bel h _) (by kernel_rfl) (fun _ _ _ _ hd h => And.intro (hd ▸ And.left h) (And.right h)) rfl (by kernel_rfl) ?_
  intro ι W hne CW
  have k0 : ∀ z, (W z).cell? ⟨B 0, 13, none⟩ = some (.slice x.ho.a x.ho.len x.ho.cap) := fun z => (CW.out z).cell (rep_cells HR.out).2.2.2.2.2.2.2.2.1 (HOB.out 0 (by omega))
  have k1 : ∀ z, get? GMsg (W z) ⟨q, 0, none⟩ = some M := fun z => (CW.out z).get C2.out HOQ.out
  repeat (refine wpLooksG_step (fun K hK => ?_); go_simp; refine hK _ ?_; clear hK K)
  refine wpLooksG_nil ?_
  clear k0 k1 CW hne W ι
  refine wpH_force 6 _ rfl (by kernel_rfl) rfl fun w6 hw6 K hK => ?_
  go_simp
  refine (copy0_any M w6 HM.out).mono ?_
  rintro _ wc ⟨rfl, hbc⟩
  refine hK _ _ (fun _ => hbc) (fun _ => Chg.of_bel hbc _) ?_
  have HBC := Lib.hid (HBE.out.trans ((GB.undrew hw6).trans hbc))
  clear hK K hbc hw6
  refine wpH_force 7 _ rfl (by kernel_rfl) rfl fun w7 hw7 K hK => ?_
  go_simp
  refine hK _ _ (fun _ => GB.al _ _) (fun _ => Chg.of_bel (GB.al _ _) _) ?_
  clear hK K
  have hs : Sl GMsg (w7.alloc (.cells (Enc.enc M).toArray 70)) (w7.alloc (.cells (Enc.enc M).toArray 70)).heap.size (some ⟨w7.heap.size, 0, none⟩) 1 [M] := Sl.new_ (xs := [M]) (by simp) rfl rfl (by simp)
  have hbf : Bel w (w7.alloc (.cells (Enc.enc M).toArray 70)) := (Bel.trans HBC.out hw7).trans ((Bel.refl w7).alloc (.cells (Enc.enc M).toArray 70))
  obtain ⟨p, hp⟩ : ∃ p, w7.heap.size = p := ⟨_, rfl⟩
  rw [hp] at hs ⊢
  change wpH _ _ _ _ _ _ _ _ _ _ _ (w7.alloc (.cells (Enc.enc M).toArray 70))
  generalize w7.alloc (.cells (Enc.enc M).toArray 70) = wg at hs hbf ⊢
  have HS := Lib.hid hs; have HBF := Lib.hid hbf
  clear hs hbf hp hw7
  refine wpH_force 8 _ rfl (by kernel_rfl) rfl fun w8 hw8 K hK => ?_
  have hr8 := HH.out.step (HBF.out.trans hw8)
  obtain ⟨v', w', hrun, ho, hgr, hob⟩ := gAppend_S (P := Tryz.prog) ei30 (rep_own hr8).1 (HS.out.stepB hw8) (by have := HL.out; unfold maxLen; omega) (by have := HL.out; omega) (by have := HH.out.lt 0 (by omega); have := HH.out.new 0 (by omega); have := Below.size (HBF.out.trans hw8); omega) 30
  change (gAppend #[30, 30] 30 #[.slice x.ho.a x.ho.len x.ho.cap, .slice (some ⟨p, 0, none⟩) 1 1]).run Tryz.prog w8 = .ok v' w' at hrun
  obtain ⟨A', c', rfl, _⟩ := ho.shape
  go_simp
  refine hK _ _ (fun h => absurd (by simp) h) (fun _ => Chg.of_grown hgr (fun k e => e)) ?_
  clear hK K
  have HW8 := Lib.hid (HBF.out.trans hw8); have HO := Lib.hid ho; have HGR := Lib.hid hgr; have HOB2 := Lib.hid hob
  clear ho hgr hob hw8 hr8 hrun
  refine wpH_force 9 _ rfl (by kernel_rfl) rfl fun w9 hw9 K hK => ?_
  go_simp
  refine hK _ _ (fun _ => GB.rf _) (fun _ => Chg.refl _ _) ?_
  clear hK K
  refine wpH_force 10 _ rfl (by kernel_rfl) rfl fun w10 hw10 K hK => ?_
  go_simp
  refine hK _ _ (fun _ => GB.rf _) (fun _ => Chg.refl _ _) ?_
  clear hK K
  refine wpH_force 11 _ rfl (by kernel_rfl) rfl fun w11 hw11 K hK => ?_
  have hb11 := GB.tr _ _ _ (GB.tr _ _ _ hw9 hw10) hw11
  have HC8 : Chg (fun k => x.ho.val.ownBlock = some k) w w' := (Chg.of_bel HW8.out _).tr (Chg.of_grown HGR.out (fun k e => e))
  have HC11 := Lib.hid (HC8.tr (Chg.of_bel hb11 _))
  have HO11 := Lib.hid (OwnS.step HO.out hb11)
  have f13 := HC11.out.cell (rep_cells HH.out).2.2.2.2.2.2.2.2.1 (HOB.out 0 (by omega))
  have z13 : w11.frozen? ⟨B 0, 13, none⟩ = false := frozen_of_free (HC11.out.free (rep_other HH.out).1 (HH.out.lt 0 (by omega)) (HOB.out 0 (by omega)))
  have Z13 := Lib.hid (HC11.out.free (rep_other HH.out).1 (HH.out.lt 0 (by omega)) (HOB.out 0 (by omega)))
  go_simp
  refine hK _ _ (fun h => absurd (by simp) h) (fun h => absurd (by simp) h) ?_
  clear hK K f13 z13 HC8 hb11 hw9 hw10 hw11
  refine wpH_end (by kernel_rfl) (fun wn hwn => ?_) _
  have HC12 : Chg (fun k => k = B 0 ∨ x.ho.val.ownBlock = some k) w (w11.setCell ⟨B 0, 13, none⟩ (.slice A' (x.out ++ [M]).length c')) := (HC11.out.sub (fun k e => .inr e)).tr (chg_cell (S := fun k => k = B 0 ∨ x.ho.val.ownBlock = some k) (.inl rfl) _)
  have hfin := HH.out.withOut (ho := ⟨A', (x.out ++ [M]).length, c'⟩) (l := x.out ++ [M]) HC12 (fun a ha => get?_poke (HC11.out.get ha (HOB.out 0 (by omega))) (rep_out (repG B x a) ⟨A', (x.out ++ [M]).length, c'⟩)) (by rw [blkFree_setCell]; exact Z13.out) (HO11.out.chg (chg_cell (S := fun k => k = B 0) rfl _) (fun k e he => ?_)) ?_
  · have hwn2 : Bel (w11.setCell ⟨B 0, 13, none⟩ (.slice A' (x.out ++ [M]).length c')) wn := by rw [show (x.out ++ [M]).length = x.out.length + 1 by simp]; exact hwn
    have hfin2 := hfin.step hwn2
    refine bodyPost_end (results_none rfl _ _ _) rfl ⟨rfl, ⟨A', (x.out ++ [M]).length, c'⟩, ?_, HC12.tr (Chg.of_bel hwn2 _), ?_⟩
    · rw [HMM.out]; exact hfin2
    · rcases HOB2.out with e | e
      · exact .inr (.inl e)
      · exact .inr (.inr ⟨_, e, Below.size HW8.out⟩)
  · rcases HOB2.out with e2 | e2
    · exact HOB.out 0 (by omega) (by rw [← he, ← e, ← e2])
    · rw [e2] at e; injection e with e; have := HH.out.lt 0 (by omega); have := Below.size HW8.out; omega
  · rcases HOB2.out with e | e
    · exact .inr (.inl e)
    · exact .inr (.inr ⟨_, e, Below.size HW8.out⟩)
end Go.Proofs.YtfhhcgldikmejaaGreatDoor
/- A replica's all: a message to each other. Conditions: those named in each theorem. -/
namespace Go.Proofs.YtfhhcgldikmejaaGreatDoor
open Go Go.RowKit Go.Gv Go.Proofs

def others (id : Int) : Nat → List Int
  | 0 => []
  | n + 1 => others id n ++ (if (n : Int) = id then [] else [(n : Int)])
theorem others_len (id : Int) : ∀ n, (others id n).length ≤ n
  | 0 => by simp [others]
  | n + 1 => by
    have := others_len id n
    unfold others
    rw [List.length_append]
    split <;> simp <;> omega
def toAll (id : Int) (m : GMsg) (n : Nat) : List GMsg := (others id n).map fun t => sent id t m
theorem toAll_yes (id : Int) (m : GMsg) (n : Nat) (h : (n : Int) = id) : toAll id m (n + 1) = toAll id m n := by simp [toAll, others, h]
theorem toAll_no (id : Int) (m : GMsg) (n : Nat) (h : ¬ (n : Int) = id) : toAll id m (n + 1) = toAll id m n ++ [sent id n m] := by simp [toAll, others, h]
theorem toAll_len (id : Int) (m : GMsg) (n : Nat) : (toAll id m n).length ≤ n := by simpa [toAll] using others_len id n
def Said (B0 : Nat) (h0 h1 : Hdr) (w w' : World) : Prop := Chg (fun k => k = B0 ∨ h0.val.ownBlock = some k) w w' ∧ (h1.val.ownBlock = none ∨ h1.val.ownBlock = h0.val.ownBlock ∨ ∃ k, h1.val.ownBlock = some k ∧ w.heap.size ≤ k)
theorem Said.rf (B0 : Nat) (h0 : Hdr) (w : World) : Said B0 h0 h0 w w := ⟨Chg.refl _ _, .inr (.inl rfl)⟩
theorem Said.tr {B0 : Nat} {h0 h1 h2 : Hdr} {w w1 w2 : World} (a : Said B0 h0 h1 w w1) (b : Said B0 h1 h2 w1 w2) : Said B0 h0 h2 w w2 := by
  refine ⟨a.1.trans b.1 ?_, ?_⟩
  · rintro k (e | e)
    · exact .inl (.inl e)
    · rcases a.2 with h | h | ⟨k', h, hk⟩
      · rw [h] at e; cases e
      · rw [h] at e; exact .inl (.inr e)
      · rw [h] at e; injection e with e; exact .inr (by omega)
  · rcases b.2 with h | h | ⟨k', h, hk⟩
    · exact .inl h
    · rcases a.2 with g | g | ⟨k2, g, hk2⟩
      · exact .inl (h.trans g)
      · exact .inr (.inl (h.trans g))
      · exact .inr (.inr ⟨k2, h.trans g, hk2⟩)
    · exact .inr (.inr ⟨k', h, Nat.le_trans a.1.size hk⟩)
theorem Said.bel {B0 : Nat} {h0 h1 : Hdr} {w w1 w2 : World} (a : Said B0 h0 h1 w w1) (b : Bel w1 w2) : Said B0 h0 h1 w w2 := ⟨a.1.tr (Chg.of_bel b _), a.2⟩
theorem Said.pre {B0 : Nat} {h0 h1 : Hdr} {w w1 w2 : World} (b : Bel w w1) (a : Said B0 h0 h1 w1 w2) : Said B0 h0 h1 w w2 := by
  refine ⟨(Chg.of_bel b _).tr a.1, ?_⟩
  rcases a.2 with h | h | ⟨k, h, hk⟩
  · exact .inl h
  · exact .inr (.inl h)
  · exact .inr (.inr ⟨k, h, Nat.le_trans (Below.size b) hk⟩)
set_option maxRecDepth 100000 in
set_option maxHeartbeats 4000000 in
theorem repAll_any (w0 : World) (B : Nat → Nat) (x : RSt) (m : GMsg) (f : Nat) (w : World) (h : RepIs w0 w B x) (hm : PlainM m) (hl : x.out.length ≤ 1000) (hf : x.c.f = (f : Int)) (hf1 : f ≤ 21) : Calls Tryz.prog 50 #[.pointer (some ⟨B 0, 0, none⟩), m.val] w fun e w' =>
    e = .returned (.tuple #[]) ∧ ∃ ho, RepIs w0 w' B { x with ho := ho, out := x.out ++ toAll x.id m (3 * f + 1) } ∧ Said (B 0) x.ho ho w w' := by
  have HH := Lib.hid h; have HM := Lib.hid hm; have HL := Lib.hid hl; have HF := Lib.hid hf; have HF1 := Lib.hid hf1
  have h1 := h.step ((Bel.refl w).alloc (.cells (GMsg.enc m).toArray 70))
  have c1 : get? GMsg (w.alloc (.cells (GMsg.enc m).toArray 70)) ⟨w.heap.size, 0, none⟩ = some m := get?_new _ _
  have hba := (Bel.refl w).alloc (.cells (GMsg.enc m).toArray 70)
  have hsz : (w.alloc (.cells (GMsg.enc m).toArray 70)).heap.size = w.heap.size + 1 := World.size_alloc _ _
  clear h hm hl hf hf1
  go_enter Tryz.func50, Tryz.ntmps50
  go_upto_region 1 with fail
  obtain ⟨q, hq⟩ : ∃ q, w.heap.size = q := ⟨_, rfl⟩
  have HQ := Lib.hid hq
  rw [hq] at c1 hsz ⊢
  generalize w.alloc (.cells (GMsg.enc m).toArray 70) = wa at c1 h1 hba hsz ⊢
  have C1 := Lib.hid c1; have H1 := Lib.hid h1; have HBA := Lib.hid hba; have HSZ := Lib.hid hsz
  have k0 := (rep_cells h1).2.2.2.2.2.2.2.2.2
  clear c1 h1 hba hsz hq
  go_wp2_with fail
  refine (n_any x.c wa (by have := HF.out; omega) (by have := HF.out; have := HF1.out; omega)).mono ?_
  rw [HF.out]
  rintro _ wb ⟨rfl, hbb⟩
  have H2 := Lib.hid (H1.out.step hbb); have C2 := Lib.hid (GB.get hbb C1.out)
  have HBB := Lib.hid (HBA.out.trans hbb)
  have HSB := Lib.hid (Below.size hbb)
  clear hbb k0
  go_wp2_with fail
  go_loopw [10] (fun iv wr => ∃ (k : Nat) (ho : Hdr), k ≤ 3 * f + 1 ∧ iv = .int .i64 (k : Int) ∧ Hid (RepIs w0 wr B { x with ho := ho, out := x.out ++ toAll x.id m k }) ∧ Hid (Said (B 0) x.ho ho wb wr)) (fun iv _ => 3 * f + 1 - (intOf iv).toNat)
  case atStart => exact ⟨0, x.ho, by omega, rfl, Lib.hid (by simpa [toAll, others] using H2.out), Lib.hid (Said.rf _ _ _)⟩
  case round =>
    obtain ⟨k, ho, hk, rfl, hr, hs⟩ := hrel
    have hf1 := HF1.out
    have hk64 : k ≤ 64 := by omega
    have hwr : IntKind.i64.wrap ((k : Int) + 1) = (k : Int) + 1 := IntWalk.i64_in _ (by omega)
    by_cases hlt : (k : Int) < 3 * (f : Int) + 1
    · have k1 := (rep_cells hr.out).1
      simp only at k1
      by_cases hid : (k : Int) = x.id
      · have hb : ((k : Int) != x.id) = false := by rw [bne_eq_false_iff_eq]; exact hid
        have HID := Lib.hid hid
        clear hid
        go_wp2_with fail
        go_roundw
        case rel => exact ⟨k + 1, ho, by omega, by go_num, Lib.hid (by rw [toAll_yes _ _ _ HID.out]; exact hr.out), hs⟩
        case measure => simp [intOf] <;> omega
      · have hb : ((k : Int) != x.id) = true := by rw [bne_iff_ne]; exact hid
        have HID := Lib.hid hid
        clear hid
        have c3 : get? GMsg wr ⟨q, 0, none⟩ = some m := hs.out.1.get C2.out (by
          rintro (e | e)
          · have := HH.out.lt 0 (by omega); have := HQ.out; simp only at e; omega
          · have := ((rep_own HH.out).1.lt q e).2; have := HQ.out; omega)
        go_wp2_with fail
        refine (say_any w0 B { x with ho := ho, out := x.out ++ toAll x.id m k } m k wr hr.out HM.out (by have := HL.out; have := toAll_len x.id m k; have := HF1.out; simp only [List.length_append]; omega)).mono ?_
        rintro _ wc ⟨rfl, ho2, hr2, hch, hown⟩
        have HR2 := Lib.hid hr2
        have HS2 := Lib.hid (hs.out.tr (⟨hch, hown⟩ : Said (B 0) ho ho2 wr wc))
        clear hr2 hch hown c3 k1
        go_wp2_with fail
        go_roundw
        case rel => exact ⟨k + 1, ho2, by omega, by go_num, Lib.hid (by rw [toAll_no _ _ _ HID.out]; simpa using HR2.out), HS2⟩
        case measure => simp [intOf] <;> omega
    · have hke := Lib.hid (show k = 3 * f + 1 by omega)
      go_wp2_with fail
      refine bodyPost_end (results_none rfl _ _ _) rfl ⟨rfl, ho, ?_, ?_⟩
      · rw [← hke.out]; exact hr.out
      · exact Said.pre HBB.out hs.out
end Go.Proofs.YtfhhcgldikmejaaGreatDoor
/- A replica's ask. Conditions: those named in each theorem. -/
namespace Go.Proofs.YtfhhcgldikmejaaGreatDoor
open Go Go.RowKit Go.Gv Go.Proofs

def closeM (r t : Int) : GMsg := { (default : GMsg) with kind := 5, epoch := 0, round := r, time := t }
theorem closeM_plain (r t : Int) : PlainM (closeM r t) := ⟨rfl, rfl, rfl, ⟨rfl, rfl, rfl⟩, ⟨rfl, rfl, rfl⟩, rfl⟩
set_option maxRecDepth 100000 in
set_option maxHeartbeats 4000000 in
theorem ask_any (w0 : World) (B : Nat → Nat) (x : RSt) (f : Nat) (w : World) (h : RepIs w0 w B x) (hl : x.out.length ≤ 1000) (hf : x.c.f = (f : Int)) (hf1 : f ≤ 21) : Calls Tryz.prog 93 #[.pointer (some ⟨B 0, 0, none⟩)] w fun e w' =>
    e = .returned (.tuple #[]) ∧ ∃ ho, RepIs w0 w' B { x with ho := ho, out := x.out ++ toAll x.id (closeM x.askRound x.askTime) (3 * f + 1) } ∧ Said (B 0) x.ho ho w w' := by
  have HH := Lib.hid h; have HL := Lib.hid hl; have HF := Lib.hid hf; have HF1 := Lib.hid hf1
  clear h hl hf hf1
  go_enter Tryz.func93, Tryz.ntmps93
  refine wp_region_G GB [21] GB.rf (by kernel_rfl) ?_
  refine wpG_looks 3 22 [0, 1, 2, 3, 4, 6, 7, 8, 9, 10, 11, 12, 13, 14, 15, 16, 17, 18, 19] rfl GB.rf GB.tr (by kernel_rfl) (fun _ _ _ _ hd h => And.intro (hd ▸ And.left h) (And.right h)) rfl (by kernel_rfl) ?_
  intro ι W hne CW
  have k0 : ∀ z, (W z).cell? ⟨B 0, 7, none⟩ = some (.pointer (some ⟨B 7, 0, none⟩)) := fun z => GB.cell (GB.undrew (CW.out z)) (rep_cells HH.out).2.2.2.2.2.1
  have k1 : ∀ z, (W z).cell? ⟨B 0, 10, none⟩ = some (.pointer (some ⟨B 11, 0, none⟩)) := fun z => GB.cell (GB.undrew (CW.out z)) (rep_cells HH.out).2.2.2.2.2.2.2.1
  have k2 : ∀ z, (W z).cell? ⟨B 11, 5, none⟩ = some (.int .i64 x.askRound) := fun z => GB.cell (GB.undrew (CW.out z)) (ep_cells HH.out).2.2.1
  have k3 : ∀ z, (W z).cell? ⟨B 11, 6, none⟩ = some (.int .u64 x.askTime) := fun z => GB.cell (GB.undrew (CW.out z)) (ep_cells HH.out).2.2.2
  repeat (refine wpLooksG_step (fun K hK => ?_); go_simp; refine hK _ ?_; clear hK K)
  refine wpLooksG_nil ?_
  clear k0 k1 k2 k3 CW hne W ι
  refine wpG_force 5 _ rfl (by kernel_rfl) rfl fun wa hwa K hK => ?_
  go_simp
  refine (epoch0_any (B 7) (B 8) wa (HH.out.step (GB.undrew hwa)).led).mono ?_
  rintro _ _ ⟨rfl, rfl⟩
  refine hK _ _ (fun _ => GB.rf _) ?_
  clear hK K
  refine wpG_force 20 _ rfl (by kernel_rfl) rfl fun wb hwb K hK => ?_
  go_simp
  refine hK _ _ (fun _ => GB.rf _) ?_
  clear hK K
  refine wpG_force 21 _ rfl (by kernel_rfl) rfl fun wc hwc K hK => ?_
  go_simp
  have hbc := GB.tr _ _ _ (GB.tr _ _ _ (GB.undrew hwa) hwb) hwc
  refine (repAll_any w0 B x (closeM x.askRound x.askTime) f wc (HH.out.step hbc) (closeM_plain _ _) HL.out HF.out HF1.out).mono ?_
  rintro _ wd ⟨rfl, ho, hr, hs⟩
  refine hK _ _ (fun h => absurd (by simp) h) ?_
  clear hK K
  refine wpG_end (by kernel_rfl) (fun wn hwn => ?_) _
  exact bodyPost_end (results_none rfl _ _ _) rfl ⟨rfl, ho, hr.step hwn, (hs.bel hwn).pre hbc⟩
end Go.Proofs.YtfhhcgldikmejaaGreatDoor
/- A replica's promise. Conditions: those named in each theorem. -/
namespace Go.Proofs.YtfhhcgldikmejaaGreatDoor
open Go Go.RowKit Go.Gv Go.Proofs

def promG (x : RSt) (tm : Nat) : GPromise := ⟨x.id, 0, tm, ⟨none, 0, 0⟩, ⟨x.id, markOf x.book (keyP x.id 0 tm)⟩⟩
theorem RepIs.withBS {w0 w w' : World} {B : Nat → Nat} {x : RSt} (h : RepIs w0 w B x) {b : MBook} {now floor last : Int} {l : List (GName × GStamp)} (hb : BookIs w' (B 1) (B 2) b) (hs : StampIs w' (B 3) (B 4) x.c x.id now floor last l) (hc : Chg (fun k => k = B 2 ∨ k = B 3) w w') : RepIs w0 w' B { x with book := b, now := now, floor := floor, last := last, stamps := l } := by
  obtain ⟨a, bm, ht, hp, h1, h2, h3, h4, h5⟩ := h.more
  have n : ∀ j < 20, j ≠ 2 → j ≠ 3 → ¬ (B j = B 2 ∨ B j = B 3) := fun j hj n2 n3 e => e.elim (h.ne (i := 2) (by omega) j hj n2) (h.ne (i := 3) (by omega) j hj n3)
  refine ⟨Chg.bel2 h.bel hc (fun k e => by rcases e with e | e; exact e ▸ h.new 2 (by omega); exact e ▸ h.new 3 (by omega)), h.new, fun j hj => Nat.lt_of_lt_of_le (h.lt j hj) hc.size, h.apart, hb, hs, h.tb.chg hc (n 5 (by omega) (by omega) (by omega)) (n 6 (by omega) (by omega) (by omega)), h.led.chg hc (n 7 (by omega) (by omega) (by omega)) (n 8 (by omega) (by omega) (by omega)),
    h.rev.chg hc (n 9 (by omega) (by omega) (by omega)) (n 10 (by omega) (by omega) (by omega)), h.core.chg hc (n 12 (by omega) (by omega) (by omega)) (n 13 (by omega) (by omega) (by omega)) (n 18 (by omega) (by omega) (by omega)) (n 14 (by omega) (by omega) (by omega)) (n 16 (by omega) (by omega) (by omega)) (n 17 (by omega) (by omega) (by omega)), hc.map h.pre (n 19 (by omega) (by omega) (by omega)),
    a, bm, ht, hp, hc.get h1 (n 0 (by omega) (by omega) (by omega)), hc.free h2 (get?_lt h1) (n 0 (by omega) (by omega) (by omega)), hc.get h3 (n 11 (by omega) (by omega) (by omega)), hc.free h4 (get?_lt h3) (n 11 (by omega) (by omega) (by omega)), ?_⟩
  refine (h5.chg hc ?_ ?_ ?_ ?_ ?_).with rfl rfl rfl rfl rfl
  · rintro k e (e2 | e2)
    · exact h5.no 2 (by omega) (by rw [e, e2])
    · exact h5.no 3 (by omega) (by rw [e, e2])
  · rintro k e (e2 | e2)
    · exact h5.nt 2 (by omega) (by rw [e, e2])
    · exact h5.nt 3 (by omega) (by rw [e, e2])
  · rintro k e (e2 | e2)
    · exact h5.np 2 (by omega) (by rw [e, e2])
    · exact h5.np 3 (by omega) (by rw [e, e2])
  · rintro p e (e2 | e2)
    · exact (h5.pv p e).2.2.1 2 (by omega) e2
    · exact (h5.pv p e).2.2.1 3 (by omega) e2
  · rintro k o e (e2 | e2)
    · exact (h5.kp k o e).2.1 2 (by omega) e2
    · exact (h5.kp k o e).2.1 3 (by omega) e2
set_option maxRecDepth 100000 in
set_option maxHeartbeats 8000000 in
theorem repPromise_any (w0 : World) (B : Nat → Nat) (x : RSt) (tm : Nat) (w : World) (h : RepIs w0 w B x) (h0 : 0 < tm) (ht : tm < 18446744073709551615) (hi : x.id ≤ 1000000) (hB : x.book.length ≤ 1000000000) :
    Calls Tryz.prog 100 #[.pointer (some ⟨B 0, 0, none⟩), .int .u64 (tm : Int)] w fun e w' =>
      e = .returned (.tuple #[GPromise.val (promG x tm), .bool true]) ∧ RepIs w0 w' B { x with book := signB x.book (keyP x.id 0 tm), floor := max x.floor tm } ∧ Chg (fun k => k = B 2 ∨ k = B 3) w w' := by
  have HH := Lib.hid h; have HT0 := Lib.hid h0; have HT := Lib.hid ht; have HI := Lib.hid hi; have HB := Lib.hid hB
  have c4 : get? GPromise (w.alloc (.cells (GPromise.enc default).toArray 49)) ⟨w.heap.size, 0, none⟩ = some default := get?_new _ _
  have b4 : blkFree (w.alloc (.cells (GPromise.enc default).toArray 49)) w.heap.size = true := blkFree_new _ _ rfl
  have hba := (Bel.refl w).alloc (.cells (GPromise.enc default).toArray 49)
  clear h h0 ht hi hB
  go_enter Tryz.func100, Tryz.ntmps100
  go_upto_region 1 with fail
  obtain ⟨q, hq⟩ : ∃ q, w.heap.size = q := ⟨_, rfl⟩
  have HQ := Lib.hid hq
  rw [hq] at c4 b4 ⊢
  generalize w.alloc (.cells (GPromise.enc default).toArray 49) = wa at c4 b4 hba ⊢
  have H1 := Lib.hid (HH.out.step hba); have C4 := Lib.hid c4; have B4 := Lib.hid b4; have HBA := Lib.hid hba
  clear c4 b4 hba hq
  have hq2 : ¬ q = B 2 := fun e => by have := HH.out.lt 2 (by omega); have := HQ.out; omega
  have HQ2 := Lib.hid hq2
  clear hq2
  obtain ⟨pv, hpv⟩ : ∃ pv, promG x tm = pv := ⟨_, rfl⟩
  have HPV := Lib.hid hpv
  clear hpv
  refine wp_region_H GB (Chg (fun k => k = B 2 ∨ wa.heap.size ≤ k)) [19, 24] [] GB.rf (by kernel_rfl) ?_
  refine wpH_looks 7 26 [0, 1, 2, 3, 4, 5, 6, 7, 8, 9, 10, 11, 12, 13, 14, 15, 16, 17, 18] rfl GB.rf GB.tr (Chg.refl _) (fun _ _ _ => Chg.tr) (fun _ _ h => Chg.of_bel h _) (by kernel_rfl) (fun _ _ _ _ hd h => And.intro (hd ▸ And.left h) (And.right h)) rfl (by kernel_rfl) ?_
  intro ι W hne CW
  have n0 : ¬ (B 0 = B 2 ∨ wa.heap.size ≤ B 0) := fun e => e.elim (HH.out.ne (i := 2) (by omega) 0 (by omega) (by omega)) (fun e => by have := H1.out.lt 0 (by omega); omega)
  have n7 : ¬ (B 7 = B 2 ∨ wa.heap.size ≤ B 7) := fun e => e.elim (HH.out.ne (i := 2) (by omega) 7 (by omega) (by omega)) (fun e => by have := H1.out.lt 7 (by omega); omega)
  have n8 : ¬ (B 8 = B 2 ∨ wa.heap.size ≤ B 8) := fun e => e.elim (HH.out.ne (i := 2) (by omega) 8 (by omega) (by omega)) (fun e => by have := H1.out.lt 8 (by omega); omega)
  have CC : ∀ z, Chg (fun k => k = B 2 ∨ wa.heap.size ≤ k) wa (W z) := fun z => (Chg.of_bel ((Bel.refl wa).drew) _).tr (CW.out z)
  have k0 : ∀ z, (W z).cell? ⟨B 0, 6, none⟩ = some (.pointer (some ⟨B 5, 0, none⟩)) := fun z => (CC z).cell (rep_cells H1.out).2.2.2.2.1 n0
  have k1 : ∀ z, (W z).cell? ⟨B 0, 3, none⟩ = some (.pointer (some ⟨B 1, 0, none⟩)) := fun z => (CC z).cell (rep_cells H1.out).2.1 n0
  have k2 : ∀ z, (W z).cell? ⟨B 0, 7, none⟩ = some (.pointer (some ⟨B 7, 0, none⟩)) := fun z => (CC z).cell (rep_cells H1.out).2.2.2.2.2.1 n0
  have HL := Lib.hid (show ∀ z, LedIs (W z) (B 7) (B 8) from fun z => H1.out.led.chg (CC z) n7 n8)
  clear CC n0 n7 n8
  refine wpLooksG_step (fun K hK => ?_); go_simp; refine hK _ ?_; clear hK K
  refine wpLooksG_step (fun K hK => ?_); go_simp; refine hK _ ?_; clear hK K
  refine wpLooksG_step (fun K hK => ?_); go_simp; refine hK _ ?_; clear hK K
  refine wpLooksG_step (fun K hK => ?_); go_simp; refine hK _ ?_; clear hK K
  refine wpLooksG_step (fun K hK => ?_); go_simp; refine hK _ ?_; clear hK K
  refine wpLooksG_step (fun K hK => ?_); go_simp; refine hK _ ?_; clear hK K
  refine wpLooksG_step (fun K hK => ?_); go_simp; refine hK _ ?_; clear hK K
  refine wpLooksG_step (fun K hK => ?_); go_simp; refine hK _ ?_; clear hK K
  refine wpLooksG_step (fun K hK => ?_); go_simp; refine hK _ ?_; clear hK K
  refine wpLooksG_step (fun K hK => ?_); go_simp; refine hK _ ?_; clear hK K
  refine wpLooksG_step (fun K hK => ?_); go_simp; refine hK _ ?_; clear hK K
  refine wpLooksG_step (fun K hK => ?_); go_simp; refine hK _ ?_; clear hK K
  refine wpLooksG_step (fun K hK => ?_)
  go_simp
  refine ⟨_, fun z => quietG (epoch0_any (B 7) (B 8) (W z) (HL.out z)) (fun _ _ h => h), hK _ ?_⟩
  clear hK K
  refine wpLooksG_step (fun K hK => ?_); go_simp; refine hK _ ?_; clear hK K
  refine wpLooksG_step (fun K hK => ?_); go_simp; refine hK _ ?_; clear hK K
  refine wpLooksG_step (fun K hK => ?_); go_simp; refine hK _ ?_; clear hK K
  refine wpLooksG_step (fun K hK => ?_); go_simp; refine hK _ ?_; clear hK K
  refine wpLooksG_step (fun K hK => ?_)
  go_simp
  refine ⟨_, fun z => quietG (last0_any (B 7) (B 8) (W z) (HL.out z)) (fun _ _ h => h), hK _ ?_⟩
  clear hK K
  refine wpLooksG_step (fun K hK => ?_); go_simp; refine hK _ ?_; clear hK K
  refine wpLooksG_nil ?_
  clear k0 k1 k2 HL CW hne W ι
  refine wpH_two 19 23 _ _ rfl rfl (by kernel_rfl) rfl rfl (fun w19 hw19 K hK => ?_) (fun w23 hw23 K hK => ?_)
  · go_simp
    have hb19 : Bel wa w19 := GB.undrew hw19
    have hcall : Calls Tryz.prog 148 #[.pointer (some ⟨B 5, 0, none⟩), .pointer (some ⟨B 1, 0, none⟩), .int .i64 0, .int .u64 0, .int .u64 (tm : Int)] w19 fun e w' => e = .returned (.tuple #[GPromise.val pv, .int .i64 0]) ∧ BookIs w' (B 1) (B 2) (signB x.book (keyP x.id 0 tm)) ∧ Chg (fun k => k = B 2) w19 w' := by
      rw [← HPV.out]
      exact promise0_any (B 5) (B 6) (B 1) (B 2) x.c x.id 0 0 tm x.book w19 (H1.out.step hb19).tb (H1.out.step hb19).book (by omega) (by omega) (by have := HT0.out; omega) HT.out HI.out HB.out
    refine hcall.mono ?_
    rintro _ wp ⟨rfl, hbk, hcp⟩
    refine hK _ _ (fun h => absurd (by simp) h) (fun _ => hcp.sub (fun k e => .inl e)) ?_
    clear hK K hcall
    have HBKP := Lib.hid hbk
    have HCP := Lib.hid ((Chg.of_bel hb19 (fun k => k = B 2)).tr hcp)
    clear hbk
    have C4p := Lib.hid (hcp.get (GB.get hb19 C4.out) HQ2.out); have B4p := Lib.hid (hcp.free ((blkFree_keep (Below.block hb19 _ (get?_lt C4.out))).trans B4.out) (get?_lt (GB.get hb19 C4.out)) HQ2.out)
    clear hcp hb19 hw19
    refine wpH_looks 3 26 [20, 21, 22] rfl GB.rf GB.tr (Chg.refl _) (fun _ _ _ => Chg.tr) (fun _ _ h => Chg.of_bel h _) (by kernel_rfl) (fun _ _ _ _ hd h => And.intro (hd ▸ And.left h) (And.right h)) rfl (by kernel_rfl) ?_
    intro ι W hne CW
    refine wpLooksG_step (fun K hK => ?_); go_simp; refine hK _ ?_; clear hK K
    refine wpLooksG_step (fun K hK => ?_); go_simp; refine hK _ ?_; clear hK K
    refine wpLooksG_step (fun K hK => ?_); go_simp; refine hK _ ?_; clear hK K
    refine wpLooksG_nil ?_
    clear CW hne W ι
    refine wpH_force 23 _ rfl (by kernel_rfl) rfl fun w23 hw23 K hK => ?_
    go_simp
    refine hK _ _ (fun _ => GB.al _ _) (fun _ => Chg.of_bel (GB.al _ _) _) ?_
    clear hK K
    have c6 := get?_new (w := w23) 49 (default : GPromise)
    have b6 : blkFree (w23.alloc (.cells (GPromise.enc default).toArray 49)) w23.heap.size = true := blkFree_new _ _ rfl
    have hb6 := Bel.trans hw23 ((Bel.refl w23).alloc (.cells (GPromise.enc default).toArray 49))
    have hpw : wa.heap.size ≤ w23.heap.size := Nat.le_trans HCP.out.size (Below.size hw23)
    obtain ⟨p, hp⟩ : ∃ p, w23.heap.size = p := ⟨_, rfl⟩
    rw [hp] at c6 b6 hpw ⊢
    change wpH _ _ _ _ _ _ _ _ _ _ _ (w23.alloc (.cells (GPromise.enc default).toArray 49))
    generalize w23.alloc (.cells (GPromise.enc default).toArray 49) = wy at c6 b6 hb6 ⊢
    have HPW := Lib.hid hpw; have C6 := Lib.hid c6; have B6 := Lib.hid b6; have HB6 := Lib.hid hb6
    clear c6 b6 hb6 hpw hp hw23
    refine wpH_force 24 _ rfl (by kernel_rfl) rfl fun w24 hw24 K hK => ?_
    have hb24 : Bel wp w24 := GB.tr _ _ _ HB6.out hw24
    have g6 := GB.get hw24 C6.out
    have f6 := (blkFree_keep (Below.block hw24 _ (get?_lt C6.out))).trans B6.out
    have c4 := GB.get hb24 C4p.out
    have b4 := (blkFree_keep (Below.block hb24 _ (get?_lt C4p.out))).trans B4p.out

    go_simp
    refine hK _ _ (fun h => absurd (by simp) h) (fun _ => chg_put (S := fun k => k = B 2 ∨ wa.heap.size ≤ k) (.inr HPW.out) _) ?_
    clear hK K
    have hput : Chg (fun k => k = p) w24 (World.putCells w24 ⟨p, 0, none⟩ (GPromise.enc pv)) := chg_put (S := fun k => k = p) rfl _
    have hc2 : Chg (fun k => k = B 2) wa (World.putCells w24 ⟨p, 0, none⟩ (GPromise.enc pv)) := chg_new (((HCP.out.tr (Chg.of_bel hb24 _)).sub (fun k e => .inl e)).tr (hput.sub (fun k e => .inr (e ▸ HPW.out))))
    have hr2 := H1.out.withBook ((HBKP.out.step hb24).chg hput (fun e => by have := H1.out.lt 1 (by omega); have := HPW.out; omega) (fun e => by have := H1.out.lt 2 (by omega); have := HPW.out; omega)) hc2
    have G6 := Lib.hid (get?_putV pv g6); have F6 := Lib.hid ((blkFree_put (GPromise.enc pv) (w := w24) (b := p) (o := 0) (n := p)).trans f6)
    have HQW := Lib.hid (show q < wa.heap.size from get?_lt C4.out)
    have C5 := Lib.hid (hput.get c4 (fun e => by have := HPW.out; have := HQW.out; simp only at e; omega)); have B5 := Lib.hid ((blkFree_put (GPromise.enc pv) (w := w24) (b := p) (o := 0) (n := q)).trans b4)
    have HR2 := Lib.hid hr2; have HC2 := Lib.hid hc2
    have NQ3 := Lib.hid (show ¬ p = B 3 ∧ ¬ q = B 3 from ⟨fun e => by have := H1.out.lt 3 (by omega); have := HPW.out; omega, fun e => by have := HH.out.lt 3 (by omega); have := HQ.out; omega⟩)
    change wpH _ _ _ _ _ _ _ _ _ _ _ (World.putCells w24 ⟨p, 0, none⟩ (GPromise.enc pv))
    generalize World.putCells w24 ⟨p, 0, none⟩ (GPromise.enc pv) = w5 at hput hc2 hr2 G6 F6 C5 B5 HR2 HC2 ⊢
    clear hput hc2 hr2 c4 b4 g6 f6 hb24 hw24
    clear C6 B6 HB6 C4p B4p HCP HBKP
    refine wpH_force 25 _ rfl (by kernel_rfl) rfl fun w25 hw25 K hK => ?_
    go_simp
    refine hK _ _ (fun _ => GB.rf _) (fun _ => Chg.refl _ _) ?_
    clear hK K
    refine wpH_end (by kernel_rfl) (fun wn hwn => ?_) _
    have hbn := GB.tr _ _ _ hw25 hwn
    have HN := Lib.hid (HR2.out.step hbn); have GN := Lib.hid (GB.get hbn G6.out); have FN := Lib.hid ((blkFree_keep (Below.block hbn _ (get?_lt G6.out))).trans F6.out)
    have GQ := Lib.hid (GB.get hbn C5.out); have FQ := Lib.hid ((blkFree_keep (Below.block hbn _ (get?_lt C5.out))).trans B5.out)
    have HC := Lib.hid (HC2.out.tr (Chg.of_bel hbn _))
    clear hw25 hwn hbn HR2 G6 F6 C5 B5 HC2
    have k0 := (rep_cells HN.out).2.2.2.1
    go_wp2_with fail

    refine (raise_any (B 3) (B 4) x.c x.id x.now x.floor x.last tm x.stamps wn HN.out.st (by have := HT.out; omega)).mono ?_
    rintro _ wr ⟨rfl, hst, hcr⟩
    have HR5 := Lib.hid (HN.out.withStamp hst hcr)
    have g6 := hcr.get GN.out (fun e => NQ3.out.1 e)
    have g4 := Lib.hid (hcr.get GQ.out (fun e => NQ3.out.2 e))
    have HC5 := Lib.hid ((HC.out.sub (S' := fun k => k = B 2 ∨ k = B 3) (fun k e => .inl e)).tr (hcr.sub (fun k e => .inr e)))
    have FQ5 := Lib.hid (hcr.free FQ.out (get?_lt GQ.out) (fun e => NQ3.out.2 e))
    clear hst hcr k0 HN GN FN GQ FQ HC
    have zq := FQ5.out
    have zg := g4.out
    go_wp2_with fail
    refine bodyPost_ret (results_cell_tmp (x := pv) rfl rfl ag49 sz49 (get?_putV _ g4.out)) rfl ⟨?_, ?_, ?_⟩
    · rw [HPV.out]; simp only [GPromise.val_eq]; rfl
    · have hpu : Chg (fun k => k = q) wr (World.putCells wr ⟨q, 0, none⟩ (GPromise.enc pv)) := chg_put (S := fun k => k = q) rfl _
      have hqs : ∀ j < 20, ¬ B j = q := fun j hj e => by have := HH.out.lt j hj; have := HQ.out; omega
      have hcz : Chg (fun k => k = B 2 ∨ k = B 3) w (World.putCells wr ⟨q, 0, none⟩ (GPromise.enc pv)) := chg_after HBA.out ((HC5.out.sub (S' := fun k => (k = B 2 ∨ k = B 3) ∨ k = q) (fun k e => .inl e)).tr (hpu.sub (fun k e => .inr e))) (fun k e => e.imp id (fun e => by rw [HQ.out]; omega))
      exact HH.out.withBS (HR5.out.book.chg hpu (hqs 1 (by omega)) (hqs 2 (by omega))) (HR5.out.st.chg hpu (hqs 3 (by omega)) (hqs 4 (by omega))) hcz
    · have hpu : Chg (fun k => k = q) wr (World.putCells wr ⟨q, 0, none⟩ (GPromise.enc pv)) := chg_put (S := fun k => k = q) rfl _
      exact chg_after HBA.out ((HC5.out.sub (S' := fun k => (k = B 2 ∨ k = B 3) ∨ k = q) (fun k e => .inl e)).tr (hpu.sub (fun k e => .inr e))) (fun k e => e.imp id (fun e => by rw [HQ.out]; omega))
  · go_simp
    refine hK _ _ (fun _ => GB.al _ _) (fun _ => Chg.of_bel (GB.al _ _) _) ?_
    clear hK K
    have c6 := get?_new (w := w23) 49 (default : GPromise)
    have b6 : blkFree (w23.alloc (.cells (GPromise.enc default).toArray 49)) w23.heap.size = true := blkFree_new _ _ rfl
    have hb6 : Bel wa (w23.alloc (.cells (GPromise.enc default).toArray 49)) := Bel.trans (GB.undrew hw23) ((Bel.refl w23).alloc (.cells (GPromise.enc default).toArray 49))
    have hpw : wa.heap.size ≤ w23.heap.size := Below.size (GB.undrew hw23)
    obtain ⟨p, hp⟩ : ∃ p, w23.heap.size = p := ⟨_, rfl⟩
    rw [hp] at c6 b6 hpw ⊢
    change wpH _ _ _ _ _ _ _ _ _ _ _ (w23.alloc (.cells (GPromise.enc default).toArray 49))
    generalize w23.alloc (.cells (GPromise.enc default).toArray 49) = wy at c6 b6 hb6 ⊢
    have HPW := Lib.hid hpw; have C6 := Lib.hid c6; have B6 := Lib.hid b6; have HB6 := Lib.hid hb6
    clear c6 b6 hb6 hpw hp hw23
    refine wpH_force 19 _ rfl (by kernel_rfl) rfl fun w19 hw19 K hK => ?_
    go_simp
    have hb19 : Bel wa w19 := GB.tr _ _ _ HB6.out hw19
    have c6 := GB.get hw19 C6.out
    have b6 := (blkFree_keep (Below.block hw19 _ (get?_lt C6.out))).trans B6.out
    have hcall : Calls Tryz.prog 148 #[.pointer (some ⟨B 5, 0, none⟩), .pointer (some ⟨B 1, 0, none⟩), .int .i64 0, .int .u64 0, .int .u64 (tm : Int)] w19 fun e w' => e = .returned (.tuple #[GPromise.val pv, .int .i64 0]) ∧ BookIs w' (B 1) (B 2) (signB x.book (keyP x.id 0 tm)) ∧ Chg (fun k => k = B 2) w19 w' := by
      rw [← HPV.out]
      exact promise0_any (B 5) (B 6) (B 1) (B 2) x.c x.id 0 0 tm x.book w19 (H1.out.step hb19).tb (H1.out.step hb19).book (by omega) (by omega) (by have := HT0.out; omega) HT.out HI.out HB.out
    refine hcall.mono ?_
    rintro _ wp ⟨rfl, hbk, hcp⟩
    refine hK _ _ (fun h => absurd (by simp) h) (fun _ => hcp.sub (fun k e => .inl e)) ?_
    clear hK K hcall
    have HBKP := Lib.hid hbk
    have HCP := Lib.hid ((Chg.of_bel hb19 (fun k => k = B 2)).tr hcp)
    clear hbk
    have np2 : ¬ p = B 2 := fun e => by have := H1.out.lt 2 (by omega); have := HPW.out; omega
    have C6p := Lib.hid (hcp.get c6 np2); have B6p := Lib.hid (hcp.free b6 (get?_lt c6) np2)
    have C4p := Lib.hid (hcp.get (GB.get hb19 C4.out) HQ2.out); have B4p := Lib.hid (hcp.free ((blkFree_keep (Below.block hb19 _ (get?_lt C4.out))).trans B4.out) (get?_lt (GB.get hb19 C4.out)) HQ2.out)
    clear hcp hb19 hw19 c6 b6 np2
    refine wpH_looks 2 26 [20, 21, 22] rfl GB.rf GB.tr (Chg.refl _) (fun _ _ _ => Chg.tr) (fun _ _ h => Chg.of_bel h _) (by kernel_rfl) (fun _ _ _ _ hd h => And.intro (hd ▸ And.left h) (And.right h)) rfl (by kernel_rfl) ?_
    intro ι W hne CW
    refine wpLooksG_step (fun K hK => ?_); go_simp; refine hK _ ?_; clear hK K
    refine wpLooksG_step (fun K hK => ?_); go_simp; refine hK _ ?_; clear hK K
    refine wpLooksG_step (fun K hK => ?_); go_simp; refine hK _ ?_; clear hK K
    refine wpLooksG_nil ?_
    clear CW hne W ι
    refine wpH_force 24 _ rfl (by kernel_rfl) rfl fun w24 hw24 K hK => ?_
    have hb24 : Bel wp w24 := hw24
    have g6 := GB.get hb24 C6p.out
    have f6 := (blkFree_keep (Below.block hb24 _ (get?_lt C6p.out))).trans B6p.out
    have c4 := GB.get hb24 C4p.out
    have b4 := (blkFree_keep (Below.block hb24 _ (get?_lt C4p.out))).trans B4p.out
    go_simp
    refine hK _ _ (fun h => absurd (by simp) h) (fun _ => chg_put (S := fun k => k = B 2 ∨ wa.heap.size ≤ k) (.inr HPW.out) _) ?_
    clear hK K
    have hput : Chg (fun k => k = p) w24 (World.putCells w24 ⟨p, 0, none⟩ (GPromise.enc pv)) := chg_put (S := fun k => k = p) rfl _
    have hc2 : Chg (fun k => k = B 2) wa (World.putCells w24 ⟨p, 0, none⟩ (GPromise.enc pv)) := chg_new (((HCP.out.tr (Chg.of_bel hb24 _)).sub (fun k e => .inl e)).tr (hput.sub (fun k e => .inr (e ▸ HPW.out))))
    have hr2 := H1.out.withBook ((HBKP.out.step hb24).chg hput (fun e => by have := H1.out.lt 1 (by omega); have := HPW.out; omega) (fun e => by have := H1.out.lt 2 (by omega); have := HPW.out; omega)) hc2
    have G6 := Lib.hid (get?_putV pv g6); have F6 := Lib.hid ((blkFree_put (GPromise.enc pv) (w := w24) (b := p) (o := 0) (n := p)).trans f6)
    have HQW := Lib.hid (show q < wa.heap.size from get?_lt C4.out)
    have C5 := Lib.hid (hput.get c4 (fun e => by have := HPW.out; have := HQW.out; simp only at e; omega)); have B5 := Lib.hid ((blkFree_put (GPromise.enc pv) (w := w24) (b := p) (o := 0) (n := q)).trans b4)
    have HR2 := Lib.hid hr2; have HC2 := Lib.hid hc2
    have NQ3 := Lib.hid (show ¬ p = B 3 ∧ ¬ q = B 3 from ⟨fun e => by have := H1.out.lt 3 (by omega); have := HPW.out; omega, fun e => by have := HH.out.lt 3 (by omega); have := HQ.out; omega⟩)
    change wpH _ _ _ _ _ _ _ _ _ _ _ (World.putCells w24 ⟨p, 0, none⟩ (GPromise.enc pv))
    generalize World.putCells w24 ⟨p, 0, none⟩ (GPromise.enc pv) = w5 at hput hc2 hr2 G6 F6 C5 B5 HR2 HC2 ⊢
    clear hput hc2 hr2 c4 b4 g6 f6 hb24 hw24
    clear C6 B6 HB6 C6p B6p C4p B4p HCP HBKP
    refine wpH_force 25 _ rfl (by kernel_rfl) rfl fun w25 hw25 K hK => ?_
    go_simp
    refine hK _ _ (fun _ => GB.rf _) (fun _ => Chg.refl _ _) ?_
    clear hK K
    refine wpH_end (by kernel_rfl) (fun wn hwn => ?_) _
    have hbn := GB.tr _ _ _ hw25 hwn
    have HN := Lib.hid (HR2.out.step hbn); have GN := Lib.hid (GB.get hbn G6.out); have FN := Lib.hid ((blkFree_keep (Below.block hbn _ (get?_lt G6.out))).trans F6.out)
    have GQ := Lib.hid (GB.get hbn C5.out); have FQ := Lib.hid ((blkFree_keep (Below.block hbn _ (get?_lt C5.out))).trans B5.out)
    have HC := Lib.hid (HC2.out.tr (Chg.of_bel hbn _))
    clear hw25 hwn hbn HR2 G6 F6 C5 B5 HC2
    have k0 := (rep_cells HN.out).2.2.2.1
    go_wp2_with fail

    refine (raise_any (B 3) (B 4) x.c x.id x.now x.floor x.last tm x.stamps wn HN.out.st (by have := HT.out; omega)).mono ?_
    rintro _ wr ⟨rfl, hst, hcr⟩
    have HR5 := Lib.hid (HN.out.withStamp hst hcr)
    have g6 := hcr.get GN.out (fun e => NQ3.out.1 e)
    have g4 := Lib.hid (hcr.get GQ.out (fun e => NQ3.out.2 e))
    have HC5 := Lib.hid ((HC.out.sub (S' := fun k => k = B 2 ∨ k = B 3) (fun k e => .inl e)).tr (hcr.sub (fun k e => .inr e)))
    have FQ5 := Lib.hid (hcr.free FQ.out (get?_lt GQ.out) (fun e => NQ3.out.2 e))
    clear hst hcr k0 HN GN FN GQ FQ HC
    have zq := FQ5.out
    have zg := g4.out
    go_wp2_with fail
    refine bodyPost_ret (results_cell_tmp (x := pv) rfl rfl ag49 sz49 (get?_putV _ g4.out)) rfl ⟨?_, ?_, ?_⟩
    · rw [HPV.out]; simp only [GPromise.val_eq]; rfl
    · have hpu : Chg (fun k => k = q) wr (World.putCells wr ⟨q, 0, none⟩ (GPromise.enc pv)) := chg_put (S := fun k => k = q) rfl _
      have hqs : ∀ j < 20, ¬ B j = q := fun j hj e => by have := HH.out.lt j hj; have := HQ.out; omega
      have hcz : Chg (fun k => k = B 2 ∨ k = B 3) w (World.putCells wr ⟨q, 0, none⟩ (GPromise.enc pv)) := chg_after HBA.out ((HC5.out.sub (S' := fun k => (k = B 2 ∨ k = B 3) ∨ k = q) (fun k e => .inl e)).tr (hpu.sub (fun k e => .inr e))) (fun k e => e.imp id (fun e => by rw [HQ.out]; omega))
      exact HH.out.withBS (HR5.out.book.chg hpu (hqs 1 (by omega)) (hqs 2 (by omega))) (HR5.out.st.chg hpu (hqs 3 (by omega)) (hqs 4 (by omega))) hcz
    · have hpu : Chg (fun k => k = q) wr (World.putCells wr ⟨q, 0, none⟩ (GPromise.enc pv)) := chg_put (S := fun k => k = q) rfl _
      exact chg_after HBA.out ((HC5.out.sub (S' := fun k => (k = B 2 ∨ k = B 3) ∨ k = q) (fun k e => .inl e)).tr (hpu.sub (fun k e => .inr e))) (fun k e => e.imp id (fun e => by rw [HQ.out]; omega))
end Go.Proofs.YtfhhcgldikmejaaGreatDoor
/- A replica's keep, of the first promise. Conditions: those named in each theorem. -/
namespace Go.Proofs.YtfhhcgldikmejaaGreatDoor
open Go Go.RowKit Go.Gv Go.Proofs

theorem ep_proms (x : GReplicaEpoch) (h : Hdr) : Enc.enc ({ x with promises := h } : GReplicaEpoch) = (Enc.enc x).set 7 (.slice h.a h.len h.cap) := by
  show GReplicaEpoch.enc _ = (GReplicaEpoch.enc _).set _ _
  simp [GReplicaEpoch.enc, Hdr.val]
theorem RepIs.withProms {w0 w w' : World} {B : Nat → Nat} {x : RSt} (h : RepIs w0 w B x) {a : Option Addr} {bm : Nat} {ht hp hp' : Hdr} {l : List GPromise} {asq : Bool} {ar at_ : Int} (h1 : get? GReplicaReplica w ⟨B 0, 0, none⟩ = some (repG B x a)) (h2 : blkFree w (B 0) = true) (h5 : Slices w0 w B x ht hp)
    (hc : Chg (fun k => k = B 11 ∨ hp.val.ownBlock = some k) w w') (hg : get? GReplicaEpoch w' ⟨B 11, 0, none⟩ = some (epG B { x with promises := l, asks := asq, askRound := ar, askTime := at_ } bm ht hp')) (hf : blkFree w' (B 11) = true) (ho1 : OwnS w' w0.heap.size 49 hp'.val l)
    (hb : hp'.val.ownBlock = none ∨ hp'.val.ownBlock = hp.val.ownBlock ∨ ∃ k, hp'.val.ownBlock = some k ∧ w.heap.size ≤ k) : RepIs w0 w' B { x with promises := l, asks := asq, askRound := ar, askTime := at_ } := by
  have n := fun (j : Nat) (hj : j < 20) (hne : j ≠ 11) => show ¬ (B j = B 11 ∨ hp.val.ownBlock = some (B j)) from fun e => e.elim (h.ne (i := 11) (by omega) j hj hne) (h5.np j hj)
  have hnew : ∀ k, (k = B 11 ∨ hp.val.ownBlock = some k) → w0.heap.size ≤ k := fun k e => e.elim (fun e => e ▸ h.new 11 (by omega)) (fun e => (h5.proms.lt k e).1)
  refine ⟨Chg.bel2 h.bel hc hnew, h.new, fun j hj => Nat.lt_of_lt_of_le (h.lt j hj) hc.size, h.apart, h.book.chg hc (n 1 (by omega) (by omega)) (n 2 (by omega) (by omega)), h.st.chg hc (n 3 (by omega) (by omega)) (n 4 (by omega) (by omega)), h.tb.chg hc (n 5 (by omega) (by omega)) (n 6 (by omega) (by omega)), h.led.chg hc (n 7 (by omega) (by omega)) (n 8 (by omega) (by omega)),
    h.rev.chg hc (n 9 (by omega) (by omega)) (n 10 (by omega) (by omega)), h.core.chg hc (n 12 (by omega) (by omega)) (n 13 (by omega) (by omega)) (n 18 (by omega) (by omega)) (n 14 (by omega) (by omega)) (n 16 (by omega) (by omega)) (n 17 (by omega) (by omega)), hc.map h.pre (n 19 (by omega) (by omega)),
    a, bm, ht, hp', hc.get h1 (n 0 (by omega) (by omega)), hc.free h2 (get?_lt h1) (n 0 (by omega) (by omega)), hg, hf, ?_⟩
  refine ⟨h5.out.chg hc ?_, h5.timers.chg hc ?_, ho1, h5.no, h5.nt, ?_, ?_, ?_, fun p e => ?_, fun k o e => ?_⟩
  · intro k e e2
    rcases e2 with e2 | e2
    · exact h5.no 11 (by omega) (by rw [e, e2])
    · exact (h5.ot k e).2 e2
  · intro k e e2
    rcases e2 with e2 | e2
    · exact h5.nt 11 (by omega) (by rw [e, e2])
    · exact h5.tp k e e2
  · intro j hj e
    rcases hb with hb | hb | ⟨k, hk, hlt⟩
    · rw [hb] at e; cases e
    · rw [hb] at e; exact h5.np j hj e
    · rw [hk] at e; injection e with e; have := h.lt j hj; omega
  · intro k e
    refine ⟨(h5.ot k e).1, fun e2 => ?_⟩
    rcases hb with hb | hb | ⟨k', hk, hlt⟩
    · rw [hb] at e2; cases e2
    · rw [hb] at e2; exact (h5.ot k e).2 e2
    · rw [hk] at e2; injection e2 with e2; have := (h5.out.lt k e).2; omega
  · intro k e e2
    rcases hb with hb | hb | ⟨k', hk, hlt⟩
    · rw [hb] at e2; cases e2
    · rw [hb] at e2; exact h5.tp k e e2
    · rw [hk] at e2; injection e2 with e2; have := (h5.timers.lt k e).2; omega
  · obtain ⟨p1, p2, p3, p4, p5, p6⟩ := h5.pv p e
    refine ⟨hc.get p1 ?_, p2, p3, p4, p5, ?_⟩
    · rintro (e | e)
      · exact p3 11 (by omega) e
      · exact p6 e
    · intro e
      rcases hb with hb | hb | ⟨k', hk, hlt⟩
      · rw [hb] at e; cases e
      · rw [hb] at e; exact p6 e
      · rw [hk] at e; injection e with e; have := get?_lt p1; simp only at this; omega
  · obtain ⟨p1, p3, p4, p5, p6⟩ := h5.kp k o e
    refine ⟨(hc.block k (some_lt p1) ?_).trans p1, p3, p4, p5, ?_⟩
    · rintro (e | e)
      · exact p3 11 (by omega) e
      · exact p6 e
    · intro e
      rcases hb with hb | hb | ⟨k', hk, hlt⟩
      · rw [hb] at e; cases e
      · rw [hb] at e; exact p6 e
      · rw [hk] at e; injection e with e; have := some_lt p1; omega
set_option maxRecDepth 100000 in
set_option maxHeartbeats 1000000 in
theorem index0P_any (A : Option Addr) (c : Nat) (fv : Value) (w : World) : Calls Tryz.prog 205 #[.slice A 0 c, fv] w fun e w' => e = .returned (.int .i64 (-1)) ∧ Bel w w' := by
  go_enter Tryz.func205, Tryz.ntmps205
  go_wp2_with fail
  go_loopw [8] (fun iv wr => iv = .int .i64 0 ∧ wr = w) (fun _ _ => 0)
  case atStart => exact ⟨rfl, rfl⟩
  case round =>
    obtain ⟨rfl, rfl⟩ := hrel
    go_wp2_with fail
    go_ret
    exact ⟨rfl, Bel.refl _⟩
set_option maxRecDepth 100000 in
set_option maxHeartbeats 1000000 in
theorem contains0P_any (A : Option Addr) (c : Nat) (fv : Value) (w : World) : Calls Tryz.prog 153 #[.slice A 0 c, fv] w fun e w' => e = .returned (.bool false) ∧ Bel w w' := by
  go_enter Tryz.func153, Tryz.ntmps153
  go_wp2_with fail
  refine (index0P_any A c fv w).mono ?_
  rintro _ wa ⟨rfl, hb⟩
  have HB := Lib.hid hb
  clear hb
  go_wp2_with fail
  go_ret
  exact ⟨rfl, HB.out⟩
set_option maxRecDepth 100000 in
set_option maxHeartbeats 4000000 in
theorem keep_any (w0 : World) (B : Nat → Nat) (x : RSt) (pr : GPromise) (f : Nat) (w : World) (h : RepIs w0 w B x) (hx : x.promises = []) (hf : x.c.f = (f : Int)) (hf0 : 1 ≤ f) (hf1 : f ≤ 21) : Calls Tryz.prog 102 #[.pointer (some ⟨B 0, 0, none⟩), pr.val] w fun e w' =>
    e = .returned (.tuple #[]) ∧ RepIs w0 w' B { x with promises := [pr] } := by
  have HX := Lib.hid hx; have HF := Lib.hid hf; have HF0 := Lib.hid hf0; have HF1 := Lib.hid hf1
  have h1 := h.step ((Bel.refl w).alloc (.cells (GPromise.enc pr).toArray 49))
  have c1 : get? GPromise (w.alloc (.cells (GPromise.enc pr).toArray 49)) ⟨w.heap.size, 0, none⟩ = some pr := get?_new _ _
  have hsz : w0.heap.size ≤ w.heap.size := Below.size h.bel
  have hlt : ∀ j < 20, B j < w.heap.size := h.lt
  obtain ⟨a, bm, ht, hp, g1, g2, g3, g4, g5⟩ := h.more
  have hba := (Bel.refl w).alloc (.cells (GPromise.enc pr).toArray 49)
  have hpq := fun k e => (g5.proms.lt k e).2
  replace g2 := (blkFree_keep (Below.block hba _ (get?_lt g1))).trans g2
  replace g4 := (blkFree_keep (Below.block hba _ (get?_lt g3))).trans g4
  replace g1 := GB.get hba g1
  replace g3 := GB.get hba g3
  replace g5 := g5.chg (Chg.of_bel hba (fun _ => False)) (fun _ _ h => h) (fun _ _ h => h) (fun _ _ h => h) (fun _ _ h => h) (fun _ _ _ h => h)
  clear hba
  clear hx hf hf0 hf1
  go_enter Tryz.func102, Tryz.ntmps102
  go_upto_region 2 with fail
  obtain ⟨q, hq⟩ : ∃ q, w.heap.size = q := ⟨_, rfl⟩
  have HQ := Lib.hid hq
  rw [hq] at c1 hlt hsz hpq ⊢
  generalize w.alloc (.cells (GPromise.enc pr).toArray 49) = wa at c1 h1 g1 g2 g3 g4 g5 ⊢
  have H1 := Lib.hid h1; have HPQ := Lib.hid hpq; have C1 := Lib.hid c1; have HLT := Lib.hid hlt; have G1 := Lib.hid g1; have G2 := Lib.hid g2; have G3 := Lib.hid g3; have G4 := Lib.hid g4; have G5 := Lib.hid g5; have HSZ := Lib.hid hsz
  have hps := g5.proms
  rw [HX.out] at hps
  obtain ⟨A, c, hpe, _⟩ := hps.shape
  have HPE := Lib.hid hpe
  have k1 := (ep_get h1)
  clear k1
  have k0 := (rep_cells h1).2.2.2.2.2.2.2.1
  have k1 := GReplicaEpoch.at_promises g3
  simp only [Addr.add_lit, Nat.zero_add] at k1
  change wa.cell? ⟨B 11, 7, none⟩ = some hp.val at k1
  rw [hpe] at k1
  simp only [List.length_nil] at k1
  clear h h1 c1 hlt g1 g2 g3 g4 g5 hps hpe hq hsz hpq
  go_wp2_with fail
  refine (contains0P_any A c _ wa).mono ?_
  rintro _ wb ⟨rfl, hbb⟩
  have HB1 := Lib.hid hbb
  clear hbb k0 k1
  go_upto_region 3 with fail
  have hob : ∀ j < 20, ¬ hp.val.ownBlock = some (B j) := G5.out.np
  have hoq : ¬ hp.val.ownBlock = some q := fun e => by have := HPQ.out q e; omega
  have HOB := Lib.hid hob; have HOQ := Lib.hid hoq
  clear hob hoq
  refine wp_region_H GB (Chg (fun k => hp.val.ownBlock = some k)) [13, 16] [16] GB.rf (by kernel_rfl) ?_
  refine wpH_looks 5 17 [0, 1, 2, 3, 4, 5, 6, 7, 8, 9, 10, 11] rfl GB.rf GB.tr (Chg.refl _) (fun _ _ _ => Chg.tr) (fun _ _ h => Chg.of_bel h _) (by kernel_rfl) (fun _ _ _ _ hd h => And.intro (hd ▸ And.left h) (And.right h)) rfl (by kernel_rfl) ?_
  intro ι W hne CW
  have CC : ∀ z, Chg (fun k => hp.val.ownBlock = some k) wa (W z) := fun z => (Chg.of_bel (Bel.trans HB1.out ((Bel.refl wb).drew)) _).tr (CW.out z)
  have k0 : ∀ z, (W z).cell? ⟨B 0, 10, none⟩ = some (.pointer (some ⟨B 11, 0, none⟩)) := fun z => (CC z).cell (rep_cells H1.out).2.2.2.2.2.2.2.1 (HOB.out 0 (by omega))
  have k1 : ∀ z, (W z).cell? ⟨B 11, 7, none⟩ = some (.slice A 0 c) := fun z => by
    have := (CC z).cell (GReplicaEpoch.at_promises G3.out) (HOB.out 11 (by omega))
    simp only [Addr.add_lit, Nat.zero_add] at this
    change (W z).cell? ⟨B 11, 7, none⟩ = some hp.val at this
    rw [HPE.out] at this
    exact this
  have k2 : ∀ z, get? GPromise (W z) ⟨q, 0, none⟩ = some pr := fun z => (CC z).get C1.out HOQ.out
  clear CC
  repeat (refine wpLooksG_step (fun K hK => ?_); go_simp; refine hK _ ?_; clear hK K)
  refine wpLooksG_nil ?_
  clear k0 k1 k2 CW hne W ι
  refine wpH_force 12 _ rfl (by kernel_rfl) rfl fun w7 hw7 K hK => ?_
  go_simp
  refine hK _ _ (fun _ => GB.al _ _) (fun _ => Chg.of_bel (GB.al _ _) _) ?_
  clear hK K
  have hs : Sl GPromise (w7.alloc (.cells (Enc.enc pr).toArray 49)) (w7.alloc (.cells (Enc.enc pr).toArray 49)).heap.size (some ⟨w7.heap.size, 0, none⟩) 1 [pr] := Sl.new_ (xs := [pr]) (by simp) rfl rfl (by simp)
  have hbf : Bel wa (w7.alloc (.cells (Enc.enc pr).toArray 49)) := (Bel.trans HB1.out (GB.undrew hw7)).trans ((Bel.refl w7).alloc (.cells (Enc.enc pr).toArray 49))
  obtain ⟨p, hp2⟩ : ∃ p, w7.heap.size = p := ⟨_, rfl⟩
  rw [hp2] at hs ⊢
  change wpH _ _ _ _ _ _ _ _ _ _ _ (w7.alloc (.cells (Enc.enc pr).toArray 49))
  generalize w7.alloc (.cells (Enc.enc pr).toArray 49) = wg at hs hbf ⊢
  have HS := Lib.hid hs; have HBF := Lib.hid hbf
  clear hs hbf hp2 hw7
  refine wpH_force 13 _ rfl (by kernel_rfl) rfl fun w8 hw8 K hK => ?_
  have hown := OwnS.step G5.out.proms (HBF.out.trans hw8)
  rw [HX.out] at hown
  obtain ⟨v', w', hrun, ho, hgr, hob⟩ := gAppend_S (P := Tryz.prog) ei50 hown (HS.out.stepB hw8) (by unfold maxLen; simp) (by simp) (by have := HSZ.out; have := Below.size (HBF.out.trans hw8); have := get?_lt C1.out; simp only at this; omega) 50
  rw [HPE.out] at hrun
  change (gAppend #[50, 50] 50 #[.slice A 0 c, .slice (some ⟨p, 0, none⟩) 1 1]).run Tryz.prog w8 = .ok v' w' at hrun
  obtain ⟨A', c', rfl, _⟩ := ho.shape
  go_simp
  refine hK _ _ (fun h => absurd (by simp) h) (fun _ => Chg.of_grown hgr (fun k e => e)) ?_
  clear hK K
  have HW8 := Lib.hid (HBF.out.trans hw8); have HO := Lib.hid ho; have HGR := Lib.hid hgr; have HOB2 := Lib.hid hob
  clear ho hgr hob hw8 hrun hown
  refine wpH_force 14 _ rfl (by kernel_rfl) rfl fun w9 hw9 K hK => ?_
  go_simp
  refine hK _ _ (fun _ => GB.rf _) (fun _ => Chg.refl _ _) ?_
  clear hK K
  refine wpH_force 15 _ rfl (by kernel_rfl) rfl fun w10 hw10 K hK => ?_
  go_simp
  refine hK _ _ (fun _ => GB.rf _) (fun _ => Chg.refl _ _) ?_
  clear hK K
  refine wpH_force 16 _ rfl (by kernel_rfl) rfl fun w11 hw11 K hK => ?_
  have hb11 := GB.tr _ _ _ (GB.tr _ _ _ hw9 hw10) hw11
  have HC11 := Lib.hid (((Chg.of_bel HW8.out _).tr (Chg.of_grown HGR.out (fun k e => e)) : Chg (fun k => hp.val.ownBlock = some k) wa w').tr (Chg.of_bel hb11 _))
  have HO11 := Lib.hid (OwnS.step HO.out hb11)
  have g11 := HC11.out.get G3.out (HOB.out 11 (by omega))
  have f11 := HC11.out.free G4.out (get?_lt G3.out) (HOB.out 11 (by omega))
  have k7 := GReplicaEpoch.at_promises g11
  simp only [Addr.add_lit, Nat.zero_add] at k7
  change w11.cell? ⟨B 11, 7, none⟩ = some hp.val at k7
  rw [HPE.out] at k7
  have z7 : w11.frozen? ⟨B 11, 7, none⟩ = false := frozen_of_free f11
  have G11 := Lib.hid g11; have F11 := Lib.hid f11
  clear g11 f11
  go_simp
  refine hK _ _ (fun h => absurd (by simp) h) (fun h => absurd (by simp) h) ?_
  clear hK K k7 z7 hb11 hw9 hw10 hw11
  have hc12 : Chg (fun k => k = B 11 ∨ hp.val.ownBlock = some k) wa (w11.setCell ⟨B 11, 7, none⟩ (.slice A' ([] ++ [pr] : List GPromise).length c')) := (HC11.out.sub (fun k e => .inr e)).tr (chg_cell (S := fun k => k = B 11 ∨ hp.val.ownBlock = some k) (.inl rfl) _)
  have hg12 : get? GReplicaEpoch (w11.setCell ⟨B 11, 7, none⟩ (.slice A' ([] ++ [pr] : List GPromise).length c')) ⟨B 11, 0, none⟩ = some (epG B { x with promises := [pr] } bm ht ⟨A', 1, c'⟩) := get?_poke G11.out (ep_proms (epG B x bm ht hp) ⟨A', 1, c'⟩)
  have hr12 : RepIs w0 (w11.setCell ⟨B 11, 7, none⟩ (.slice A' ([] ++ [pr] : List GPromise).length c')) B { x with promises := [pr] } := by
    refine H1.out.withProms (asq := x.asks) (ar := x.askRound) (at_ := x.askTime) (l := [pr]) G1.out G2.out G5.out hc12 hg12 (by rw [blkFree_setCell]; exact F11.out) (HO11.out.chg (chg_cell (S := fun k => k = B 11) rfl _) (fun k e he => ?_)) ?_
    · rcases HOB2.out with e2 | e2
      · exact HOB.out 11 (by omega) (by rw [← he, ← e, ← e2])
      · rw [e2] at e; injection e with e; have := H1.out.lt 11 (by omega); have := Below.size HW8.out; omega
    · rcases HOB2.out with e | e
      · exact .inr (.inl e)
      · exact .inr (.inr ⟨_, e, Below.size HW8.out⟩)
  have k12 := GReplicaEpoch.at_promises hg12
  simp only [Addr.add_lit, Nat.zero_add] at k12
  change (w11.setCell ⟨B 11, 7, none⟩ (.slice A' 1 c')).cell? ⟨B 11, 7, none⟩ = some (.slice A' 1 c') at k12
  change RepIs w0 (w11.setCell ⟨B 11, 7, none⟩ (.slice A' 1 c')) B { x with promises := [pr] } at hr12
  change wpH _ _ _ _ _ _ _ _ _ _ _ (w11.setCell ⟨B 11, 7, none⟩ (.slice A' 1 c'))
  generalize w11.setCell ⟨B 11, 7, none⟩ (.slice A' 1 c') = w5 at k12 hr12 ⊢
  have HR5 := Lib.hid hr12; have K12 := Lib.hid k12
  clear k12 hr12 hg12 hc12
  refine wpH_end (by kernel_rfl) (fun wn hwn => ?_) _
  have HRN := Lib.hid (HR5.out.step hwn); have KN := Lib.hid (GB.cell hwn K12.out)
  clear hwn HR5 K12 HO11 HC11 G11 F11 HO HGR HOB2 HW8 HBF HS HB1
  go_upto_region 4 with fail
  refine wp_region_G GB [] GB.rf (by kernel_rfl) ?_
  refine wpG_looks 2 14 [0, 1, 2, 3, 4, 5, 6, 7, 8, 9, 10, 11] rfl GB.rf GB.tr (by kernel_rfl) (fun _ _ _ _ hd h => And.intro (hd ▸ And.left h) (And.right h)) rfl (by kernel_rfl) ?_
  intro ι W hne CW
  have k0 : ∀ z, (W z).cell? ⟨B 0, 10, none⟩ = some (.pointer (some ⟨B 11, 0, none⟩)) := fun z => GB.cell (GB.undrew (CW.out z)) (rep_cells HRN.out).2.2.2.2.2.2.2.1
  have k1 : ∀ z, (W z).cell? ⟨B 11, 7, none⟩ = some (.slice A' 1 c') := fun z => GB.cell (GB.undrew (CW.out z)) KN.out
  have k2 : ∀ z, get? GConf (W z) ⟨B 0, 0, none⟩ = some x.c := fun z => GB.get (GB.undrew (CW.out z)) (rep_cells HRN.out).2.2.2.2.2.2.2.2.2
  repeat (refine wpLooksG_step (fun K hK => ?_); go_simp; refine hK _ ?_; clear hK K)
  refine wpLooksG_nil ?_
  clear k0 k1 k2 CW hne W ι
  have hq3 : (1 : Int) < 2 * (f : Int) + 1 := by have := HF0.out; omega
  refine wpG_force 12 _ rfl (by kernel_rfl) rfl fun wx hwx K hK => ?_
  go_simp
  refine (q_any x.c wx (by have := HF.out; omega) (by have := HF.out; have := HF1.out; omega)).mono ?_
  rw [HF.out]
  rintro _ wy ⟨rfl, hby⟩
  refine hK _ _ (fun _ => hby) ?_
  clear hK K
  refine wpG_force 13 _ rfl (by kernel_rfl) rfl fun wz hwz K hK => ?_
  go_simp
  refine hK _ _ (fun _ => GB.rf _) ?_
  clear hK K
  have hbz := Bel.trans (GB.undrew hwx) (Bel.trans hby hwz)
  refine wpG_end (by kernel_rfl) (fun we hwe => ?_) _
  have HRE := Lib.hid ((HRN.out.step hbz).step hwe)
  clear hbz hwz hby hwx hwe HRN KN
  go_wp2_with fail
  refine bodyPost_ret (results_none rfl _ _ _) rfl ?_
  exact ⟨rfl, HRE.out⟩
end Go.Proofs.YtfhhcgldikmejaaGreatDoor
/- A replica's own proposal, asked for at time 0. Conditions: those named in each theorem. -/
namespace Go.Proofs.YtfhhcgldikmejaaGreatDoor
open Go Go.RowKit Go.Gv Go.Proofs

theorem ep_asks (x : GReplicaEpoch) (v : Bool) : Enc.enc ({ x with asks := v } : GReplicaEpoch) = (Enc.enc x).set 4 (.bool v) := by
  show GReplicaEpoch.enc _ = (GReplicaEpoch.enc _).set _ _
  simp [GReplicaEpoch.enc]
theorem ep_askRound (x : GReplicaEpoch) (v : Int) : Enc.enc ({ x with askRound := v } : GReplicaEpoch) = (Enc.enc x).set 5 (.int .i64 v) := by
  show GReplicaEpoch.enc _ = (GReplicaEpoch.enc _).set _ _
  simp [GReplicaEpoch.enc]
theorem ep_askTime (x : GReplicaEpoch) (v : Int) : Enc.enc ({ x with askTime := v } : GReplicaEpoch) = (Enc.enc x).set 6 (.int .u64 v) := by
  show GReplicaEpoch.enc _ = (GReplicaEpoch.enc _).set _ _
  simp [GReplicaEpoch.enc]
set_option maxRecDepth 100000 in
set_option maxHeartbeats 4000000 in
theorem wantPropose_any (w0 : World) (B : Nat → Nat) (x : RSt) (ac : GCoreAct) (f : Nat) (w : World) (h : RepIs w0 w B x) (hac : ac.hash = default) (hn : x.now = 0) (hl : x.out.length ≤ 1000) (hi : x.id ≤ 1000000) (hB : x.book.length ≤ 1000000000) (hf : x.c.f = (f : Int)) (hf0 : 1 ≤ f) (hf1 : f ≤ 21) :
    Calls Tryz.prog 80 #[.pointer (some ⟨B 0, 0, none⟩), ac.val] w fun e w' =>
    e = .returned (.tuple #[]) ∧ ∃ ho, RepIs w0 w' B { x with book := signB x.book (keyP x.id 0 1), floor := max x.floor 1, promises := [promG x 1], asks := true, askRound := ac.round, askTime := 1, ho := ho, out := x.out ++ toAll x.id (closeM ac.round 1) (3 * f + 1) } := by
  have HH := Lib.hid h; have HL := Lib.hid hl; have HI := Lib.hid hi; have HB := Lib.hid hB; have HF := Lib.hid hf; have HF0 := Lib.hid hf0; have HF1 := Lib.hid hf1; have HN := Lib.hid hn
  have h1 := h.step ((Bel.refl w).alloc (.cells (GCoreAct.enc ac).toArray 193))
  have c1 : get? GCoreAct (w.alloc (.cells (GCoreAct.enc ac).toArray 193)) ⟨w.heap.size, 0, none⟩ = some ac := get?_new _ _
  have hlt : ∀ j < 20, B j < w.heap.size := h.lt
  clear hl hi hB hf hf0 hf1 hn
  go_enter Tryz.func80, Tryz.ntmps80
  go_upto_region 1 with fail
  obtain ⟨q, hq⟩ : ∃ q, w.heap.size = q := ⟨_, rfl⟩
  have HQ := Lib.hid hq
  rw [hq] at c1 hlt ⊢
  generalize w.alloc (.cells (GCoreAct.enc ac).toArray 193) = wa at c1 h1 ⊢
  have H1 := Lib.hid h1; have C1 := Lib.hid c1; have HLT := Lib.hid hlt
  have k0 := GCoreAct.at_hash c1
  simp only [Addr.add_lit, Nat.zero_add] at k0
  rw [hac] at k0
  have k1 := (rep_cells h1).2.2.2.1
  have k2 := (rep_cells h1).2.2.2.2.2.1
  clear h h1 c1 hlt hq hac
  go_upto_region 5 with fail
  have hnow : Calls Tryz.prog 33 #[.pointer (some ⟨B 3, 0, none⟩)] wa fun e w' => e = .returned (.int .u64 0) ∧ w' = wa := by
    have := now_any (B 3) (B 4) x.c x.id x.now x.floor x.last x.stamps wa H1.out.st
    rw [HN.out] at this
    exact this
  go_wp2_with fail
  refine hnow.mono ?_
  rintro _ w1 ⟨rfl, hw1⟩
  obtain rfl : wa = w1 := hw1.symm
  clear hnow hw1
  go_wp2_with fail
  refine (last0_any (B 7) (B 8) wa H1.out.led).mono ?_
  rintro _ w1 ⟨rfl, hw1⟩
  obtain rfl : wa = w1 := hw1.symm
  clear hw1
  go_wp2_with fail
  refine (repPromise_any w0 B x 1 wa H1.out (by omega) (by omega) HI.out HB.out).mono ?_
  rintro _ wb ⟨rfl, hr, hch⟩
  obtain ⟨pr, hpr⟩ : ∃ pr, promG x 1 = pr := ⟨_, rfl⟩
  have HPR := Lib.hid hpr
  rw [hpr]
  have HRB := Lib.hid hr
  have CB := Lib.hid (hch.get C1.out (by rintro (e | e); exact absurd e (by have := HLT.out 2 (by omega); simp only; omega); exact absurd e (by have := HLT.out 3 (by omega); simp only; omega)))
  have HSB := Lib.hid (hch.size)
  clear hch hr hpr k0 k1 k2
  go_upto_region 9 with fail
  have g8 : get? GPromise (wb.alloc (.cells (GPromise.enc pr).toArray 49)) ⟨wb.heap.size, 0, none⟩ = some pr := get?_new _ _
  have hbc := (Bel.refl wb).alloc (.cells (GPromise.enc pr).toArray 49)
  obtain ⟨q8, hq8⟩ : ∃ q8, wb.heap.size = q8 := ⟨_, rfl⟩
  have hown8 : ∀ k, x.ho.val.ownBlock = some k → k < q8 := fun k e => by have := ((rep_own HRB.out).1.lt k e).2; omega
  have hlt8 : ∀ j < 20, B j < q8 := fun j hj => by have := HRB.out.lt j hj; omega
  rw [hq8] at g8 ⊢
  change Code.wp _ _ _ _ (wb.alloc (.cells (GPromise.enc pr).toArray 49))
  generalize wb.alloc (.cells (GPromise.enc pr).toArray 49) = wc at g8 hbc ⊢
  have G8 := Lib.hid g8; have OWN8 := Lib.hid hown8; have LT8 := Lib.hid hlt8
  have HRC := Lib.hid (HRB.out.step hbc); have CC1 := Lib.hid (GB.get hbc CB.out)
  clear g8 hown8 hlt8 hbc hq8 HRB CB
  go_upto_region 10 with fail
  obtain ⟨y, hy⟩ : ∃ y : RSt, ({ x with book := signB x.book (keyP x.id 0 1), floor := max x.floor ((1 : Nat) : Int) } : RSt) = y := ⟨_, rfl⟩
  have HY := Lib.hid hy
  rw [hy] at HRC
  clear hy
  obtain ⟨a, bm, ht, hp, g1, g2, g3, g4, g5⟩ := HRC.out.more
  have G1 := Lib.hid g1; have G2 := Lib.hid g2; have G3 := Lib.hid g3; have G4 := Lib.hid g4; have G5 := Lib.hid g5
  clear g1 g2 g3 g4 g5
  refine wp_region_H GB (Chg (fun k => k = B 11)) [21, 24, 27, 30] [] GB.rf (by kernel_rfl) ?_
  refine wpH_looks 12 31 [0, 1, 2, 3, 4, 5, 6, 7, 8, 9, 10, 11, 12, 13, 14, 15, 16, 17, 18] rfl GB.rf GB.tr (Chg.refl _) (fun _ _ _ => Chg.tr) (fun _ _ h => Chg.of_bel h _) (by kernel_rfl) (fun _ _ _ _ hd h => And.intro (hd ▸ And.left h) (And.right h)) rfl (by kernel_rfl) ?_
  intro ι W hne CW
  have CX : ∀ z, Chg (fun k => k = B 11) wc (W z) := fun z => (Chg.of_bel ((Bel.refl wc).drew) _).tr (CW.out z)
  have k0 : ∀ z, (W z).cell? ⟨B 0, 10, none⟩ = some (.pointer (some ⟨B 11, 0, none⟩)) := fun z => (CX z).cell (rep_cells HRC.out).2.2.2.2.2.2.2.1 (HRC.out.ne (i := 11) (by omega) 0 (by omega) (by omega))
  have k1 : ∀ z, (W z).cell? ⟨q, 1, none⟩ = some (.int .i64 ac.round) := fun z => by
    have := GCoreAct.at_round ((CX z).get CC1.out (fun e => by have := HLT.out 11 (by omega); simp only at e; omega))
    simpa only [Addr.add_lit, Nat.zero_add] using this
  clear CX
  repeat (refine wpLooksG_step (fun K hK => ?_); go_simp; refine hK _ ?_; clear hK K)
  refine wpLooksG_nil ?_
  clear k0 k1 CW hne W ι
  have HCH0 := Lib.hid (Chg.refl (fun k => k = B 11) wc)
  refine wpH_force 19 _ rfl (by kernel_rfl) rfl fun v19 hv19 K hK => ?_
  go_simp
  refine hK _ _ (fun _ => GB.rf _) (fun _ => Chg.refl _ _) ?_
  clear hK K
  refine wpH_force 20 _ rfl (by kernel_rfl) rfl fun v20 hv20 K hK => ?_
  go_simp
  refine hK _ _ (fun _ => GB.rf _) (fun _ => Chg.refl _ _) ?_
  clear hK K
  refine wpH_force 21 _ rfl (by kernel_rfl) rfl fun v21 hv21 K hK => ?_
  have hb0 := GB.tr _ _ _ (GB.tr _ _ _ (GB.undrew hv19) hv20) hv21
  have e0 : get? GReplicaEpoch v21 ⟨B 11, 0, none⟩ = some (epG B y bm ht hp) := GB.get hb0 G3.out
  have f0 := (blkFree_keep (Below.block hb0 _ (get?_lt G3.out))).trans G4.out
  have j0 := GReplicaEpoch.at_asks e0
  simp only [Addr.add_lit, Nat.zero_add] at j0
  change v21.cell? ⟨B 11, 4, none⟩ = some (.bool y.asks) at j0
  have z0 : v21.frozen? ⟨B 11, 4, none⟩ = false := frozen_of_free f0
  have EE0 := Lib.hid (show get? GReplicaEpoch (v21.setCell ⟨B 11, 4, none⟩ (.bool true)) ⟨B 11, 0, none⟩ = some ({ epG B y bm ht hp with asks := true }) from get?_poke e0 (ep_asks (epG B y bm ht hp) true)); have FF0 := Lib.hid (show blkFree (v21.setCell ⟨B 11, 4, none⟩ (.bool true)) (B 11) = true by rw [blkFree_setCell]; exact f0)
  have HCH1 := Lib.hid ((HCH0.out.tr (Chg.of_bel hb0 _)).tr (chg_cell (S := fun k => k = B 11) rfl (.bool true) (w := v21) (o := 4)))
  clear e0 f0
  go_simp
  refine hK _ _ (fun h => absurd (by simp) h) (fun _ => chg_cell (S := fun k => k = B 11) rfl _) ?_
  clear hK K j0 z0 hb0 hv19 hv20 hv21 HCH0
  change wpH _ _ _ _ _ _ _ _ _ _ _ (v21.setCell ⟨B 11, 4, none⟩ (.bool true))
  generalize v21.setCell ⟨B 11, 4, none⟩ (.bool true) = u0 at EE0 FF0 HCH1 ⊢
  refine wpH_force 22 _ rfl (by kernel_rfl) rfl fun v22 hv22 K hK => ?_
  go_simp
  refine hK _ _ (fun _ => GB.rf _) (fun _ => Chg.refl _ _) ?_
  clear hK K
  refine wpH_force 23 _ rfl (by kernel_rfl) rfl fun v23 hv23 K hK => ?_
  go_simp
  refine hK _ _ (fun _ => GB.rf _) (fun _ => Chg.refl _ _) ?_
  clear hK K
  refine wpH_force 24 _ rfl (by kernel_rfl) rfl fun v24 hv24 K hK => ?_
  have hb1 := GB.tr _ _ _ (GB.tr _ _ _ hv22 hv23) hv24
  have e1 : get? GReplicaEpoch v24 ⟨B 11, 0, none⟩ = some ({ epG B y bm ht hp with asks := true }) := GB.get hb1 EE0.out
  have f1 := (blkFree_keep (Below.block hb1 _ (get?_lt EE0.out))).trans FF0.out
  have j1 := GReplicaEpoch.at_askRound e1
  simp only [Addr.add_lit, Nat.zero_add] at j1
  change v24.cell? ⟨B 11, 5, none⟩ = some (.int .i64 y.askRound) at j1
  have z1 : v24.frozen? ⟨B 11, 5, none⟩ = false := frozen_of_free f1
  have EE1 := Lib.hid (show get? GReplicaEpoch (v24.setCell ⟨B 11, 5, none⟩ (.int .i64 ac.round)) ⟨B 11, 0, none⟩ = some ({ epG B y bm ht hp with asks := true, askRound := ac.round }) from get?_poke e1 (ep_askRound ({ epG B y bm ht hp with asks := true }) ac.round)); have FF1 := Lib.hid (show blkFree (v24.setCell ⟨B 11, 5, none⟩ (.int .i64 ac.round)) (B 11) = true by rw [blkFree_setCell]; exact f1)
  have HCH2 := Lib.hid ((HCH1.out.tr (Chg.of_bel hb1 _)).tr (chg_cell (S := fun k => k = B 11) rfl (.int .i64 ac.round) (w := v24) (o := 5)))
  clear e1 f1
  go_simp
  refine hK _ _ (fun h => absurd (by simp) h) (fun _ => chg_cell (S := fun k => k = B 11) rfl _) ?_
  clear hK K j1 z1 hb1 hv22 hv23 hv24 HCH1
  change wpH _ _ _ _ _ _ _ _ _ _ _ (v24.setCell ⟨B 11, 5, none⟩ (.int .i64 ac.round))
  generalize v24.setCell ⟨B 11, 5, none⟩ (.int .i64 ac.round) = u1 at EE1 FF1 HCH2 ⊢
  refine wpH_force 25 _ rfl (by kernel_rfl) rfl fun v25 hv25 K hK => ?_
  go_simp
  refine hK _ _ (fun _ => GB.rf _) (fun _ => Chg.refl _ _) ?_
  clear hK K
  refine wpH_force 26 _ rfl (by kernel_rfl) rfl fun v26 hv26 K hK => ?_
  go_simp
  refine hK _ _ (fun _ => GB.rf _) (fun _ => Chg.refl _ _) ?_
  clear hK K
  refine wpH_force 27 _ rfl (by kernel_rfl) rfl fun v27 hv27 K hK => ?_
  have hb2 := GB.tr _ _ _ (GB.tr _ _ _ hv25 hv26) hv27
  have e2 : get? GReplicaEpoch v27 ⟨B 11, 0, none⟩ = some ({ epG B y bm ht hp with asks := true, askRound := ac.round }) := GB.get hb2 EE1.out
  have f2 := (blkFree_keep (Below.block hb2 _ (get?_lt EE1.out))).trans FF1.out
  have j2 := GReplicaEpoch.at_askTime e2
  simp only [Addr.add_lit, Nat.zero_add] at j2
  change v27.cell? ⟨B 11, 6, none⟩ = some (.int .u64 y.askTime) at j2
  have z2 : v27.frozen? ⟨B 11, 6, none⟩ = false := frozen_of_free f2
  have EE2 := Lib.hid (show get? GReplicaEpoch (v27.setCell ⟨B 11, 6, none⟩ (.int .u64 1)) ⟨B 11, 0, none⟩ = some ({ epG B y bm ht hp with asks := true, askRound := ac.round, askTime := 1 }) from get?_poke e2 (ep_askTime ({ epG B y bm ht hp with asks := true, askRound := ac.round }) 1)); have FF2 := Lib.hid (show blkFree (v27.setCell ⟨B 11, 6, none⟩ (.int .u64 1)) (B 11) = true by rw [blkFree_setCell]; exact f2)
  have HCH3 := Lib.hid ((HCH2.out.tr (Chg.of_bel hb2 _)).tr (chg_cell (S := fun k => k = B 11) rfl (.int .u64 1) (w := v27) (o := 6)))
  clear e2 f2
  go_simp
  refine hK _ _ (fun h => absurd (by simp) h) (fun _ => chg_cell (S := fun k => k = B 11) rfl _) ?_
  clear hK K j2 z2 hb2 hv25 hv26 hv27 HCH2
  change wpH _ _ _ _ _ _ _ _ _ _ _ (v27.setCell ⟨B 11, 6, none⟩ (.int .u64 1))
  generalize v27.setCell ⟨B 11, 6, none⟩ (.int .u64 1) = u2 at EE2 FF2 HCH3 ⊢
  refine wpH_force 28 _ rfl (by kernel_rfl) rfl fun v28 hv28 K hK => ?_
  go_simp
  refine hK _ _ (fun _ => GB.rf _) (fun _ => Chg.refl _ _) ?_
  clear hK K
  refine wpH_force 29 _ rfl (by kernel_rfl) rfl fun v29 hv29 K hK => ?_
  go_simp
  refine hK _ _ (fun _ => GB.rf _) (fun _ => Chg.refl _ _) ?_
  clear hK K
  refine wpH_force 30 _ rfl (by kernel_rfl) rfl fun v30 hv30 K hK => ?_
  have hb3 := GB.tr _ _ _ (GB.tr _ _ _ hv28 hv29) hv30
  have e3 : get? GReplicaEpoch v30 ⟨B 11, 0, none⟩ = some ({ epG B y bm ht hp with asks := true, askRound := ac.round, askTime := 1 }) := GB.get hb3 EE2.out
  have f3 := (blkFree_keep (Below.block hb3 _ (get?_lt EE2.out))).trans FF2.out
  have j3 := GReplicaEpoch.at_promises e3
  simp only [Addr.add_lit, Nat.zero_add] at j3
  change v30.cell? ⟨B 11, 7, none⟩ = some (.slice hp.a hp.len hp.cap) at j3
  have z3 : v30.frozen? ⟨B 11, 7, none⟩ = false := frozen_of_free f3
  have EE3 := Lib.hid (show get? GReplicaEpoch (v30.setCell ⟨B 11, 7, none⟩ (.slice none 0 0)) ⟨B 11, 0, none⟩ = some ({ epG B y bm ht hp with asks := true, askRound := ac.round, askTime := 1, promises := nilH }) from get?_poke e3 (ep_proms ({ epG B y bm ht hp with asks := true, askRound := ac.round, askTime := 1 }) nilH)); have FF3 := Lib.hid (show blkFree (v30.setCell ⟨B 11, 7, none⟩ (.slice none 0 0)) (B 11) = true by rw [blkFree_setCell]; exact f3)
  have HCH4 := Lib.hid ((HCH3.out.tr (Chg.of_bel hb3 _)).tr (chg_cell (S := fun k => k = B 11) rfl (.slice none 0 0) (w := v30) (o := 7)))
  clear e3 f3
  go_simp
  refine hK _ _ (fun h => absurd (by simp) h) (fun _ => chg_cell (S := fun k => k = B 11) rfl _) ?_
  clear hK K j3 z3 hb3 hv28 hv29 hv30 HCH3
  change wpH _ _ _ _ _ _ _ _ _ _ _ (v30.setCell ⟨B 11, 7, none⟩ (.slice none 0 0))
  generalize v30.setCell ⟨B 11, 7, none⟩ (.slice none 0 0) = u3 at EE3 FF3 HCH4 ⊢
  have HR10 := Lib.hid (show RepIs w0 u3 B { y with promises := [], asks := true, askRound := ac.round, askTime := 1 } from
    HRC.out.withProms (asq := true) (ar := ac.round) (at_ := 1) (l := []) (hp' := nilH) G1.out G2.out G5.out (HCH4.out.sub (fun k e => .inl e)) EE3.out FF3.out (OwnS.nil _ _ _) (.inl rfl))
  have G8a := Lib.hid (HCH4.out.get G8.out (fun e => by have := LT8.out 11 (by omega); simp only at e; omega))
  clear EE0 EE1 EE2 EE3 FF0 FF1 FF2 FF3 HCH4 G1 G2 G3 G4 G5 G8 HRC CC1
  refine wpH_end (by kernel_rfl) (fun wn hwn => ?_) _
  have HRN := Lib.hid (HR10.out.step hwn); have G8n := Lib.hid (GB.get hwn G8a.out)
  clear hwn HR10 G8a
  go_wp2_with fail
  refine (ask_any w0 B _ f wn HRN.out (by rw [← HY.out]; exact HL.out) (by rw [← HY.out]; exact HF.out) HF1.out).mono ?_
  rintro _ wk ⟨rfl, ho, hr, hs⟩
  have g9 := hs.1.get G8n.out (by
    rw [← HY.out]
    rintro (e | e)
    · have := LT8.out 0 (by omega); simp only at e; omega
    · have := OWN8.out _ e; simp only at this; omega)
  have HRK := Lib.hid hr
  clear hr hs HRN G8n
  go_wp2_with fail
  refine (keep_any w0 B _ pr f wk HRK.out rfl (by rw [← HY.out]; exact HF.out) HF0.out HF1.out).mono ?_
  rintro _ we ⟨rfl, hr⟩
  have HRE := Lib.hid hr
  clear hr g9
  go_wp2_with fail
  refine bodyPost_end (results_none rfl _ _ _) rfl ⟨rfl, ho, ?_⟩
  have := HRE.out
  rw [← HY.out] at this
  rw [← HPR.out] at this
  exact this
end Go.Proofs.YtfhhcgldikmejaaGreatDoor
/- What the core wants is done: nothing, or a proposal. Conditions: those named in each theorem. -/
namespace Go.Proofs.YtfhhcgldikmejaaGreatDoor
open Go Go.RowKit Go.Gv Go.Proofs

theorem neq_ep (a : Addr) (w : World) : (binOp .neq 100 (.pointer (some a)) (.pointer (some a))).run Tryz.prog w = .ok (.bool false) w := by
  have hp : Tryz.prog.underlying 100 = some (.pointer 134) := by kernel_rfl
  obtain ⟨j, hj⟩ := Option.isSome_iff_exists.1 (show (Tryz.prog.info? 134).isSome = true by kernel_rfl)
  have h : ∀ d : Nat, (Op.equalIn (d + 1) 100 (.pointer (some a)) (.pointer (some a))).run Tryz.prog w = .ok true w := fun d => by
    simp [Op.equalIn, run_underlying hp, sizeOf, typeInfo, hj, run_sameAddr_same]
  simp only [binOp]
  simp [Op.equal, Op.maxDepth, h 9999]
def proposed (x : RSt) (r : Int) (f : Nat) : RSt := { x with book := signB x.book (keyP x.id 0 1), floor := max x.floor 1, promises := [promG x 1], asks := true, askRound := r, askTime := 1, out := x.out ++ toAll x.id (closeM r 1) (3 * f + 1) }
set_option maxRecDepth 100000 in
set_option maxHeartbeats 4000000 in
theorem want1_any (w0 : World) (B : Nat → Nat) (x : RSt) (ac : GCoreAct) (A : Option Addr) (f : Nat) (w : World) (h : RepIs w0 w B x) (hs : Sl GCoreAct w w.heap.size A 1 [ac]) (hk : ac.kind = 1) (hac : ac.hash = default) (hn : x.now = 0) (hl : x.out.length ≤ 1000) (hi : x.id ≤ 1000000) (hB : x.book.length ≤ 1000000000) (hf : x.c.f = (f : Int)) (hf0 : 1 ≤ f) (hf1 : f ≤ 21) :
    Calls Tryz.prog 42 #[.pointer (some ⟨B 0, 0, none⟩), .slice A 1 1] w fun e w' => e = .returned (.tuple #[]) ∧ ∃ ho, RepIs w0 w' B { proposed x ac.round f with ho := ho } := by
  have HH := Lib.hid h; have HS := Lib.hid hs
  have k0 := (rep_cells h).2.2.2.2.2.2.2.1
  have HW := Lib.hid (fun (w2 : World) (h2 : RepIs w0 w2 B x) => wantPropose_any w0 B x ac f w2 h2 hac hn hl hi hB hf hf0 hf1)
  have HK := Lib.hid hk
  clear h hs hac hn hl hi hB hf hf0 hf1 hk
  go_enter Tryz.func42, Tryz.ntmps42
  go_wp2_with fail
  go_loopw [14] (fun iv wr => (iv = .int .i64 0 ∧ wr = w) ∨ (iv = .int .i64 1 ∧ ∃ ho, Hid (RepIs w0 wr B { proposed x ac.round f with ho := ho }))) (fun iv _ => 1 - (intOf iv).toNat)
  case atStart => exact .inl ⟨rfl, rfl⟩
  case round =>
    rcases hrel with ⟨rfl, rfl⟩ | ⟨rfl, ho, hr⟩
    · obtain ⟨ad, y, hA, hab, hy, g0⟩ := HS.out.at_ (k := 0) (by omega)
      simp only [List.getElem?_cons_zero, Option.some.injEq] at hy
      subst hy hA
      rw [Nat.zero_mul] at g0
      have hadd : ad.add 0 = ad := by simp [Addr.add]
      rw [hadd] at g0
      have hba := (Bel.refl wr).alloc (.cells (GCoreAct.enc ac).toArray 193)
      have h1 := HH.out.step hba
      have H1 := Lib.hid h1
      have k1 := (rep_cells h1).2.2.2.2.2.2.2.1
      have c1 : get? GCoreAct (wr.alloc (.cells (GCoreAct.enc ac).toArray 193)) ⟨wr.heap.size, 0, none⟩ = some ac := get?_new _ _
      have kk := GCoreAct.at_kind c1
      simp only [Addr.add_lit, Nat.zero_add] at kk
      rw [HK.out] at kk
      have hne := neq_ep ⟨B 11, 0, none⟩ (wr.alloc (.cells (GCoreAct.enc ac).toArray 193))
      clear hba h1
      go_wp2_with fail
      refine (HW.out _ H1.out).mono ?_
      rintro _ w2 ⟨rfl, ho, hr⟩
      have HR := Lib.hid hr
      clear hr H1 k1 c1 kk g0 hadd hab
      go_wp2_with fail
      go_roundw
      case rel => exact .inr ⟨rfl, ho, HR⟩
      case measure => simp [intOf]
    · go_wp2_with fail
      exact bodyPost_end (results_none rfl _ _ _) rfl ⟨rfl, ho, hr.out⟩
end Go.Proofs.YtfhhcgldikmejaaGreatDoor
/- What the core wants is done: a timer. Conditions: those named in each theorem. -/
namespace Go.Proofs.YtfhhcgldikmejaaGreatDoor
open Go Go.RowKit Go.Gv Go.Proofs

theorem ep_timers (x : GReplicaEpoch) (h : Hdr) : Enc.enc ({ x with timers := h } : GReplicaEpoch) = (Enc.enc x).set 3 (.slice h.a h.len h.cap) := by
  show GReplicaEpoch.enc _ = (GReplicaEpoch.enc _).set _ _
  simp [GReplicaEpoch.enc, Hdr.val]
theorem RepIs.withTimers {w0 w w' : World} {B : Nat → Nat} {x : RSt} (h : RepIs w0 w B x) {a : Option Addr} {bm : Nat} {ht hp ht' : Hdr} {l : List GReplicaTimer} (h1 : get? GReplicaReplica w ⟨B 0, 0, none⟩ = some (repG B x a)) (h2 : blkFree w (B 0) = true) (h5 : Slices w0 w B x ht hp)
    (hc : Chg (fun k => k = B 11 ∨ ht.val.ownBlock = some k) w w') (hg : get? GReplicaEpoch w' ⟨B 11, 0, none⟩ = some (epG B { x with timers := l } bm ht' hp)) (hf : blkFree w' (B 11) = true) (ho1 : OwnS w' w0.heap.size 141 ht'.val l)
    (hb : ht'.val.ownBlock = none ∨ ht'.val.ownBlock = ht.val.ownBlock ∨ ∃ k, ht'.val.ownBlock = some k ∧ w.heap.size ≤ k) : RepIs w0 w' B { x with timers := l } := by
  have n := fun (j : Nat) (hj : j < 20) (hne : j ≠ 11) => show ¬ (B j = B 11 ∨ ht.val.ownBlock = some (B j)) from fun e => e.elim (h.ne (i := 11) (by omega) j hj hne) (h5.nt j hj)
  have hnew : ∀ k, (k = B 11 ∨ ht.val.ownBlock = some k) → w0.heap.size ≤ k := fun k e => e.elim (fun e => e ▸ h.new 11 (by omega)) (fun e => (h5.timers.lt k e).1)
  refine ⟨Chg.bel2 h.bel hc hnew, h.new, fun j hj => Nat.lt_of_lt_of_le (h.lt j hj) hc.size, h.apart, h.book.chg hc (n 1 (by omega) (by omega)) (n 2 (by omega) (by omega)), h.st.chg hc (n 3 (by omega) (by omega)) (n 4 (by omega) (by omega)), h.tb.chg hc (n 5 (by omega) (by omega)) (n 6 (by omega) (by omega)), h.led.chg hc (n 7 (by omega) (by omega)) (n 8 (by omega) (by omega)),
    h.rev.chg hc (n 9 (by omega) (by omega)) (n 10 (by omega) (by omega)), h.core.chg hc (n 12 (by omega) (by omega)) (n 13 (by omega) (by omega)) (n 18 (by omega) (by omega)) (n 14 (by omega) (by omega)) (n 16 (by omega) (by omega)) (n 17 (by omega) (by omega)), hc.map h.pre (n 19 (by omega) (by omega)),
    a, bm, ht', hp, hc.get h1 (n 0 (by omega) (by omega)), hc.free h2 (get?_lt h1) (n 0 (by omega) (by omega)), hg, hf, ?_⟩
  refine ⟨h5.out.chg hc ?_, ho1, h5.proms.chg hc ?_, h5.no, ?_, h5.np, ?_, ?_, fun p e => ?_, fun k o e => ?_⟩
  · intro k e e2
    rcases e2 with e2 | e2
    · exact h5.no 11 (by omega) (by rw [e, e2])
    · exact (h5.ot k e).1 e2
  · intro k e e2
    rcases e2 with e2 | e2
    · exact h5.np 11 (by omega) (by rw [e, e2])
    · exact h5.tp k e2 e
  · intro j hj e
    rcases hb with hb | hb | ⟨k, hk, hlt⟩
    · rw [hb] at e; cases e
    · rw [hb] at e; exact h5.nt j hj e
    · rw [hk] at e; injection e with e; have := h.lt j hj; omega
  · intro k e
    refine ⟨fun e2 => ?_, (h5.ot k e).2⟩
    rcases hb with hb | hb | ⟨k', hk, hlt⟩
    · rw [hb] at e2; cases e2
    · rw [hb] at e2; exact (h5.ot k e).1 e2
    · rw [hk] at e2; injection e2 with e2; have := (h5.out.lt k e).2; omega
  · intro k e e2
    rcases hb with hb | hb | ⟨k', hk, hlt⟩
    · rw [hb] at e; cases e
    · rw [hb] at e; exact h5.tp k e e2
    · rw [hk] at e; injection e with e; have := (h5.proms.lt k e2).2; omega
  · obtain ⟨p1, p2, p3, p4, p5, p6⟩ := h5.pv p e
    refine ⟨hc.get p1 ?_, p2, p3, p4, ?_, p6⟩
    · rintro (e | e)
      · exact p3 11 (by omega) e
      · exact p5 e
    · intro e
      rcases hb with hb | hb | ⟨k', hk, hlt⟩
      · rw [hb] at e; cases e
      · rw [hb] at e; exact p5 e
      · rw [hk] at e; injection e with e; have := get?_lt p1; simp only at this; omega
  · obtain ⟨p1, p3, p4, p5, p6⟩ := h5.kp k o e
    refine ⟨(hc.block k (some_lt p1) ?_).trans p1, p3, p4, ?_, p6⟩
    · rintro (e | e)
      · exact p3 11 (by omega) e
      · exact p5 e
    · intro e
      rcases hb with hb | hb | ⟨k', hk, hlt⟩
      · rw [hb] at e; cases e
      · rw [hb] at e; exact p5 e
      · rw [hk] at e; injection e with e; have := some_lt p1; omega
def timed (x : RSt) (v : Int) : RSt := { x with timers := x.timers ++ [⟨10, ⟨v, 0⟩⟩] }
set_option maxRecDepth 100000 in
set_option maxHeartbeats 8000000 in
theorem want4_any (w0 : World) (B : Nat → Nat) (x : RSt) (v : Int) (A : Option Addr) (w : World) (h : RepIs w0 w B x) (hs : Sl GCoreAct w w.heap.size A 1 [⟨4, 0, v, default⟩]) (hn : x.now = 0) (hl : x.timers.length ≤ 1000000) :
    Calls Tryz.prog 42 #[.pointer (some ⟨B 0, 0, none⟩), .slice A 1 1] w fun e w' => e = .returned (.tuple #[]) ∧ RepIs w0 w' B (timed x v) := by
  have HH := Lib.hid h; have HS := Lib.hid hs; have HN := Lib.hid hn; have HL := Lib.hid hl
  have k0 := (rep_cells h).2.2.2.2.2.2.2.1
  clear h hs hn hl
  go_enter Tryz.func42, Tryz.ntmps42
  go_wp2_with fail
  go_loopw [14] (fun iv wr => (iv = .int .i64 0 ∧ wr = w) ∨ (iv = .int .i64 1 ∧ Hid (RepIs w0 wr B (timed x v)))) (fun iv _ => 1 - (intOf iv).toNat)
  case atStart => exact .inl ⟨rfl, rfl⟩
  case round =>
    rcases hrel with ⟨rfl, rfl⟩ | ⟨rfl, hr⟩
    · obtain ⟨ad, y, hA, hab, hy, g0⟩ := HS.out.at_ (k := 0) (by omega)
      simp only [List.getElem?_cons_zero, Option.some.injEq] at hy
      subst hy hA
      rw [Nat.zero_mul] at g0
      have hadd : ad.add 0 = ad := by simp [Addr.add]
      rw [hadd] at g0
      obtain ⟨ac, hac⟩ : ∃ ac : GCoreAct, (⟨4, 0, v, default⟩ : GCoreAct) = ac := ⟨_, rfl⟩
      rw [hac] at g0
      have HAC := Lib.hid hac
      have hba := (Bel.refl wr).alloc (.cells (GCoreAct.enc ac).toArray 193)
      have hsz : w0.heap.size ≤ wr.heap.size := Below.size HH.out.bel
      have h1 := HH.out.step hba
      obtain ⟨a, bm, ht, hp, g1, g2, g3, g4, g5⟩ := HH.out.more
      have hpq := fun k e => (g5.timers.lt k e).2
      replace g2 := (blkFree_keep (Below.block hba _ (get?_lt g1))).trans g2
      replace g4 := (blkFree_keep (Below.block hba _ (get?_lt g3))).trans g4
      replace g1 := GB.get hba g1
      replace g3 := GB.get hba g3
      replace g5 := g5.chg (Chg.of_bel hba (fun _ => False)) (fun _ _ h => h) (fun _ _ h => h) (fun _ _ h => h) (fun _ _ h => h) (fun _ _ _ h => h)
      have k1 := (rep_cells h1).2.2.2.2.2.2.2.1
      have k2 := (rep_cells h1).2.2.2.1
      have c1 : get? GCoreAct (wr.alloc (.cells (GCoreAct.enc ac).toArray 193)) ⟨wr.heap.size, 0, none⟩ = some ac := get?_new _ _
      have kk := GCoreAct.at_kind c1
      simp only [Addr.add_lit, Nat.zero_add] at kk
      have hk4 : ac.kind = 4 := by rw [← hac]
      rw [hk4] at kk
      have hne := neq_ep ⟨B 11, 0, none⟩ (wr.alloc (.cells (GCoreAct.enc ac).toArray 193))
      have H1 := Lib.hid h1; have C1 := Lib.hid c1; have G1 := Lib.hid g1; have G2 := Lib.hid g2; have G3 := Lib.hid g3; have G4 := Lib.hid g4; have G5 := Lib.hid g5; have HPQ := Lib.hid hpq; have HSZ := Lib.hid hsz
      clear hba h1 hac c1 g1 g2 g3 g4 g5 hpq hsz
      go_upto_region 13 with fail
      refine wp_region_G GB [] GB.rf (by kernel_rfl) ?_
      refine wpG_looks 1 12 [0, 1, 2, 3, 4, 5, 6, 7, 8, 9, 10] rfl GB.rf GB.tr (by kernel_rfl) (fun _ _ _ _ hd h => And.intro (hd ▸ And.left h) (And.right h)) rfl (by kernel_rfl) ?_
      intro ι W hne2 CW
      have j0 : ∀ z, (W z).cell? ⟨B 0, 5, none⟩ = some (.pointer (some ⟨B 3, 0, none⟩)) := fun z => GB.cell (GB.undrew (CW.out z)) k2
      have j1 : ∀ z, (W z).cell? ⟨wr.heap.size, 1, none⟩ = some (.int .i64 0) := fun z => by
        have := GCoreAct.at_round (GB.get (GB.undrew (CW.out z)) C1.out)
        simp only [Addr.add_lit, Nat.zero_add] at this
        rw [← HAC.out] at this
        exact this
      have HNW := Lib.hid (show ∀ z, Calls Tryz.prog 33 #[.pointer (some ⟨B 3, 0, none⟩)] (W z) fun e w' => e = .returned (.int .u64 0) ∧ w' = W z from fun z => by
        have := now_any (B 3) (B 4) x.c x.id x.now x.floor x.last x.stamps (W z) (H1.out.st.step (GB.undrew (CW.out z)))
        rw [HN.out] at this
        exact this)
      refine wpLooksG_step (fun K hK => ?_); go_simp; refine hK _ ?_; clear hK K
      refine wpLooksG_step (fun K hK => ?_); go_simp; refine hK _ ?_; clear hK K
      refine wpLooksG_step (fun K hK => ?_); go_simp; refine hK _ ?_; clear hK K
      refine wpLooksG_step (fun K hK => ?_); go_simp; refine hK _ ?_; clear hK K
      refine wpLooksG_step (fun K hK => ?_)
      go_simp
      refine ⟨_, fun z => quietG (HNW.out z) (fun _ _ h => h), hK _ ?_⟩
      clear hK K
      refine wpLooksG_step (fun K hK => ?_); go_simp; refine hK _ ?_; clear hK K
      refine wpLooksG_step (fun K hK => ?_); go_simp; refine hK _ ?_; clear hK K
      refine wpLooksG_step (fun K hK => ?_); go_simp; refine hK _ ?_; clear hK K
      refine wpLooksG_step (fun K hK => ?_); go_simp; refine hK _ ?_; clear hK K
      refine wpLooksG_step (fun K hK => ?_); go_simp; refine hK _ ?_; clear hK K
      refine wpLooksG_step (fun K hK => ?_); go_simp; refine hK _ ?_; clear hK K
      refine wpLooksG_nil ?_
      clear j0 j1 HNW CW hne2 W ι
      refine wpG_force 11 _ rfl (by kernel_rfl) rfl fun wx hwx K hK => ?_
      go_simp
      refine hK _ _ (fun _ => GB.rf _) ?_
      clear hK K
      refine wpG_end (by kernel_rfl) (fun wb hwb => ?_) _
      have HB1 := Lib.hid (Bel.trans (GB.undrew hwx) hwb)
      clear hwx hwb k0 k1 k2 kk hk4 hne g0 hadd hab
      go_upto_region 14 with fail
      obtain ⟨q, hq⟩ : ∃ q, wr.heap.size = q := ⟨_, rfl⟩
      rw [hq] at C1 HPQ HSZ ⊢
      generalize wr.alloc (.cells (GCoreAct.enc ac).toArray 193) = wa at H1 C1 G1 G2 G3 G4 G5 HB1
      clear hq
      have hob : ∀ j < 20, ¬ ht.val.ownBlock = some (B j) := G5.out.nt
      have hoq : ¬ ht.val.ownBlock = some q := fun e => by have := HPQ.out q e; omega
      have HOB := Lib.hid hob; have HOQ := Lib.hid hoq
      clear hob hoq
      obtain ⟨A0, c0, hpe, _⟩ := G5.out.timers.shape
      have HPE := Lib.hid hpe
      clear hpe
      obtain ⟨m, hm⟩ : ∃ m, x.timers.length = m := ⟨_, rfl⟩
      rw [hm] at HPE HL
      have HMM := Lib.hid hm
      clear hm
      refine wp_region_H GB (Chg (fun k => ht.val.ownBlock = some k)) [19, 22] [22] GB.rf (by kernel_rfl) ?_
      refine wpH_looks 5 23 [0, 1, 2, 3, 4, 5, 6, 7, 8, 9, 10, 11, 12, 13, 14, 15, 16, 17] rfl GB.rf GB.tr (Chg.refl _) (fun _ _ _ => Chg.tr) (fun _ _ h => Chg.of_bel h _) (by kernel_rfl) (fun _ _ _ _ hd h => And.intro (hd ▸ And.left h) (And.right h)) rfl (by kernel_rfl) ?_
      intro ι W hne2 CW
      have CC : ∀ z, Chg (fun k => ht.val.ownBlock = some k) wa (W z) := fun z => (Chg.of_bel (Bel.trans HB1.out ((Bel.refl wb).drew)) _).tr (CW.out z)
      have k0 : ∀ z, (W z).cell? ⟨B 0, 10, none⟩ = some (.pointer (some ⟨B 11, 0, none⟩)) := fun z => (CC z).cell (rep_cells H1.out).2.2.2.2.2.2.2.1 (HOB.out 0 (by omega))
      have k1 : ∀ z, (W z).cell? ⟨B 11, 3, none⟩ = some (.slice A0 m c0) := fun z => by
        have := (CC z).cell (GReplicaEpoch.at_timers G3.out) (HOB.out 11 (by omega))
        simp only [Addr.add_lit, Nat.zero_add] at this
        change (W z).cell? ⟨B 11, 3, none⟩ = some ht.val at this
        rw [HPE.out] at this
        exact this
      have k2 : ∀ z, (W z).cell? ⟨q, 1, none⟩ = some (.int .i64 0) := fun z => by
        have := GCoreAct.at_round ((CC z).get C1.out HOQ.out)
        simp only [Addr.add_lit, Nat.zero_add] at this
        rw [← HAC.out] at this
        exact this
      have k3 : ∀ z, (W z).cell? ⟨q, 2, none⟩ = some (.int .i64 v) := fun z => by
        have := GCoreAct.at_valid ((CC z).get C1.out HOQ.out)
        simp only [Addr.add_lit, Nat.zero_add] at this
        rw [← HAC.out] at this
        exact this
      clear CC
      repeat (refine wpLooksG_step (fun K hK => ?_); go_simp; refine hK _ ?_; clear hK K)
      refine wpLooksG_nil ?_
      clear k0 k1 k2 k3 CW hne2 W ι
      refine wpH_force 18 _ rfl (by kernel_rfl) rfl fun w7 hw7 K hK => ?_
      go_simp
      refine hK _ _ (fun _ => GB.al _ _) (fun _ => Chg.of_bel (GB.al _ _) _) ?_
      clear hK K
      obtain ⟨tm, htm⟩ : ∃ tm : GReplicaTimer, (⟨10, ⟨v, 0⟩⟩ : GReplicaTimer) = tm := ⟨_, rfl⟩
      have HTM := Lib.hid htm
      have hs : Sl GReplicaTimer (w7.alloc (.cells (Enc.enc tm).toArray 141)) (w7.alloc (.cells (Enc.enc tm).toArray 141)).heap.size (some ⟨w7.heap.size, 0, none⟩) 1 [tm] := Sl.new_ (xs := [tm]) (by simp) rfl rfl (by simp)
      have hbf : Bel wa (w7.alloc (.cells (Enc.enc tm).toArray 141)) := (Bel.trans HB1.out (GB.undrew hw7)).trans ((Bel.refl w7).alloc (.cells (Enc.enc tm).toArray 141))
      obtain ⟨p, hp2⟩ : ∃ p, w7.heap.size = p := ⟨_, rfl⟩
      rw [hp2] at hs ⊢
      rw [← htm] at hs hbf
      change wpH _ _ _ _ _ _ _ _ _ _ _ (w7.alloc (.cells (Enc.enc (⟨10, ⟨v, 0⟩⟩ : GReplicaTimer)).toArray 141))
      generalize w7.alloc (.cells (Enc.enc (⟨10, ⟨v, 0⟩⟩ : GReplicaTimer)).toArray 141) = wg at hs hbf ⊢
      rw [htm] at hs
      have HS2 := Lib.hid hs; have HBF := Lib.hid hbf
      clear hs hbf hp2 hw7 htm
      refine wpH_force 19 _ rfl (by kernel_rfl) rfl fun w8 hw8 K hK => ?_
      have hown := OwnS.step G5.out.timers (HBF.out.trans hw8)
      obtain ⟨v', w', hrun, ho, hgr, hob⟩ := gAppend_S (P := Tryz.prog) ei130 hown (HS2.out.stepB hw8) (by have := HL.out; have := HMM.out; unfold maxLen; omega) (by have := HL.out; have := HMM.out; omega) (by have := HSZ.out; have := Below.size (HBF.out.trans hw8); have := get?_lt C1.out; simp only at this; omega) 130
      rw [HPE.out] at hrun
      change (gAppend #[130, 130] 130 #[.slice A0 m c0, .slice (some ⟨p, 0, none⟩) 1 1]).run Tryz.prog w8 = .ok v' w' at hrun
      obtain ⟨A', c', rfl, _⟩ := ho.shape
      obtain ⟨m2, hm2⟩ : ∃ m2, (x.timers ++ [tm]).length = m2 := ⟨_, rfl⟩
      rw [hm2] at hrun ho hob
      have HM2 := Lib.hid hm2
      clear hm2
      go_simp
      refine hK _ _ (fun h => absurd (by simp) h) (fun _ => Chg.of_grown hgr (fun k e => e)) ?_
      clear hK K
      have HW8 := Lib.hid (HBF.out.trans hw8); have HO := Lib.hid ho; have HGR := Lib.hid hgr; have HOB2 := Lib.hid hob
      clear ho hgr hob hw8 hrun hown
      refine wpH_force 20 _ rfl (by kernel_rfl) rfl fun w9 hw9 K hK => ?_
      go_simp
      refine hK _ _ (fun _ => GB.rf _) (fun _ => Chg.refl _ _) ?_
      clear hK K
      refine wpH_force 21 _ rfl (by kernel_rfl) rfl fun w10 hw10 K hK => ?_
      go_simp
      refine hK _ _ (fun _ => GB.rf _) (fun _ => Chg.refl _ _) ?_
      clear hK K
      refine wpH_force 22 _ rfl (by kernel_rfl) rfl fun w11 hw11 K hK => ?_
      have hb11 := GB.tr _ _ _ (GB.tr _ _ _ hw9 hw10) hw11
      have HC11 := Lib.hid (((Chg.of_bel HW8.out _).tr (Chg.of_grown HGR.out (fun k e => e)) : Chg (fun k => ht.val.ownBlock = some k) wa w').tr (Chg.of_bel hb11 _))
      have HO11 := Lib.hid (OwnS.step HO.out hb11)
      have g11 := HC11.out.get G3.out (HOB.out 11 (by omega))
      have f11 := HC11.out.free G4.out (get?_lt G3.out) (HOB.out 11 (by omega))
      have k7 := GReplicaEpoch.at_timers g11
      simp only [Addr.add_lit, Nat.zero_add] at k7
      change w11.cell? ⟨B 11, 3, none⟩ = some ht.val at k7
      rw [HPE.out] at k7
      have z7 : w11.frozen? ⟨B 11, 3, none⟩ = false := frozen_of_free f11
      have G11 := Lib.hid g11; have F11 := Lib.hid f11
      clear g11 f11
      go_simp
      refine hK _ _ (fun h => absurd (by simp) h) (fun h => absurd (by simp) h) ?_
      clear hK K k7 z7 hb11 hw9 hw10 hw11
      have hc12 : Chg (fun k => k = B 11 ∨ ht.val.ownBlock = some k) wa (w11.setCell ⟨B 11, 3, none⟩ (.slice A' m2 c')) := (HC11.out.sub (fun k e => .inr e)).tr (chg_cell (S := fun k => k = B 11 ∨ ht.val.ownBlock = some k) (.inl rfl) _)
      have hg12 : get? GReplicaEpoch (w11.setCell ⟨B 11, 3, none⟩ (.slice A' m2 c')) ⟨B 11, 0, none⟩ = some (epG B { x with timers := x.timers ++ [tm] } bm ⟨A', m2, c'⟩ hp) := get?_poke G11.out (ep_timers (epG B x bm ht hp) ⟨A', m2, c'⟩)
      have hr12 : RepIs w0 (w11.setCell ⟨B 11, 3, none⟩ (.slice A' m2 c')) B { x with timers := x.timers ++ [tm] } := by
        refine H1.out.withTimers (l := x.timers ++ [tm]) G1.out G2.out G5.out hc12 hg12 (by rw [blkFree_setCell]; exact F11.out) (HO11.out.chg (chg_cell (S := fun k => k = B 11) rfl _) (fun k e he => ?_)) ?_
        · rcases HOB2.out with e2 | e2
          · exact HOB.out 11 (by omega) (by rw [← he, ← e, ← e2])
          · rw [e2] at e; injection e with e; have := H1.out.lt 11 (by omega); have := Below.size HW8.out; omega
        · rcases HOB2.out with e | e
          · exact .inr (.inl e)
          · exact .inr (.inr ⟨_, e, Below.size HW8.out⟩)
      have HR12 := Lib.hid hr12
      clear hr12 hg12 hc12
      refine wpH_end (by kernel_rfl) (fun wn hwn => ?_) _
      have HRN := Lib.hid (HR12.out.step hwn)
      clear hwn HR12 HO11 HC11 G11 F11 HO HGR HOB2 HW8 HBF HS2 HB1
      go_wp2_with fail
      go_roundw
      case rel => exact .inr ⟨rfl, Lib.hid (by rw [show timed x v = { x with timers := x.timers ++ [tm] } by rw [← HTM.out]; rfl]; exact HRN.out)⟩
      case measure => simp [intOf]
    · go_wp2_with fail
      exact bodyPost_end (results_none rfl _ _ _) rfl ⟨rfl, hr.out⟩
end Go.Proofs.YtfhhcgldikmejaaGreatDoor
/- A replica's Start. Conditions: those named in each theorem. -/
namespace Go.Proofs.YtfhhcgldikmejaaGreatDoor
open Go Go.RowKit Go.Gv Go.Proofs

theorem rep_started (x : GReplicaReplica) (v : Bool) : Enc.enc ({ x with started := v } : GReplicaReplica) = (Enc.enc x).set 4 (.bool v) := by
  show GReplicaReplica.enc _ = (GReplicaReplica.enc _).set _ _
  simp [GReplicaReplica.enc, GConf.enc_len]
theorem RepIs.withStarted {w0 w w' : World} {B : Nat → Nat} {x : RSt} (h : RepIs w0 w B x) (v : Bool) (hc : Chg (fun k => k = B 0) w w') (hg : ∀ a, get? GReplicaReplica w ⟨B 0, 0, none⟩ = some (repG B x a) → get? GReplicaReplica w' ⟨B 0, 0, none⟩ = some (repG B { x with started := v } a)) (hf : blkFree w' (B 0) = true) : RepIs w0 w' B { x with started := v } := by
  obtain ⟨a, bm, ht, hp, h1, h2, h3, h4, h5⟩ := h.more
  have n := h.ne (i := 0) (by omega)
  exact ⟨Chg.bel2 h.bel hc (fun k e => e ▸ h.new 0 (by omega)), h.new, fun j hj => Nat.lt_of_lt_of_le (h.lt j hj) hc.size, h.apart, h.book.chg hc (n 1 (by omega) (by omega)) (n 2 (by omega) (by omega)), h.st.chg hc (n 3 (by omega) (by omega)) (n 4 (by omega) (by omega)), h.tb.chg hc (n 5 (by omega) (by omega)) (n 6 (by omega) (by omega)), h.led.chg hc (n 7 (by omega) (by omega)) (n 8 (by omega) (by omega)),
    h.rev.chg hc (n 9 (by omega) (by omega)) (n 10 (by omega) (by omega)), h.core.chg hc (n 12 (by omega) (by omega)) (n 13 (by omega) (by omega)) (n 18 (by omega) (by omega)) (n 14 (by omega) (by omega)) (n 16 (by omega) (by omega)) (n 17 (by omega) (by omega)), hc.map h.pre (n 19 (by omega) (by omega)),
    a, bm, ht, hp, hg a h1, hf, hc.get h3 (n 11 (by omega) (by omega)), hc.free h4 (get?_lt h3) (n 11 (by omega) (by omega)), (h5.one hc (by omega)).with rfl rfl rfl rfl rfl⟩
def core0 : GCoreState := ⟨0, 0, -1, -1, default, default, false, default⟩
def startMsgs (id : Int) (f : Nat) : List GMsg := if id = 0 then toAll 0 (closeM 0 1) (3 * f + 1) else []
set_option maxRecDepth 100000 in
set_option maxHeartbeats 4000000 in
theorem repStart_any (w0 : World) (B : Nat → Nat) (x : RSt) (f : Nat) (w : World) (h : RepIs w0 w B x) (hs : x.s = core0) (hA : x.A = []) (hLq : x.L = []) (hn : x.now = 0) (ho : x.out = []) (ht : x.timers = []) (hi : x.id ≤ 1000000) (hB : x.book.length ≤ 1000000000) (hf : x.c.f = (f : Int)) (hf0 : 1 ≤ f) (hf1 : f ≤ 21) :
    Calls Tryz.prog 21 #[.pointer (some ⟨B 0, 0, none⟩)] w fun e w' => ∃ (l : Hdr) (y : RSt), e = .returned (.slice l.a l.len l.cap) ∧ OwnS w' w0.heap.size 70 l.val (startMsgs x.id f) ∧ RepIs w0 w' B y ∧ y.c = x.c ∧ y.id = x.id ∧ y.s = entered core0 0 ∧ y.out = [] ∧ y.ho = nilH := by
  obtain ⟨hfr, a, hg⟩ := rep_other h
  have hfz := frozen_of_free (a := ⟨B 0, 4, none⟩) hfr
  have kst := (rep_cells h).2.2.1
  have hc : Chg (fun k => k = B 0) w (w.setCell ⟨B 0, 4, none⟩ (.bool true)) := chg_cell (S := fun k => k = B 0) rfl _
  have h1 := h.withStarted true hc (fun a ha => get?_poke ha (rep_started (repG B x a) true)) (by rw [blkFree_setCell]; exact hfr)
  clear hg hc h
  go_enter Tryz.func21, Tryz.ntmps21
  go_upto_region 2 with fail
  obtain ⟨x1, hx1⟩ : ∃ x1 : RSt, { x with started := true } = x1 := ⟨_, rfl⟩
  have hs : x1.s = core0 := by rw [← hx1]; exact hs
  have hA : x1.A = [] := by rw [← hx1]; exact hA
  have hLq : x1.L = [] := by rw [← hx1]; exact hLq
  have hn : x1.now = 0 := by rw [← hx1]; exact hn
  have ho : x1.out = [] := by rw [← hx1]; exact ho
  have ht : x1.timers = [] := by rw [← hx1]; exact ht
  have hi2 : x1.id ≤ 1000000 := by rw [← hx1]; exact hi
  have hB : x1.book.length ≤ 1000000000 := by rw [← hx1]; exact hB
  have hf : x1.c.f = (f : Int) := by rw [← hx1]; exact hf
  have hcc : x1.c = x.c := by rw [← hx1]
  have hii : x1.id = x.id := by rw [← hx1]
  rw [hx1] at h1
  generalize w.setCell ⟨B 0, 4, none⟩ (.bool true) = wa at h1 ⊢
  have H1 := Lib.hid h1
  have k0 := (rep_cells h1).2.2.2.2.2.2.2.1
  have k1 := (ep_cells h1).1
  have hcore : Calls Tryz.prog 43 #[.pointer (some ⟨B 12, 0, none⟩)] wa fun e w' => ∃ A2 : Option Addr, e = .returned (.slice A2 1 1) ∧ Sl GCoreAct w' w'.heap.size A2 1 [enterAct core0 x1.id 0 0] ∧ RepIs w0 w' B { x1 with s := entered core0 0, b1 := false, b2 := false, b3 := false } := by
    have hh := startC_any (B 12) (B 13) (B 14) (B 20) (B 16) (B 17) (B 18) x1.c 0 x1.id x1.s x1.b1 x1.b2 x1.b3 x1.H x1.A x1.L wa h1.core f 0 hf hf0 hf1 rfl (by omega) (h1.apart 12 13 (by omega) (by omega) (by omega) (by omega)) (by rw [hs]; rfl) (by rw [hs]; rfl) (by rw [hLq]; intro p hp; cases hp) (by rw [hA, hf]; simp [allOf, mget_nil]; omega)
    refine hh.mono ?_
    rintro e w' ⟨A2, rfl, hsl, hco, hch⟩
    refine ⟨A2, rfl, ?_, ?_⟩
    · rw [hs] at hsl
      simpa using hsl
    · rw [hs] at hco
      exact h1.withCore hco hch
  have HC := Lib.hid hcore
  have HX1 := Lib.hid hx1
  obtain ⟨x2, hx2⟩ : ∃ x2 : RSt, ({ x1 with s := entered core0 0, b1 := false, b2 := false, b3 := false } : RSt) = x2 := ⟨_, rfl⟩
  have e1 := Lib.hid (show x2.now = 0 by rw [← hx2]; exact hn)
  have e2 := Lib.hid (show x2.out = [] by rw [← hx2]; exact ho)
  have e3 := Lib.hid (show x2.timers = [] by rw [← hx2]; exact ht)
  have e4 := Lib.hid (show x2.id = x1.id by rw [← hx2])
  have e5 := Lib.hid (show x2.c = x.c by rw [← hx2]; exact hcc)
  have e6 := Lib.hid (show x2.s = entered core0 0 by rw [← hx2])
  have e7 := Lib.hid (show x2.book.length ≤ 1000000000 by rw [← hx2]; exact hB)
  have e8 := Lib.hid (show x2.c.f = (f : Int) by rw [← hx2]; exact hf)
  have HI2 := Lib.hid hi2; have HII := Lib.hid hii; have HF0 := Lib.hid hf0; have HF1 := Lib.hid hf1
  rw [hx2] at HC
  clear hcore hx1 hx2 hs hA hLq hn ho ht hi2 hB hf hcc hii h1 hi hfr hfz kst hf0 hf1
  go_wp2_with fail
  refine HC.out.mono ?_
  rintro _ w2 ⟨A2, rfl, hsl, hr⟩
  have HR := Lib.hid hr
  have HSL := Lib.hid hsl
  clear hsl hr k0 k1
  go_wp2_with fail
  have hfin : ∀ (w3 : World), (∃ y : RSt, RepIs w0 w3 B y ∧ y.out = startMsgs x.id f ∧ y.c = x.c ∧ y.id = x.id ∧ y.s = entered core0 0) → Calls Tryz.prog 25 #[.pointer (some ⟨B 0, 0, none⟩)] w3 fun e w' => ∃ (l : Hdr) (y : RSt), e = .returned (.slice l.a l.len l.cap) ∧ OwnS w' w0.heap.size 70 l.val (startMsgs x.id f) ∧ RepIs w0 w' B y ∧ y.c = x.c ∧ y.id = x.id ∧ y.s = entered core0 0 ∧ y.out = [] ∧ y.ho = nilH := by
    rintro w3 ⟨y, hy, ho, hc, hi, hs⟩
    refine (told_any w0 B y w3 hy).mono ?_
    rintro e w' ⟨rfl, h1, h2, h3⟩
    exact ⟨y.ho, _, rfl, ho ▸ h2, h1, hc, hi, hs, rfl, rfl⟩
  have HFIN := Lib.hid hfin
  clear hfin
  have hwant : Calls Tryz.prog 42 #[.pointer (some ⟨B 0, 0, none⟩), .slice A2 1 1] w2 fun e w' => e = .returned (.tuple #[]) ∧ ∃ y : RSt, RepIs w0 w' B y ∧ y.out = startMsgs x.id f ∧ y.c = x.c ∧ y.id = x.id ∧ y.s = entered core0 0 := by
    have hsl := HSL.out
    by_cases hid : ((0 : Nat) : Int) = x1.id
    · rw [show enterAct core0 x1.id 0 0 = ⟨1, 0, -1, default⟩ by unfold enterAct; rw [if_pos hid]; rfl] at hsl
      refine (want1_any w0 B x2 ⟨1, 0, -1, default⟩ A2 f w2 HR.out hsl rfl rfl e1.out (by rw [e2.out]; simp) (by rw [e4.out]; exact HI2.out) e7.out e8.out HF0.out HF1.out).mono ?_
      rintro e w' ⟨rfl, ho, hr⟩
      refine ⟨rfl, _, hr, ?_, e5.out, e4.out.trans HII.out, e6.out⟩
      show x2.out ++ toAll x2.id (closeM 0 1) (3 * f + 1) = _
      rw [e2.out, e4.out, ← hid, ← HII.out, ← hid]
      simp [startMsgs]
    · rw [show enterAct core0 x1.id 0 0 = ⟨4, 0, 1, default⟩ by unfold enterAct; rw [if_neg hid]] at hsl
      refine (want4_any w0 B x2 1 A2 w2 HR.out hsl e1.out (by rw [e3.out]; simp)).mono ?_
      rintro e w' ⟨rfl, hr⟩
      refine ⟨rfl, _, hr, ?_, e5.out, e4.out.trans HII.out, e6.out⟩
      show x2.out = _
      rw [e2.out]
      unfold startMsgs
      rw [if_neg (fun e => hid (by rw [HII.out, e]; rfl))]
  refine hwant.mono ?_
  rintro _ w3 ⟨rfl, hy⟩
  have HY := Lib.hid hy
  clear hwant hy
  go_wp2_with fail
  refine (HFIN.out w3 HY.out).mono ?_
  rintro _ w4 ⟨l, y, rfl, r1⟩
  have R1 := Lib.hid r1
  clear r1
  go_wp2_with fail
  go_ret
  exact ⟨l, y, rfl, R1.out⟩
end Go.Proofs.YtfhhcgldikmejaaGreatDoor
/- A replica started again. Conditions: those named in each theorem. -/
namespace Go.Proofs.YtfhhcgldikmejaaGreatDoor
open Go Go.RowKit Go.Gv Go.Proofs

end Go.Proofs.YtfhhcgldikmejaaGreatDoor
/- A replica's ledger, copied, while nothing was decided. Conditions: those named in each theorem. -/
namespace Go.Proofs.YtfhhcgldikmejaaGreatDoor
open Go Go.RowKit Go.Gv Go.Proofs

end Go.Proofs.YtfhhcgldikmejaaGreatDoor
/- A new replica: its parts. Conditions: those named in each theorem. -/
namespace Go.Proofs.YtfhhcgldikmejaaGreatDoor
open Go Go.RowKit Go.Gv Go.Proofs

set_option maxRecDepth 100000 in
theorem houseNew_any (w : World) : Calls Tryz.prog 76 #[] w fun e w' => ∃ g : Nat, e = .returned (.pointer (some ⟨g, 0, none⟩)) ∧ Bel w w' := by
  have hmm := @run_makeMap Tryz.prog
  go_enter Tryz.func76, Tryz.ntmps76
  go_wp2_with fail
  go_ret
  exact ⟨_, rfl, ((Bel.refl w).alloc _).alloc _⟩
set_option maxRecDepth 100000 in
theorem regNew_any (w : World) : Calls Tryz.prog 77 #[] w fun e w' => ∃ g : Nat, e = .returned (.pointer (some ⟨g, 0, none⟩)) ∧ Bel w w' := by
  have hmm := @run_makeMap Tryz.prog
  go_enter Tryz.func77, Tryz.ntmps77
  go_wp2_with fail
  go_ret
  exact ⟨_, rfl, ((Bel.refl w).alloc _).alloc _⟩
set_option maxRecDepth 100000 in
theorem appNew_any (w : World) : Calls Tryz.prog 40 #[] w fun e w' => ∃ g : Nat, e = .returned (.pointer (some ⟨g, 0, none⟩)) ∧ Bel w w' := by
  go_enter Tryz.func40, Tryz.ntmps40
  go_wp2_with fail
  refine (houseNew_any w).mono ?_
  rintro _ wa ⟨g1, rfl, hb⟩
  have HB := Lib.hid hb
  clear hb
  go_wp2_with fail
  refine (regNew_any wa).mono ?_
  rintro _ wb ⟨g2, rfl, hb⟩
  have HB2 := Lib.hid (HB.out.trans hb)
  clear hb
  go_wp2_with fail
  go_ret
  exact ⟨_, rfl, HB2.out.alloc _⟩
end Go.Proofs.YtfhhcgldikmejaaGreatDoor
/- A replica's begin. Conditions: those named in each theorem. -/
namespace Go.Proofs.YtfhhcgldikmejaaGreatDoor
open Go Go.RowKit Go.Gv Go.Proofs

theorem rep_e (x : GReplicaReplica) (v : Option Addr) : Enc.enc ({ x with e := v } : GReplicaReplica) = (Enc.enc x).set 10 (.pointer v) := by
  show GReplicaReplica.enc _ = (GReplicaReplica.enc _).set _ _
  simp [GReplicaReplica.enc, GConf.enc_len]
def ep0 (gk mb mp : Nat) : GReplicaEpoch := ⟨some ⟨gk, 0, none⟩, some mb, some mp, ⟨none, 0, 0⟩, false, 0, 0, ⟨none, 0, 0⟩, none, none, none⟩
structure Begun (w w' : World) (c : GConf) (id : Int) (gk gt mh mc ma ml mq mb mp ge : Nat) : Prop where
  core : CoreIs w' gk gt mh mc ma ml mq c 0 id core0 false false false [] [] []
  pre : mapAt GReplicaVoter GVote w' mp = some []
  ep : get? GReplicaEpoch w' ⟨ge, 0, none⟩ = some (ep0 gk mb mp)
  free : blkFree w' ge = true
  low : ∀ k, k = gk ∨ k = gt ∨ k = mh ∨ k = ma ∨ k = ml ∨ k = mq → w.heap.size ≤ k ∧ k < mp
  ne : gk ≠ gt
  last : mp < ge
set_option maxRecDepth 100000 in
set_option maxHeartbeats 4000000 in
theorem begin_any (g gl ml0 : Nat) (rp : GReplicaReplica) (w : World) (hg : get? GReplicaReplica w ⟨g, 0, none⟩ = some rp) (hf : blkFree w g = true) (hl : rp.l = some ⟨gl, 0, none⟩) (h : LedIs w gl ml0) (hv : validB rp.c = true) (hi : inB rp.c rp.id = true) :
    Calls Tryz.prog 41 #[.pointer (some ⟨g, 0, none⟩)] w fun e w' => e = .returned (.tuple #[]) ∧ ∃ gk gt mh mc ma ml mq mb mp ge : Nat, Begun w w' rp.c rp.id gk gt mh mc ma ml mq mb mp ge ∧
      get? GReplicaReplica w' ⟨g, 0, none⟩ = some { rp with e := some ⟨ge, 0, none⟩ } ∧ blkFree w' g = true ∧ Chg (fun k => k = g) w w' := by
  have HG := Lib.hid hg; have HF := Lib.hid hf; have HL := Lib.hid h; have HV := Lib.hid hv; have HI := Lib.hid hi
  have f0 := GReplicaReplica.at_c hg
  have f1 := GReplicaReplica.at_id hg
  have f2 := GReplicaReplica.at_l hg
  simp only [Addr.add_lit, Nat.zero_add] at f0 f1 f2
  rw [hl] at f2
  clear hg hf h hv hi hl
  go_enter Tryz.func41, Tryz.ntmps41
  go_upto_region 0 with fail
  refine wp_region_G GB [] GB.rf (by kernel_rfl) ?_
  refine wpG_looks 6 20 [0, 1, 2, 3, 4, 5, 6, 7, 8, 9, 10, 11, 12, 13] rfl GB.rf GB.tr (by kernel_rfl) (fun _ _ _ _ hd h => And.intro (hd ▸ And.left h) (And.right h)) rfl (by kernel_rfl) ?_
  intro ι W hne CW
  have k0 : ∀ z, get? GConf (W z) ⟨g, 0, none⟩ = some rp.c := fun z => GB.get (GB.undrew (CW.out z)) f0
  have k1 : ∀ z, (W z).cell? ⟨g, 2, none⟩ = some (.int .i64 rp.id) := fun z => GB.cell (GB.undrew (CW.out z)) f1
  have k2 : ∀ z, (W z).cell? ⟨g, 7, none⟩ = some (.pointer (some ⟨gl, 0, none⟩)) := fun z => GB.cell (GB.undrew (CW.out z)) f2
  have HLW := Lib.hid (show ∀ z, LedIs (W z) gl ml0 from fun z => HL.out.step (GB.undrew (CW.out z)))
  iterate 8 (refine wpLooksG_step (fun K hK => ?_); go_simp; refine hK _ ?_; clear hK K)
  refine wpLooksG_step (fun K hK => ?_)
  go_simp
  refine ⟨_, fun z => quietG (epoch0_any gl ml0 (W z) (HLW.out z)) (fun _ _ h => h), hK _ ?_⟩
  clear hK K
  iterate 5 (refine wpLooksG_step (fun K hK => ?_); go_simp; refine hK _ ?_; clear hK K)
  refine wpLooksG_nil ?_
  clear k0 k1 k2 HLW CW hne W ι f0 f1 f2
  refine wpG_force 14 _ rfl (by kernel_rfl) rfl fun wa hwa K hK => ?_
  go_simp
  refine (coreNew_any rp.c 0 rp.id wa HV.out HI.out (by omega) (by omega)).mono ?_
  rintro _ wb ⟨gk, gt, mh, mc, ma, ml, mq, rfl, hco, hnew, hgt, hbb⟩
  refine hK _ _ (fun _ => hbb) ?_
  have HCO := Lib.hid hco; have HBB := Lib.hid (Bel.trans (GB.undrew hwa) hbb)
  have HNEW := Lib.hid (show ∀ k, k = gk ∨ k = gt ∨ k = mh ∨ k = mc ∨ k = ma ∨ k = ml ∨ k = mq → w.heap.size ≤ k from fun k e => Nat.le_trans (Below.size (GB.undrew hwa)) (hnew k e))
  have HGT := Lib.hid hgt
  clear hK K hco hbb hnew hwa hgt
  refine wpG_looks 2 20 [15, 16, 17] rfl GB.rf GB.tr (by kernel_rfl) (fun _ _ _ _ hd h => And.intro (hd ▸ And.left h) (And.right h)) rfl (by kernel_rfl) ?_
  intro ι W hne CW
  iterate 3 (refine wpLooksG_step (fun K hK => ?_); go_simp; refine hK _ ?_; clear hK K)
  refine wpLooksG_nil ?_
  clear CW hne W ι
  refine wpG_force 18 _ rfl (by kernel_rfl) rfl fun wc hwc K hK => ?_
  go_simp
  refine hK _ _ (fun _ => GB.rf _) ?_
  clear hK K
  refine wpG_force 19 _ rfl (by kernel_rfl) rfl fun wd hwd K hK => ?_
  go_simp
  refine hK _ _ (fun _ => GB.rf _) ?_
  clear hK K
  refine wpG_end (by kernel_rfl) (fun wn hwn => ?_) _
  have hbn := GB.tr _ _ _ (GB.tr _ _ _ hwc hwd) hwn
  have HCN := Lib.hid (HCO.out.step hbn); have HBN := Lib.hid (Bel.trans HBB.out hbn)
  have HZ := Lib.hid (Below.size hbn)
  have hcz : ∀ k, k = gk ∨ k = gt ∨ k = mh ∨ k = ma ∨ k = ml ∨ k = mq → k < wn.heap.size := by
    rintro k (rfl | rfl | rfl | rfl | rfl | rfl)
    · exact get?_lt HCN.out.get
    · exact get?_lt HCN.out.tal
    · exact mapAt_lt HCN.out.have_
    · exact mapAt_lt HCN.out.all
    · exact mapAt_lt HCN.out.last
    · exact mapAt_lt HCN.out.props
  have HCZ := Lib.hid hcz
  clear hcz hbn hwc hwd hwn HCO HBB
  have hmm := @run_makeMap Tryz.prog
  have gn := GB.get HBN.out HG.out
  have fn := (blkFree_keep (Below.block HBN.out _ (get?_lt HG.out))).trans HF.out
  have gl : g < wn.heap.size := get?_lt gn
  have m1 := mapAt_new GReplicaVoter GVote (wn.alloc (.map #[] 0))
  have hb3 := (((Bel.refl wn).alloc (Obj.map #[] 0)).alloc (Obj.map #[] 0)).alloc (.cells (GReplicaEpoch.enc ⟨some ⟨gk, 0, none⟩, some wn.heap.size, some (wn.heap.size + 1), default, false, 0, 0, default, none, none, none⟩).toArray 134)
  have g3 := GB.get hb3 gn
  have b3 := (blkFree_keep (Below.block hb3 _ gl)).trans fn
  have e3 : get? GReplicaEpoch (((wn.alloc (Obj.map #[] 0)).alloc (Obj.map #[] 0)).alloc (.cells (GReplicaEpoch.enc ⟨some ⟨gk, 0, none⟩, some wn.heap.size, some (wn.heap.size + 1), default, false, 0, 0, default, none, none, none⟩).toArray 134)) ⟨wn.heap.size + 2, 0, none⟩ = some (ep0 gk wn.heap.size (wn.heap.size + 1)) := by
    have := get?_new (w := (wn.alloc (Obj.map #[] 0)).alloc (Obj.map #[] 0)) 134 (ep0 gk wn.heap.size (wn.heap.size + 1))
    simp only [World.size_alloc] at this
    exact this
  have be3 : blkFree (((wn.alloc (Obj.map #[] 0)).alloc (Obj.map #[] 0)).alloc (.cells (GReplicaEpoch.enc ⟨some ⟨gk, 0, none⟩, some wn.heap.size, some (wn.heap.size + 1), default, false, 0, 0, default, none, none, none⟩).toArray 134)) (wn.heap.size + 2) = true := blkFree_new _ _ (by simp)
  have p3 : mapAt GReplicaVoter GVote (((wn.alloc (Obj.map #[] 0)).alloc (Obj.map #[] 0)).alloc (.cells (GReplicaEpoch.enc ⟨some ⟨gk, 0, none⟩, some wn.heap.size, some (wn.heap.size + 1), default, false, 0, 0, default, none, none, none⟩).toArray 134)) (wn.heap.size + 1) = some [] := by
    have := mapAt_alloc (.cells (GReplicaEpoch.enc ⟨some ⟨gk, 0, none⟩, some wn.heap.size, some (wn.heap.size + 1), default, false, 0, 0, default, none, none, none⟩).toArray 134) m1
    rwa [World.size_alloc] at this
  have kc := GReplicaReplica.at_e g3
  simp only [Addr.add_lit, Nat.zero_add] at kc
  have hzz := frozen_of_free (a := ⟨g, 10, none⟩) b3
  have HB3 := Lib.hid hb3; have G3 := Lib.hid g3; have F3 := Lib.hid b3; have E3 := Lib.hid e3; have P3 := Lib.hid p3; have BE3 := Lib.hid be3; have GLT := Lib.hid gl
  clear gn fn m1 hb3 g3 b3 e3 p3 be3 gl
  go_wp2_with fail
  refine bodyPost_end (results_none rfl _ _ _) rfl ?_
  obtain ⟨z, hz⟩ : ∃ z, wn.heap.size = z := ⟨_, rfl⟩
  have hc4 : Chg (fun k => k = g) (((wn.alloc (Obj.map #[] 0)).alloc (Obj.map #[] 0)).alloc (.cells (GReplicaEpoch.enc ⟨some ⟨gk, 0, none⟩, some wn.heap.size, some (wn.heap.size + 1), default, false, 0, 0, default, none, none, none⟩).toArray 134)) ((((wn.alloc (Obj.map #[] 0)).alloc (Obj.map #[] 0)).alloc (.cells (GReplicaEpoch.enc ⟨some ⟨gk, 0, none⟩, some wn.heap.size, some (wn.heap.size + 1), default, false, 0, 0, default, none, none, none⟩).toArray 134)).setCell ⟨g, 10, none⟩ (.pointer (some ⟨wn.heap.size + 2, 0, none⟩))) := chg_cell (S := fun k => k = g) rfl _
  have hcall : Chg (fun k => k = g) wn _ := (Chg.of_bel HB3.out _).tr hc4
  refine ⟨rfl, gk, gt, mh, mc, ma, ml, mq, wn.heap.size, wn.heap.size + 1, wn.heap.size + 2, ⟨?_, ?_, ?_, ?_, fun k hk => ⟨HNEW.out k (by rcases hk with h | h | h | h | h | h <;> simp [h]), Nat.lt_succ_of_lt (HCZ.out k hk)⟩, HGT.out, by omega⟩, ?_, ?_, ?_⟩
  · have key : ∀ k, (k = gk ∨ k = gt ∨ k = mh ∨ k = mc ∨ k = ma ∨ k = ml ∨ k = mq) → ¬ k = g := fun k hk e => by
      have h1 := HNEW.out k hk
      have h2 := get?_lt HG.out
      simp only at h2
      omega
    exact HCN.out.chg hcall (key gk (by simp)) (key gt (by simp)) (key mq (by simp)) (key mh (by simp)) (key ma (by simp)) (key ml (by simp))
  · exact hc4.map P3.out (fun e => by have := GLT.out; omega)
  · exact hc4.get E3.out (fun e => by have := GLT.out; simp only at e; omega)
  · exact hc4.free BE3.out (get?_lt E3.out) (fun e => by have := GLT.out; omega)
  · exact get?_poke G3.out (rep_e rp (some ⟨wn.heap.size + 2, 0, none⟩))
  · rw [blkFree_setCell]; exact F3.out
  · exact (Chg.of_bel HBN.out _).tr hcall
end Go.Proofs.YtfhhcgldikmejaaGreatDoor
