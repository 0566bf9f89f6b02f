/- A message that holds no list, in new memory. Conditions: those named in each theorem. -/
import Derived.Test.YthkifibmihijaaaGreatDoorP3
import Derived.Test.YthkifibmihijaaaGreatDoorP7
import Derived.Test.YthkifibmihijaaaGreatDoorP6
import Derived.Deep.CutBlock
import Derived.Test.YthkifibmihijaaaGreatDoorP4
/- Agreement's core, while no vote and no proposal has come. Conditions: those named in each theorem. -/
namespace Go.Proofs.YthkifibmihijaaaGreatDoor
open Go Go.RowKit Go.Gv Go.Proofs

/-- At g lies a core over a tally at gt; no proposal has come. -/
structure CoreIs (w : World) (g gt mh mc ma ml mq : Nat) (c : GConf) (ep id : Int) (s : GCoreState) (b1 b2 b3 : Bool) (H : List (GTallyVoter × Bool)) (A : List (GTallyTurn × Int)) (L : List (Int × Int)) : Prop where
  get : get? GCoreCore w ⟨g, 0, none⟩ = some ⟨c, ep, id, s, some ⟨gt, 0, none⟩, some mq, b1, b2, b3⟩
  free : blkFree w g = true
  tal : get? GTallyTally w ⟨gt, 0, none⟩ = some ⟨c, some mh, some mc, some ma, some ml⟩
  props : mapAt Int GCoreProposal w mq = some []
  have_ : mapAt GTallyVoter Bool w mh = some H
  all : mapAt GTallyTurn Int w ma = some A
  last : mapAt Int Int w ml = some L
section
variable {w w' : World} {S : Nat → Prop} {g gt mh mc ma ml mq : Nat} {c : GConf} {ep id : Int} {s : GCoreState} {b1 b2 b3 : Bool} {H : List (GTallyVoter × Bool)} {A : List (GTallyTurn × Int)} {L : List (Int × Int)}
theorem CoreIs.chg (h : CoreIs w g gt mh mc ma ml mq c ep id s b1 b2 b3 H A L) (hc : Chg S w w') (h1 : ¬ S g) (h2 : ¬ S gt) (h3 : ¬ S mq) (h4 : ¬ S mh) (h5 : ¬ S ma) (h6 : ¬ S ml) : CoreIs w' g gt mh mc ma ml mq c ep id s b1 b2 b3 H A L :=
  ⟨hc.get h.get h1, hc.free h.free (get?_lt h.get) h1, hc.get h.tal h2, hc.map h.props h3, hc.map h.have_ h4, hc.map h.all h5, hc.map h.last h6⟩
theorem CoreIs.step (h : CoreIs w g gt mh mc ma ml mq c ep id s b1 b2 b3 H A L) (hb : Bel w w') : CoreIs w' g gt mh mc ma ml mq c ep id s b1 b2 b3 H A L :=
  h.chg (S := fun _ => False) (Chg.of_bel hb _) (fun h => h) (fun h => h) (fun h => h) (fun h => h) (fun h => h) (fun h => h)
end
set_option maxRecDepth 100000 in
set_option maxHeartbeats 1000000 in
theorem tallyNew_any (c : GConf) (w : World) (hv : validB c = true) :
    Calls Tryz.prog 67 #[c.val] w fun e w' => ∃ g mh mc ma ml : Nat, e = .returned (.tuple #[.pointer (some ⟨g, 0, none⟩), .int .i64 0]) ∧ get? GTallyTally w' ⟨g, 0, none⟩ = some ⟨c, some mh, some mc, some ma, some ml⟩ ∧
      mapAt GTallyVoter Bool w' mh = some [] ∧ mapAt GTallyTurn Int w' ma = some [] ∧ mapAt Int Int w' ml = some [] ∧ w.heap.size ≤ g ∧ w.heap.size ≤ mh ∧ w.heap.size ≤ mc ∧ w.heap.size ≤ ma ∧ w.heap.size ≤ ml ∧ Bel w w' := by
  have hmm := @run_makeMap Tryz.prog
  have G := Lib.hid (get?_new (w := w) 23 c)
  have HB := Lib.hid ((Bel.refl w).alloc (.cells (GConf.enc c).toArray 23))
  go_enter Tryz.func67, Tryz.ntmps67
  go_wp2_with fail
  refine (valid_is true c _ hv).mono ?_
  rintro _ w1 ⟨rfl, hb1⟩
  have HB1 := Lib.hid (HB.out.trans hb1)
  have g1 := GB.get hb1 G.out
  have hz := (HB.out.trans hb1).size
  clear hb1
  go_wp2_with fail
  go_ret2
  have hB4 : Bel w1 ((((w1.alloc (.map #[] 0)).alloc (.map #[] 0)).alloc (.map #[] 0)).alloc (.map #[] 0)) := ((((Bel.refl w1).alloc _).alloc _).alloc _).alloc _
  refine ⟨w1.heap.size + 4, w1.heap.size, w1.heap.size + 1, w1.heap.size + 2, w1.heap.size + 3, rfl, ?_, ?_, ?_, ?_, by omega, by omega, by omega, by omega, by omega, (HB1.out.trans hB4).alloc _⟩
  · exact nw238 _ (w1.heap.size + 4) ⟨c, some w1.heap.size, some (w1.heap.size + 1), some (w1.heap.size + 2), some (w1.heap.size + 3)⟩ (by simp)
  · exact mapAt_alloc _ (mapAt_alloc _ (mapAt_alloc _ (mapAt_alloc _ (mapAt_new _ _ w1))))
  · have := mapAt_new GTallyTurn Int ((w1.alloc (.map #[] 0)).alloc (.map #[] 0))
    simp only [World.size_alloc] at this
    exact mapAt_alloc _ (mapAt_alloc _ this)
  · have := mapAt_new Int Int (((w1.alloc (.map #[] 0)).alloc (.map #[] 0)).alloc (.map #[] 0))
    rw [show (((w1.alloc (.map #[] 0)).alloc (.map #[] 0)).alloc (.map #[] 0)).heap.size = w1.heap.size + 3 by simp] at this
    exact mapAt_alloc _ this
set_option maxRecDepth 100000 in
set_option maxHeartbeats 2000000 in
theorem coreNew_any (c : GConf) (ep id : Int) (w : World) (hv : validB c = true) (hi : inB c id = true) (h0 : 0 ≤ ep) (h1 : ep ≤ 1048576) :
    Calls Tryz.prog 35 #[c.val, .int .i64 ep, .int .i64 id] w fun e w' => ∃ g gt mh mc ma ml mq : Nat, e = .returned (.tuple #[.pointer (some ⟨g, 0, none⟩), .int .i64 0]) ∧
      CoreIs w' g gt mh mc ma ml mq c ep id ⟨0, 0, -1, -1, default, default, false, default⟩ false false false [] [] [] ∧ (∀ k, k = g ∨ k = gt ∨ k = mh ∨ k = mc ∨ k = ma ∨ k = ml ∨ k = mq → w.heap.size ≤ k) ∧ g ≠ gt ∧ Bel w w' := by
  have hmm := @run_makeMap Tryz.prog
  obtain ⟨v1, v2, v3, v4⟩ := validB_iff.1 hv
  have G := Lib.hid (get?_new (w := w) 23 c)
  have HB := Lib.hid ((Bel.refl w).alloc (.cells (GConf.enc c).toArray 23))
  have e1 : ¬ ep < 0 := by omega
  have e2 : ¬ (1048576 : Int) < ep := by omega
  go_enter Tryz.func35, Tryz.ntmps35
  go_wp2_with fail
  refine (valid_is true c _ hv).mono ?_
  rintro _ w1 ⟨rfl, hb1⟩
  have HB1 := Lib.hid (HB.out.trans hb1)
  have g1 := GB.get hb1 G.out
  clear hb1
  go_wp2_with fail
  refine (in_is true c id _ hi (by omega) (by omega)).mono ?_
  rintro _ w2 ⟨rfl, hb2⟩
  have HB2 := Lib.hid (HB1.out.trans hb2)
  have g2 := GB.get hb2 g1
  have G2 := Lib.hid g2
  clear hb2 g1
  go_wp2_with fail
  refine (tallyNew_any c _ hv).mono ?_
  rintro _ w3 ⟨gt, mh, mc, ma, ml, rfl, ht, hh, ha, hl, l1, l2, l3, l4, l5, hb3⟩
  have g3 := GB.get hb3 g2
  have HB3 := Lib.hid (HB2.out.trans hb3)
  have hz := HB2.out.size
  have hz3 := hb3.size
  have HT := Lib.hid ht; have HH := Lib.hid hh; have HA := Lib.hid ha; have HL := Lib.hid hl
  have hgt := get?_lt ht
  clear hb3 g2 ht hh ha hl G2
  go_wp2_with fail
  go_ret2
  refine ⟨w3.heap.size + 1, gt, mh, mc, ma, ml, w3.heap.size, rfl, ⟨?_, ?_, ?_, ?_, ?_, ?_, ?_⟩, ?_, ?_, (HB3.out.alloc _).alloc _⟩
  · exact nw166 (w3.alloc (.map #[] 0)) (w3.heap.size + 1) ⟨c, ep, id, ⟨0, 0, -1, -1, default, default, false, default⟩, some ⟨gt, 0, none⟩, some w3.heap.size, false, false, false⟩ (by simp)
  · exact blkFree_new _ _ (by simp)
  · exact get?_alloc _ (get?_alloc _ HT.out)
  · exact mapAt_alloc _ (mapAt_new _ _ w3)
  · exact mapAt_alloc _ (mapAt_alloc _ HH.out)
  · exact mapAt_alloc _ (mapAt_alloc _ HA.out)
  · exact mapAt_alloc _ (mapAt_alloc _ HL.out)
  · rintro k (rfl | rfl | rfl | rfl | rfl | rfl | rfl) <;> omega
  · have := hgt; omega
set_option maxRecDepth 100000 in
set_option maxHeartbeats 1000000 in
theorem proposer_any (c : GConf) (f e r : Nat) (w : World) (hf : c.f = (f : Int)) (h1 : f ≤ 21) (he : e ≤ 1048576) (hr : r ≤ 1048577) :
    Calls Tryz.prog 82 #[c.val, .int .i64 (e : Int), .int .i64 (r : Int)] w fun x w' => x = .returned (.int .i64 (((e % (3 * f + 1) + r % (3 * f + 1)) % (3 * f + 1) : Nat) : Int)) ∧ Bel w w' := by
  have HF := Lib.hid hf
  have G := Lib.hid (get?_new (w := w) 23 c)
  have HB := Lib.hid ((Bel.refl w).alloc (.cells (GConf.enc c).toArray 23))
  obtain ⟨n, hn⟩ : ∃ n, 3 * f + 1 = n := ⟨_, rfl⟩
  have HN := Lib.hid (show 3 * c.f + 1 = (n : Int) by rw [hf, ← hn]; omega)
  have hn9 : 1 ≤ n ∧ n ≤ 64 := by omega
  have hn1 : ¬ (n : Int) < 1 := by omega
  rw [hn]
  have hE : (if 0 < e then (e : Int) else 0) = e := by split <;> omega
  have hR : (if 0 < r then (r : Int) else 0) = r := by split <;> omega
  clear hf
  go_enter Tryz.func82, Tryz.ntmps82
  go_wp2_with fail
  refine (n_any c _ (by have := HF.out; omega) (by have := HF.out; omega)).mono ?_
  rw [HN.out]
  rintro _ w1 ⟨rfl, hb1⟩
  have HB1 := Lib.hid (HB.out.trans hb1)
  clear hb1 hn
  go_wp2_with fail
  go_region
  go_wp2_with fail
  go_ret
  refine ⟨?_, HB1.out.drew⟩
  have b1 := Nat.mod_lt e (show 0 < n by omega)
  have b2 := Nat.mod_lt r (show 0 < n by omega)
  have a1 : (e : Int) % (n : Int) = ((e % n : Nat) : Int) := by omega
  have a2 : (r : Int) % (n : Int) = ((r % n : Nat) : Int) := by omega
  refine ret_int ?_
  have hw : wrap64 ((e : Int) % (n : Int) + (r : Int) % (n : Int)) = (e : Int) % (n : Int) + (r : Int) % (n : Int) := IntWalk.wrap64_in _ (by omega)
  rw [hw, Int.tmod_eq_emod_of_nonneg (by omega)]
  simp
end Go.Proofs.YthkifibmihijaaaGreatDoor
/- The core's rules, while none holds; its start. Conditions: those named in each theorem. -/
namespace Go.Proofs.YthkifibmihijaaaGreatDoor
open Go Go.RowKit Go.Gv Go.Proofs

section
variable {w : World} {g gt mh mc ma ml mq : Nat} {c : GConf} {ep id : Int} {s : GCoreState} {b1 b2 b3 : Bool} {H : List (GTallyVoter × Bool)} {A : List (GTallyTurn × Int)} {L : List (Int × Int)}
theorem CoreIs.cells (h : CoreIs w g gt mh mc ma ml mq c ep id s b1 b2 b3 H A L) :
    w.cell? ⟨g, 0, none⟩ = some (.int .i64 c.f) ∧ w.cell? ⟨g, 2, none⟩ = some (.int .i64 ep) ∧ w.cell? ⟨g, 3, none⟩ = some (.int .i64 id) ∧ w.cell? ⟨g, 4, none⟩ = some (.int .i64 s.round) ∧ w.cell? ⟨g, 5, none⟩ = some (.int .i64 s.step) ∧
    w.cell? ⟨g, 7, none⟩ = some (.int .i64 s.validRound) ∧ w.cell? ⟨g, 72, none⟩ = some (.bool s.decided) ∧ w.cell? ⟨g, 105, none⟩ = some (.pointer (some ⟨gt, 0, none⟩)) ∧ w.cell? ⟨g, 106, none⟩ = some (.map (some mq)) ∧
    w.cell? ⟨g, 107, none⟩ = some (.bool b1) ∧ w.cell? ⟨g, 108, none⟩ = some (.bool b2) ∧ w.cell? ⟨g, 109, none⟩ = some (.bool b3) ∧
    get? GConf w ⟨g, 0, none⟩ = some c ∧ get? GHash w ⟨g, 40, none⟩ = some s.valid ∧ w.cell? ⟨gt, 4, none⟩ = some (.map (some ma)) ∧ w.cell? ⟨gt, 5, none⟩ = some (.map (some ml)) := by
  have a0 := GConf.at_f (GCoreCore.at_c h.get)
  have a1 := GCoreCore.at_epoch h.get
  have a2 := GCoreCore.at_replica h.get
  have a3 := GCoreState.at_round (GCoreCore.at_s h.get)
  have a4 := GCoreState.at_step (GCoreCore.at_s h.get)
  have a5 := GCoreState.at_validRound (GCoreCore.at_s h.get)
  have a6 := GCoreState.at_decided (GCoreCore.at_s h.get)
  have a7 := GCoreCore.at_t h.get
  have a8 := GCoreCore.at_proposals h.get
  have a9 := GCoreCore.at_wasValid h.get
  have a10 := GCoreCore.at_setPrevote h.get
  have a11 := GCoreCore.at_setPrecommit h.get
  have a12 := GCoreCore.at_c h.get
  have a13 := GCoreState.at_valid (GCoreCore.at_s h.get)
  have a14 := GTallyTally.at_all h.tal
  have a15 := GTallyTally.at_last h.tal
  simp only [Addr.add_lit, Nat.zero_add, Nat.reduceAdd] at a0 a1 a2 a3 a4 a5 a6 a7 a8 a9 a10 a11 a12 a13 a14 a15
  exact ⟨a0, a1, a2, a3, a4, a5, a6, a7, a8, a9, a10, a11, a12, a13, a14, a15⟩
end
def allOf (A : List (GTallyTurn × Int)) (k r : Int) : Int := (mget A ⟨k, r⟩).getD 0
set_option maxRecDepth 100000 in
set_option maxHeartbeats 400000 in
theorem all_any (gt ma : Nat) (A : List (GTallyTurn × Int)) (k r : Int) (w : World) (f0 : w.cell? ⟨gt, 4, none⟩ = some (.map (some ma))) (hm : mapAt GTallyTurn Int w ma = some A) :
    Calls Tryz.prog 160 #[.pointer (some ⟨gt, 0, none⟩), .int .i64 k, .int .i64 r] w fun e w' => e = .returned (.int .i64 (allOf A k r)) ∧ w' = w := by
  go_enter Tryz.func160, Tryz.ntmps160
  go_wp2_with fail
  try go_region
  try go_wp2_with fail
  go_ret
  exact ⟨rfl, rfl⟩
set_option maxRecDepth 100000 in
set_option maxHeartbeats 1000000 in
theorem decided0_any (g gt mh mc ma ml mq : Nat) (c : GConf) (ep id : Int) (s : GCoreState) (b1 b2 b3 : Bool) (H : List (GTallyVoter × Bool)) (A : List (GTallyTurn × Int)) (L : List (Int × Int)) (w : World) (h : CoreIs w g gt mh mc ma ml mq c ep id s b1 b2 b3 H A L) :
    Calls Tryz.prog 156 #[.pointer (some ⟨g, 0, none⟩)] w fun e w' => e = .returned (.int .i64 (-1)) ∧ Bel w w' := by
  obtain ⟨_, _, _, _, _, _, _, _, f8, _⟩ := h.cells
  obtain ⟨o, hrg, hR⟩ := ranges_start (P := Tryz.prog) um164 h.props
  have hnx : ∀ ty : TypeId, (Instr.next (.pointer (some ⟨w.heap.size, 0, none⟩)) false ty).run Tryz.prog (w.alloc o) = .ok (.tuple #[.bool false]) (w.alloc o) := by
    rcases hR.next Tryz.prog with ⟨_, h⟩ | ⟨l1, p, l2, w', h, _⟩
    · exact h
    · cases l1 <;> cases h
  clear hR h
  go_enter Tryz.func156, Tryz.ntmps156
  go_wp2_with fail
  go_loopw [3] (fun v wr => v = .int .i64 (-1) ∧ wr = w.alloc o) (fun _ _ => 0)
  case atStart => exact ⟨rfl, rfl⟩
  case round =>
    obtain ⟨rfl, rfl⟩ := hrel
    go_wp2_with fail
    go_ret
    exact ⟨rfl, (Bel.refl w).alloc _⟩
set_option maxRecDepth 100000 in
set_option maxHeartbeats 1000000 in
theorem far_any (gt ml : Nat) (L : List (Int × Int)) (above many : Int) (w : World) (f0 : w.cell? ⟨gt, 5, none⟩ = some (.map (some ml))) (hm : mapAt Int Int w ml = some L) (hL : ∀ p ∈ L, p.2 ≤ above) :
    Calls Tryz.prog 157 #[.pointer (some ⟨gt, 0, none⟩), .int .i64 above, .int .i64 many] w fun e w' => e = .returned (.int .i64 (-1)) ∧ Bel w w' := by
  obtain ⟨o, hrg, hR⟩ := ranges_start (P := Tryz.prog) um236 hm
  have HR := Lib.hid hR; have HL := Lib.hid hL
  clear hR hm hL
  go_enter Tryz.func157, Tryz.ntmps157
  go_wp2_with fail
  go_loopw [7] (fun v wr => ∃ l, v = .int .i64 (-1) ∧ Hid (Ranges wr ml w.heap.size L l) ∧ (∀ p ∈ l, p ∈ L) ∧ Hid (Bel w wr)) (fun _ wr => wr.rangeLeft ml w.heap.size)
  case atStart => exact ⟨L, rfl, HR, fun p hp => hp, Lib.hid ((Bel.refl w).alloc _)⟩
  case round =>
    obtain ⟨l, rfl, hr, hsub, hb⟩ := hrel
    have hmz := hr.out.leftN
    rcases hr.out.next Tryz.prog with ⟨h0, hnx⟩ | ⟨l1, p, l2, w', hl, hnx, hR2, hg, hsz, hen⟩
    · clear hsub
      go_wp2_with fail
      go_ret
      exact ⟨rfl, hb.out⟩
    · have hp := HL.out p (hsub p (by rw [hl]; simp))
      have hn2 := hR2.leftN
      have hlen : (l1 ++ l2).length < l.length := by rw [hl]; simp
      have HR2 := Lib.hid hR2
      have HB2 := Lib.hid (show Bel w w' from Below.grown hb.out hg (hb.out.size) (fun k e => by injection e with e; omega))
      have HS2 := Lib.hid (show ∀ p ∈ l1 ++ l2, p ∈ L from fun q hq => hsub q (by rw [hl]; rcases List.mem_append.1 hq with h | h; exact List.mem_append_left _ h; exact List.mem_append_right _ (List.mem_cons_of_mem _ h)))
      obtain ⟨pk, pv⟩ := p
      have hpv : ¬ above < pv := by have := hp; simp only at this ⊢; omega
      change ∀ ty : TypeId, (Instr.next (.pointer (some ⟨w.heap.size, 0, none⟩)) false ty).run Tryz.prog wr = .ok (.tuple #[.bool true, .int .i64 pk, .int .i64 pv]) w' at hnx
      change (Instr.entry (.pointer (some ⟨w.heap.size, 0, none⟩))).run Tryz.prog w' = .ok (.tuple #[.int .i64 pk, .int .i64 pv]) w' at hen
      clear hsub hp hR2 hg hl
      go_wp2_with fail
      exact ⟨⟨l1 ++ l2, rfl, HR2, HS2.out, HB2⟩, by rw [hn2, hmz]; exact hlen⟩
end Go.Proofs.YthkifibmihijaaaGreatDoor
/- The core where no rule holds; a round entered; the start. Conditions: those named in each theorem. -/
namespace Go.Proofs.YthkifibmihijaaaGreatDoor
open Go Go.RowKit Go.Gv Go.Proofs

set_option maxRecDepth 100000 in
set_option maxHeartbeats 8000000 in
theorem rule0_any (g gt mh mc ma ml mq : Nat) (c : GConf) (ep id : Int) (s : GCoreState) (b1 b2 b3 : Bool) (H : List (GTallyVoter × Bool)) (A : List (GTallyTurn × Int)) (L : List (Int × Int)) (w : World) (h : CoreIs w g gt mh mc ma ml mq c ep id s b1 b2 b3 H A L) (hf : 1 ≤ c.f ∧ c.f ≤ 21) (hL : ∀ p ∈ L, p.2 ≤ s.round) (hst : s.step = 1) (hb3 : b3 = false) (hA : allOf A 2 s.round < 2 * c.f + 1) :
    Calls Tryz.prog 109 #[.pointer (some ⟨g, 0, none⟩)] w fun e w' => e = .returned (.tuple #[.slice none 0 0, .bool false]) ∧ Bel w w' := by
  subst hb3
  have HH := Lib.hid h; have HL := Lib.hid hL; have HA := Lib.hid hA
  have e1 : IntKind.i64.wrap (c.f + 1) = c.f + 1 := IntWalk.i64_in _ (by omega)
  have HST := Lib.hid hst
  clear h hL hA hst
  go_enter Tryz.func109, Tryz.ntmps109
  go_wp2_with fail
  refine (decided0_any g gt mh mc ma ml mq c ep id s b1 b2 false H A L w HH.out).mono ?_
  rintro _ w1 ⟨rfl, hb1⟩
  have HB1 := Lib.hid hb1
  have H1 := Lib.hid (HH.out.step hb1)
  clear hb1
  go_wp2_with fail
  refine wp_region_G GB [] GB.rf (by kernel_rfl) ?_
  refine wpG_looks 2 17 [0, 1, 2, 3, 4, 5, 6, 7, 8, 9, 10, 11, 12, 13, 14] rfl GB.rf GB.tr (by kernel_rfl) (fun _ _ _ _ hd h => And.intro (hd ▸ And.left h) (And.right h)) rfl (by kernel_rfl) ?_
  intro ι W hne CW
  have k0 := fun z => (H1.out.step (GB.undrew (CW.out z))).cells
  have k1 := fun z => (k0 z).1
  have k2 := fun z => (k0 z).2.2.2.1
  have k3 := fun z => (k0 z).2.2.2.2.2.2.2.1
  clear k0
  repeat (refine wpLooksG_step (fun K hK => ?_); go_simp; refine hK _ ?_; clear hK K)
  refine wpLooksG_nil ?_
  clear k1 k2 k3 CW hne W ι
  refine wpG_force 15 _ rfl (by kernel_rfl) rfl fun wa hwa K hK => ?_
  have HA1 := H1.out.step (GB.undrew hwa)
  go_simp
  refine (far_any gt ml L s.round (c.f + 1) wa HA1.cells.2.2.2.2.2.2.2.2.2.2.2.2.2.2.2 HA1.last HL.out).mono ?_
  rintro _ wb ⟨rfl, hbb⟩
  refine hK _ _ (fun _ => hbb) ?_
  clear hK K HA1
  refine wpG_force 16 _ rfl (by kernel_rfl) rfl fun wc hwc K hK => ?_
  go_simp
  refine hK _ _ (fun _ => GB.rf _) ?_
  clear hK K
  refine wpG_end (by kernel_rfl) (fun wn hwn => ?_) _
  have hbn := Bel.trans (GB.undrew hwa) (Bel.trans hbb (GB.tr _ _ _ hwc hwn))
  have HB2 := Lib.hid (HB1.out.trans hbn)
  have H2 := Lib.hid (H1.out.step hbn)
  clear hbn hwn hwc hbb hwa H1 HB1
  go_wp2_with fail
  have hgl : ¬ wn.heap.size ≤ g := by have := get?_lt H2.out.get; simp only at this; omega
  have hml : ¬ wn.heap.size ≤ mq := by have := mapAt_lt H2.out.props; omega
  have HGL := Lib.hid hgl; have HML := Lib.hid hml
  clear hgl hml
  have hmg : ∀ r : Int, mget ([] : List (Int × GCoreProposal)) r = none := fun _ => rfl
  refine wp_region_H GB (Chg (fun k => wn.heap.size ≤ k)) [13, 14, 15] [] GB.rf (by kernel_rfl) ?_
  refine wpH_looks 3 16 [0, 1, 2, 3, 4, 5, 6, 7, 8, 9, 10, 11, 12] rfl GB.rf GB.tr (Chg.refl _) (fun _ _ _ h k => h.tr k) (fun _ _ h => Chg.of_bel h _) (by kernel_rfl) (fun _ _ _ _ hd h => And.intro (hd ▸ And.left h) (And.right h)) rfl (by kernel_rfl) ?_
  intro ι W hne CW
  have k0 := H2.out.cells
  have k2 := fun z => (CW.out z).cell k0.2.2.2.1 HGL.out
  have k3 := fun z => (CW.out z).cell k0.2.2.2.2.2.2.2.2.1 HGL.out
  have k4 := fun z => (CW.out z).map H2.out.props HML.out
  clear k0
  repeat (refine wpLooksG_step (fun K hK => ?_); go_simp; refine hK _ ?_; clear hK K)
  refine wpLooksG_nil ?_
  clear k2 k3 k4 CW hne W ι
  refine wpH_force 13 _ rfl (by kernel_rfl) rfl fun wa hwa K hK => ?_
  have hz := (GB.undrew hwa).size
  have c6 := get?_new (w := wa) 275 (default : GCoreProposal)
  have b6 : blkFree (wa.alloc (.cells (GCoreProposal.enc default).toArray 275)) wa.heap.size = true := blkFree_new _ _ rfl
  go_simp
  refine hK _ _ (fun h => absurd (by simp) h) (fun _ => Chg.of_bel ((Bel.refl _).alloc _) _) ?_
  clear hK K
  have HBA := Lib.hid ((GB.undrew hwa).alloc (.cells (GCoreProposal.enc default).toArray 275) : Bel wn _)
  obtain ⟨g6, hg6⟩ : ∃ g6, wa.heap.size = g6 := ⟨_, rfl⟩
  rw [hg6] at c6 b6 hz ⊢
  generalize wa.alloc (.cells (GCoreProposal.enc default).toArray 275) = wa2 at c6 b6 HBA ⊢
  clear hwa hg6
  refine wpH_force 14 _ rfl (by kernel_rfl) rfl fun wb hwb K hK => ?_
  have d6 := GB.get hwb c6
  have e6 := (blkFree_keep (Below.block hwb _ (get?_lt c6))).trans b6
  go_simp
  refine hK _ _ (fun h => absurd (by simp) h) (fun _ => chg_put hz _) ?_
  clear hK K
  have HCB := Lib.hid (((Chg.of_bel (HBA.out.trans hwb) _).tr (chg_put (S := fun k => wn.heap.size ≤ k) hz (GCoreProposal.enc default))) : Chg (fun k => wn.heap.size ≤ k) wn (World.putCells wb ⟨g6, 0, none⟩ (GCoreProposal.enc default)))
  have d7 : get? GCoreProposal (World.putCells wb ⟨g6, 0, none⟩ (GCoreProposal.enc default)) ⟨g6, 0, none⟩ = some default := get?_putV _ d6
  generalize World.putCells wb ⟨g6, 0, none⟩ (GCoreProposal.enc default) = wb2 at HCB d7 ⊢
  clear hwb c6 b6 d6 e6 HBA hz
  refine wpH_force 15 _ rfl (by kernel_rfl) rfl fun wc hwc K hK => ?_
  go_simp
  refine hK _ _ (fun h => absurd (by simp) h) (fun _ => Chg.refl _ _) ?_
  clear hK K
  refine wpH_end (by kernel_rfl) (fun we hwe => ?_) _
  have HB3 := Lib.hid (HB2.out.trans ((HCB.out.tr (Chg.of_bel (GB.tr _ _ _ hwc hwe) _)).bel (fun k h => h)))
  have H3 := Lib.hid (H2.out.step ((HCB.out.tr (Chg.of_bel (GB.tr _ _ _ hwc hwe) _)).bel (fun k h => h)))
  clear hwe hwc HCB d7 HGL HML H2 HB2
  have k0 := H3.out.cells
  have k4 := k0.2.2.2.2.1
  rw [HST.out] at k4
  clear k0
  go_wp2_with fail
  refine wp_region_G GB [] GB.rf (by kernel_rfl) ?_
  refine wpG_looks 2 12 [0, 1, 2, 3, 4, 5, 6, 7, 8, 9] rfl GB.rf GB.tr (by kernel_rfl) (fun _ _ _ _ hd h => And.intro (hd ▸ And.left h) (And.right h)) rfl (by kernel_rfl) ?_
  intro ι W hne CW
  clear k4
  have k0 := fun z => (H3.out.step (GB.undrew (CW.out z))).cells
  have k1 := fun z => (k0 z).2.2.2.2.2.2.2.2.2.2.2.2.1
  have k2 := fun z => (k0 z).2.2.2.1
  clear k0
  refine wpLooksG_step (fun K hK => ?_); go_simp; refine hK _ ?_; clear hK K
  refine wpLooksG_step (fun K hK => ?_); go_simp; refine hK _ ?_; clear hK K
  refine wpLooksG_step (fun K hK => ?_); go_simp; refine hK _ ?_; clear hK K
  refine wpLooksG_step (fun K hK => ?_); go_simp; refine hK _ ?_; clear hK K
  refine wpLooksG_step (fun K hK => ?_)
  go_simp
  refine ⟨_, fun z => q_any c (W z) (by omega) (by omega), hK _ ?_⟩
  clear hK K
  repeat (refine wpLooksG_step (fun K hK => ?_); go_simp; refine hK _ ?_; clear hK K)
  refine wpLooksG_nil ?_
  clear k1 k2 CW hne W ι
  refine wpG_force 10 _ rfl (by kernel_rfl) rfl fun wa hwa K hK => ?_
  go_simp
  refine hK _ _ (fun _ => GB.rf _) ?_
  clear hK K
  refine wpG_force 11 _ rfl (by kernel_rfl) rfl fun wb hwb K hK => ?_
  go_simp
  refine hK _ _ (fun _ => GB.rf _) ?_
  clear hK K
  refine wpG_end (by kernel_rfl) (fun wn2 hwn => ?_) _
  have hbn := GB.undrew (GB.tr _ _ _ (GB.tr _ _ _ hwa hwb) hwn)
  have HB4 := Lib.hid (HB3.out.trans hbn)
  have H4 := Lib.hid (H3.out.step hbn)
  clear hbn hwn hwb hwa H3 HB3
  have k0 := H4.out.cells
  have k4 := k0.2.2.2.2.1
  rw [HST.out] at k4
  have k5 := k0.2.2.2.2.2.2.2.2.2.2.2.1
  have k6 := k0.2.2.2.2.2.2.2.1
  clear k0
  go_wp2_with fail
  go_big_quiet (fail)
  go_wp2_with fail
  have H5 := fun n => H4.out.step (bdN (Below.refl wn2.heap.size wn2) n)
  refine (all_any gt ma A 2 s.round _ (H5 _).cells.2.2.2.2.2.2.2.2.2.2.2.2.2.2.1 (H5 _).all).mono ?_
  obtain ⟨na, hna⟩ : ∃ na, allOf A 2 s.round = na := ⟨_, rfl⟩
  have hq9 : ¬ 2 * c.f + 1 ≤ na := by have := HA.out; rw [hna] at this; omega
  rw [hna]
  rintro _ w9 ⟨rfl, hw9⟩
  clear hna
  go_wp2_with fail
  go_ret2
  exact ⟨rfl, HB4.out.trans (bdN (Below.refl _ _) _)⟩
set_option maxRecDepth 100000 in
set_option maxHeartbeats 2000000 in
theorem settle0_any (g gt mh mc ma ml mq : Nat) (c : GConf) (ep id : Int) (s : GCoreState) (b1 b2 b3 : Bool) (H : List (GTallyVoter × Bool)) (A : List (GTallyTurn × Int)) (L : List (Int × Int)) (w : World) (h : CoreIs w g gt mh mc ma ml mq c ep id s b1 b2 b3 H A L) (hf : 1 ≤ c.f ∧ c.f ≤ 21) (hL : ∀ p ∈ L, p.2 ≤ s.round) (hst : s.step = 1) (hd : s.decided = false) (hb3 : b3 = false) (hA : allOf A 2 s.round < 2 * c.f + 1) :
    Calls Tryz.prog 63 #[.pointer (some ⟨g, 0, none⟩)] w fun e w' => e = .returned (.slice none 0 0) ∧ Bel w w' := by
  have HH := Lib.hid h; have HL := Lib.hid hL; have HA := Lib.hid hA; have HST := Lib.hid hst; have HD := Lib.hid hd; have HB3 := Lib.hid hb3; have HF := Lib.hid hf
  clear h hL hA hst hd hb3 hf
  go_enter Tryz.func63, Tryz.ntmps63
  go_wp2_with fail
  go_loopw [3] (fun ov wr => ov = .slice none 0 0 ∧ Hid (Bel w wr)) (fun _ _ => 0)
  case atStart => exact ⟨rfl, Lib.hid (Bel.refl w)⟩
  case round =>
    obtain ⟨rfl, hb⟩ := hrel
    have k0 := (HH.out.step hb.out).cells
    have k4 := k0.2.2.2.2.1
    rw [HST.out] at k4
    have k7 := k0.2.2.2.2.2.2.1
    rw [HD.out] at k7
    clear k0
    go_wp2_with fail
    refine (rule0_any g gt mh mc ma ml mq c ep id s b1 b2 b3 H A L wr (HH.out.step hb.out) HF.out HL.out HST.out HB3.out HA.out).mono ?_
    rintro _ w2 ⟨rfl, hb2⟩
    have HB2 := Lib.hid (hb.out.trans hb2)
    clear hb2 k4 k7
    go_wp2_with fail
    go_ret
    exact ⟨rfl, HB2.out⟩
set_option maxRecDepth 100000 in
set_option maxHeartbeats 400000 in
theorem timer_any (g gt mh mc ma ml mq : Nat) (c : GConf) (ep id : Int) (s : GCoreState) (b1 b2 b3 : Bool) (H : List (GTallyVoter × Bool)) (A : List (GTallyTurn × Int)) (L : List (Int × Int)) (w : World) (h : CoreIs w g gt mh mc ma ml mq c ep id s b1 b2 b3 H A L) (kind : Int) :
    Calls Tryz.prog 108 #[.pointer (some ⟨g, 0, none⟩), .int .i64 kind] w fun e w' => e = .returned (GCoreAct.val ⟨4, s.round, kind, default⟩) ∧ Bel w w' := by
  have k0 := h.cells
  have k2 := k0.2.2.2.1
  clear k0
  have hgl : g < w.heap.size := get?_lt h.get
  clear h
  go_enter Tryz.func108, Tryz.ntmps108
  go_wp2_with fail
  refine bodyPost_ret (results_cell (x := (⟨4, s.round, kind, default⟩ : GCoreAct)) rfl rfl ag160 sz160 (get?_new _ _)) rfl ⟨?_, (Bel.refl w).alloc _⟩
  simp only [GCoreAct.val_eq]
theorem core_round (x : GCoreCore) (v : Int) : Enc.enc ({ x with s := { x.s with round := v } } : GCoreCore) = (Enc.enc x).set 4 (.int .i64 v) := rfl
theorem core_step (x : GCoreCore) (v : Int) : Enc.enc ({ x with s := { x.s with step := v } } : GCoreCore) = (Enc.enc x).set 5 (.int .i64 v) := rfl
theorem core_b1 (x : GCoreCore) (v : Bool) : Enc.enc ({ x with wasValid := v } : GCoreCore) = (Enc.enc x).set 107 (.bool v) := by
  show GCoreCore.enc _ = (GCoreCore.enc _).set _ _
  simp [GCoreCore.enc, List.set_append, GConf.enc_len, GCoreState.enc_len]
theorem core_b2 (x : GCoreCore) (v : Bool) : Enc.enc ({ x with setPrevote := v } : GCoreCore) = (Enc.enc x).set 108 (.bool v) := by
  show GCoreCore.enc _ = (GCoreCore.enc _).set _ _
  simp [GCoreCore.enc, List.set_append, GConf.enc_len, GCoreState.enc_len]
theorem core_b3 (x : GCoreCore) (v : Bool) : Enc.enc ({ x with setPrecommit := v } : GCoreCore) = (Enc.enc x).set 109 (.bool v) := by
  show GCoreCore.enc _ = (GCoreCore.enc _).set _ _
  simp [GCoreCore.enc, List.set_append, GConf.enc_len, GCoreState.enc_len]
end Go.Proofs.YthkifibmihijaaaGreatDoor
/- A round entered; the core's start. Conditions: those named in each theorem. -/
namespace Go.Proofs.YthkifibmihijaaaGreatDoor
open Go Go.RowKit Go.Gv Go.Proofs

def entered (s : GCoreState) (r : Int) : GCoreState := { s with round := r, step := 1 }
def enterAct (s : GCoreState) (id r : Int) (p : Nat) : GCoreAct := if (p : Int) = id then ⟨1, r, s.validRound, s.valid⟩ else ⟨4, r, 1, default⟩
set_option maxRecDepth 100000 in
set_option maxHeartbeats 4000000 in
theorem enter_any (g gt mh mc ma ml mq : Nat) (c : GConf) (ep id : Int) (s : GCoreState) (b1 b2 b3 : Bool) (H : List (GTallyVoter × Bool)) (A : List (GTallyTurn × Int)) (L : List (Int × Int)) (w : World) (h : CoreIs w g gt mh mc ma ml mq c ep id s b1 b2 b3 H A L) (f e r : Nat) (hf : c.f = (f : Int)) (hf1 : f ≤ 21) (he : ep = (e : Int)) (he1 : e ≤ 1048576) (hr : r ≤ 1048576) (hgt : g ≠ gt) :
    Calls Tryz.prog 62 #[.pointer (some ⟨g, 0, none⟩), .int .i64 (r : Int)] w fun x w' => ∃ A2 : Option Addr, x = .returned (.slice A2 1 1) ∧ Sl GCoreAct w' w'.heap.size A2 1 [enterAct s id r ((e % (3 * f + 1) + r % (3 * f + 1)) % (3 * f + 1))] ∧
      CoreIs w' g gt mh mc ma ml mq c ep id (entered s r) false false false H A L ∧ Chg (fun k => k = g) w w' := by
  subst he
  have HH := Lib.hid h
  have k0 := h.cells
  have f4 := k0.2.2.2.1
  have f5 := k0.2.2.2.2.1
  have f7 := k0.2.2.2.2.2.2.2.2.2.1
  have f8 := k0.2.2.2.2.2.2.2.2.2.2.1
  have f9 := k0.2.2.2.2.2.2.2.2.2.2.2.1
  clear k0 h
  have hfz := frozen_of_free (a := ⟨g, 4, none⟩) HH.out.free
  have hfz5 := frozen_of_free (a := ⟨g, 5, none⟩) HH.out.free
  have hfz7 := frozen_of_free (a := ⟨g, 107, none⟩) HH.out.free
  have hfz8 := frozen_of_free (a := ⟨g, 108, none⟩) HH.out.free
  have hfz9 := frozen_of_free (a := ⟨g, 109, none⟩) HH.out.free
  have hr1 : ¬ (1048576 : Int) < (r : Int) := by omega
  go_enter Tryz.func62, Tryz.ntmps62
  go_upto_region 5 with fail
  have hg5 : get? GCoreCore (((((w.setCell ⟨g, 4, none⟩ (.int .i64 r)).setCell ⟨g, 5, none⟩ (.int .i64 1)).setCell ⟨g, 107, none⟩ (.bool false)).setCell ⟨g, 108, none⟩ (.bool false)).setCell ⟨g, 109, none⟩ (.bool false)) ⟨g, 0, none⟩ = some ⟨c, e, id, entered s r, some ⟨gt, 0, none⟩, some mq, false, false, false⟩ :=
    get?_poke (get?_poke (get?_poke (get?_poke (get?_poke HH.out.get (core_round ⟨c, e, id, s, some ⟨gt, 0, none⟩, some mq, b1, b2, b3⟩ r)) (core_step ⟨c, e, id, { s with round := r }, some ⟨gt, 0, none⟩, some mq, b1, b2, b3⟩ 1)) (core_b1 ⟨c, e, id, entered s r, some ⟨gt, 0, none⟩, some mq, b1, b2, b3⟩ false)) (core_b2 ⟨c, e, id, entered s r, some ⟨gt, 0, none⟩, some mq, false, b2, b3⟩ false)) (core_b3 ⟨c, e, id, entered s r, some ⟨gt, 0, none⟩, some mq, false, false, b3⟩ false)
  have hc5 : Chg (fun k => k = g) w (((((w.setCell ⟨g, 4, none⟩ (.int .i64 r)).setCell ⟨g, 5, none⟩ (.int .i64 1)).setCell ⟨g, 107, none⟩ (.bool false)).setCell ⟨g, 108, none⟩ (.bool false)).setCell ⟨g, 109, none⟩ (.bool false)) :=
    ((((chg_cell (S := fun k => k = g) rfl _).tr (chg_cell (S := fun k => k = g) rfl _)).tr (chg_cell (S := fun k => k = g) rfl _)).tr (chg_cell (S := fun k => k = g) rfl _)).tr (chg_cell (S := fun k => k = g) rfl _)
  have hb5 : blkFree (((((w.setCell ⟨g, 4, none⟩ (.int .i64 r)).setCell ⟨g, 5, none⟩ (.int .i64 1)).setCell ⟨g, 107, none⟩ (.bool false)).setCell ⟨g, 108, none⟩ (.bool false)).setCell ⟨g, 109, none⟩ (.bool false)) g = true := by
    rw [blkFree_setCell, blkFree_setCell, blkFree_setCell, blkFree_setCell, blkFree_setCell]; exact HH.out.free
  clear f4 f5 f7 f8 f9 hfz hfz5 hfz7 hfz8 hfz9
  generalize ((((w.setCell ⟨g, 4, none⟩ (.int .i64 r)).setCell ⟨g, 5, none⟩ (.int .i64 1)).setCell ⟨g, 107, none⟩ (.bool false)).setCell ⟨g, 108, none⟩ (.bool false)).setCell ⟨g, 109, none⟩ (.bool false) = wE at hg5 hc5 hb5 ⊢
  have nq : ¬ mq = g := fun e => get_not_mapV HH.out.props HH.out.get e.symm
  have nh : ¬ mh = g := fun e => get_not_mapV HH.out.have_ HH.out.get e.symm
  have na : ¬ ma = g := fun e => get_not_mapV HH.out.all HH.out.get e.symm
  have nl : ¬ ml = g := fun e => get_not_mapV HH.out.last HH.out.get e.symm
  have HE := Lib.hid (show CoreIs wE g gt mh mc ma ml mq c e id (entered s r) false false false H A L from ⟨hg5, hb5, hc5.get HH.out.tal (fun e => hgt e.symm), hc5.map HH.out.props nq, hc5.map HH.out.have_ nh, hc5.map HH.out.all na, hc5.map HH.out.last nl⟩)
  have HC5 := Lib.hid hc5
  clear hg5 hc5 hb5 nq nh na nl
  obtain ⟨p, hp⟩ : ∃ p, (e % (3 * f + 1) + r % (3 * f + 1)) % (3 * f + 1) = p := ⟨_, rfl⟩
  have HP := Lib.hid hp
  refine wp_region_G GB [] GB.rf (by kernel_rfl) ?_
  refine wpG_looks 2 15 [0, 1, 2, 3, 4, 5, 6, 7, 8, 10, 11, 12, 13] rfl GB.rf GB.tr (by kernel_rfl) (fun _ _ _ _ hd h => And.intro (hd ▸ And.left h) (And.right h)) rfl (by kernel_rfl) ?_
  intro ι W hne CW
  have k0 := fun z => (HE.out.step (GB.undrew (CW.out z))).cells
  have k1 := fun z => (k0 z).2.1
  have k2 := fun z => (k0 z).2.2.1
  have k3 := fun z => (k0 z).2.2.2.2.2.2.2.2.2.2.2.2.1
  clear k0
  repeat (refine wpLooksG_step (fun K hK => ?_); go_simp; refine hK _ ?_; clear hK K)
  refine wpLooksG_nil ?_
  clear k1 k2 k3 CW hne W ι
  refine wpG_force 9 _ rfl (by kernel_rfl) rfl fun wa hwa K hK => ?_
  go_simp
  refine (proposer_any c f e r wa hf hf1 he1 (by omega)).mono ?_
  rw [hp]
  rintro _ wb ⟨rfl, hbb⟩
  refine hK _ _ (fun _ => hbb) ?_
  clear hK K
  refine wpG_force 14 _ rfl (by kernel_rfl) rfl fun wc hwc K hK => ?_
  go_simp
  refine hK _ _ (fun _ => GB.rf _) ?_
  clear hK K
  refine wpG_end (by kernel_rfl) (fun wn hwn => ?_) _
  have hbn := Bel.trans (GB.undrew hwa) (Bel.trans hbb (GB.tr _ _ _ hwc hwn))
  have HN := Lib.hid (HE.out.step hbn)
  have HCN := Lib.hid (HC5.out.tr (Chg.of_bel hbn _))
  clear hbn hwn hwc hbb hwa HE HC5 hp
  by_cases hpi : (p : Int) = id
  · have hpb : ((p : Int) == id) = true := by rw [beq_iff_eq]; exact hpi
    have HA := Lib.hid (show enterAct s id r p = ⟨1, r, s.validRound, s.valid⟩ by unfold enterAct; rw [if_pos hpi])
    have k0 := HN.out.cells
    have k1 := k0.2.2.2.2.2.1
    have k2 := k0.2.2.2.2.2.2.2.2.2.2.2.2.2.1
    clear k0 hpi
    go_wp2_with fail
    go_region
    go_wp2_with fail
    go_ret
    rw [HP.out, HA.out]
    exact ⟨_, rfl, (Sl.new_ (xs := [(⟨1, r, s.validRound, s.valid⟩ : GCoreAct)]) (by simp; rfl) rfl rfl (by simp)).drew_, HN.out.step ((Bel.refl wn).alloc _).drew, HCN.out.tr (Chg.of_bel ((Bel.refl wn).alloc _).drew _)⟩
  · have hpb : ((p : Int) == id) = false := by rw [beq_eq_false_iff_ne]; exact hpi
    have HA := Lib.hid (show enterAct s id r p = ⟨4, r, 1, default⟩ by unfold enterAct; rw [if_neg hpi])
    clear hpi
    go_wp2_with fail
    refine (timer_any g gt mh mc ma ml mq c e id (entered s r) false false false H A L wn HN.out 1).mono ?_
    rintro _ wt ⟨rfl, hbt⟩
    have HN2 := Lib.hid (HN.out.step hbt)
    have HCN2 := Lib.hid (HCN.out.tr (Chg.of_bel hbt _))
    clear hbt HN HCN
    go_wp2_with fail
    go_ret
    rw [HP.out, HA.out]
    exact ⟨_, rfl, Sl.new_ (xs := [(⟨4, r, 1, default⟩ : GCoreAct)]) (by simp; rfl) rfl rfl (by simp), HN2.out.step ((Bel.refl wt).alloc _), HCN2.out.tr (Chg.of_bel ((Bel.refl wt).alloc _) _)⟩
theorem gAppend_zeroV {P : Program} {α : Type} [Enc α] {w : World} {e t : TypeId} {by8 : Nat} (E : ElemI P t e α by8) (A A2 : Option Addr) {k c c2 : Nat} (hkc : k ≤ c) (ty : TypeId) : (gAppend #[t, t] ty #[.slice A k c, .slice A2 0 c2]).run P w = .ok (.slice A k c) w := by
  obtain ⟨i, hi, hx⟩ := Option.map_eq_some_iff.1 E.ex
  unfold gAppend
  cases A <;> cases A2 <;> simp [Builtin.append_, run_underlying E.ht, sizeOf, typeInfo, hi, Builtin.lenOf, Builtin.firstCells, hkc, storeCells, loadCells, loadCellsFrom]
set_option maxRecDepth 100000 in
set_option maxHeartbeats 2000000 in
theorem startC_any (g gt mh mc ma ml mq : Nat) (c : GConf) (ep id : Int) (s : GCoreState) (b1 b2 b3 : Bool) (H : List (GTallyVoter × Bool)) (A : List (GTallyTurn × Int)) (L : List (Int × Int)) (w : World) (h : CoreIs w g gt mh mc ma ml mq c ep id s b1 b2 b3 H A L) (f e : Nat) (hf : c.f = (f : Int)) (hf0 : 1 ≤ f) (hf1 : f ≤ 21) (he : ep = (e : Int)) (he1 : e ≤ 1048576) (hgt : g ≠ gt) (hst : s.step = 0) (hd : s.decided = false) (hL : ∀ p ∈ L, p.2 ≤ 0) (hA : allOf A 2 0 < 2 * c.f + 1) :
    Calls Tryz.prog 28 #[.pointer (some ⟨g, 0, none⟩)] w fun x w' => ∃ A2 : Option Addr, x = .returned (.slice A2 1 1) ∧ Sl GCoreAct w' w'.heap.size A2 1 [enterAct s id 0 ((e % (3 * f + 1) + 0 % (3 * f + 1)) % (3 * f + 1))] ∧
      CoreIs w' g gt mh mc ma ml mq c ep id (entered s 0) false false false H A L ∧ Chg (fun k => k = g) w w' := by
  have HH := Lib.hid h; have HL := Lib.hid hL; have HA := Lib.hid hA; have HD := Lib.hid hd; have HF := Lib.hid hf; have HE := Lib.hid he
  have k0 := h.cells
  have f5 := k0.2.2.2.2.1
  rw [hst] at f5
  clear k0 h hL hA hd hst hf he
  go_enter Tryz.func28, Tryz.ntmps28
  go_wp2_with fail
  refine (enter_any g gt mh mc ma ml mq c ep id s b1 b2 b3 H A L w HH.out f e 0 HF.out hf1 HE.out he1 (by omega) hgt).mono ?_
  rintro _ w1 ⟨A2, rfl, hs, hc, hch⟩
  have HS := Lib.hid hs; have HC := Lib.hid hc; have HCH := Lib.hid hch
  clear hs hc hch f5
  go_wp2_with fail
  refine (settle0_any g gt mh mc ma ml mq c ep id (entered s 0) false false false H A L w1 HC.out (by have := HF.out; omega) HL.out rfl HD.out rfl HA.out).mono ?_
  rintro _ w2 ⟨rfl, hb2⟩
  have hap : (gAppend #[108, 108] 108 #[.slice A2 1 1, .slice none 0 0]).run Tryz.prog w2 = .ok (.slice A2 1 1) w2 := gAppend_zeroV ei108 A2 none (by omega) _
  have HS2 := Lib.hid (HS.out.stepB hb2); have HC2 := Lib.hid (HC.out.step hb2); have HCH2 := Lib.hid (HCH.out.tr (Chg.of_bel hb2 _))
  clear hb2
  go_wp2_with fail
  go_ret
  exact ⟨A2, rfl, HS2.out, HC2.out, HCH2.out⟩
set_option maxRecDepth 100000 in
set_option maxHeartbeats 1000000 in
theorem startC2_any (g gt mh mc ma ml mq : Nat) (c : GConf) (ep id : Int) (s : GCoreState) (b1 b2 b3 : Bool) (H : List (GTallyVoter × Bool)) (A : List (GTallyTurn × Int)) (L : List (Int × Int)) (w : World) (h : CoreIs w g gt mh mc ma ml mq c ep id s b1 b2 b3 H A L) (hst : 0 < s.step) :
    Calls Tryz.prog 28 #[.pointer (some ⟨g, 0, none⟩)] w fun x w' => x = .returned (.slice none 0 0) ∧ w' = w := by
  have k0 := h.cells
  have f5 := k0.2.2.2.2.1
  clear k0 h
  go_enter Tryz.func28, Tryz.ntmps28
  go_wp2_with fail
  go_ret
  exact ⟨rfl, rfl⟩
set_option maxRecDepth 100000 in
set_option maxHeartbeats 1000000 in
theorem state_any (g gt mh mc ma ml mq : Nat) (c : GConf) (ep id : Int) (s : GCoreState) (b1 b2 b3 : Bool) (H : List (GTallyVoter × Bool)) (A : List (GTallyTurn × Int)) (L : List (Int × Int)) (w : World) (h : CoreIs w g gt mh mc ma ml mq c ep id s b1 b2 b3 H A L) :
    Calls Tryz.prog 30 #[.pointer (some ⟨g, 0, none⟩)] w fun x w' => x = .returned s.val ∧ Bel w w' := by
  have f0 := GCoreCore.at_s h.get
  simp only [Addr.add_lit, Nat.zero_add, Nat.reduceAdd] at f0
  have hgl : g < w.heap.size := get?_lt h.get
  have f1 := get?_alloc (.cells (GCoreState.enc default).toArray 83) f0
  clear h
  go_enter Tryz.func30, Tryz.ntmps30
  go_wp2_with fail
  refine bodyPost_ret (results_cell (x := s) rfl rfl ag83 sz83 (get?_new _ _)) rfl ⟨?_, (Bel.refl w).alloc _⟩
  simp only [GCoreState.val_eq]
end Go.Proofs.YthkifibmihijaaaGreatDoor
/- Messages that hold no list, in new memory. Conditions: those named in each theorem. -/
namespace Go.Proofs.YthkifibmihijaaaGreatDoor
open Go Go.RowKit Go.Gv Go.Proofs

theorem setCell_id {w : World} {a : Addr} {v : Value} (h : w.cell? a = some v) : w.setCell a v = w := by
  unfold World.cell? at h
  split at h
  · rename_i c e f hb
    split at h
    · cases h
    · rename_i hs
      unfold World.setCell
      have : w.heap.modify a.block (fun | .cells c elem frozen => .cells (if a.spot.isSome then c else c.setIfInBounds a.off v) elem frozen | o => o) = w.heap := by
        apply Array.ext_getElem?
        intro k
        rw [Array.getElem?_modify]
        split
        · rename_i hk
          subst hk
          rw [hb]
          simp only [Option.map_some, hs, Bool.false_eq_true, if_false]
          rw [show c.setIfInBounds a.off v = c by
            apply Array.ext_getElem?
            intro j
            rw [Array.getElem?_setIfInBounds]
            split
            · rename_i hj; subst hj; first | exact h.symm | (rw [if_pos (Array.getElem?_eq_some_iff.1 h).1, h])
            · rfl]
        · rfl
      exact congrArg (fun h => ({ w with heap := h } : World)) this
  · cases h
theorem putFrom_id {w : World} {a : Addr} : ∀ (vs : List Value) (i : Nat), (∀ j v, vs[j]? = some v → w.cell? (a.add (i + j)) = some v) → World.putFrom w a i vs = w
  | [], _, _ => rfl
  | v :: vs, i, h => by
    unfold World.putFrom
    have h0 := h 0 v rfl
    rw [Nat.add_zero] at h0
    rw [setCell_id h0]
    exact putFrom_id vs (i + 1) (fun j u hu => by
      have := h (j + 1) u (by simpa using hu)
      rwa [show i + (j + 1) = i + 1 + j by omega] at this)
/-- A value stored where it stands already. -/
theorem put_id {α : Type} [Enc α] {w : World} {a : Addr} {x : α} (h : get? α w a = some x) : World.putCells w a (Enc.enc x) = w := by
  unfold World.putCells
  exact putFrom_id _ 0 (fun j v hv => by rw [Nat.zero_add]; exact (get?_iff.1 h) j v hv)
set_option maxRecDepth 100000 in
theorem copied0Stamp_any (f : Value) (w : World) : Calls Tryz.prog 149 #[.slice none 0 0, f] w fun e w' => e = .returned (.slice none 0 0) ∧ w' = w := by
  go_enter Tryz.func149, Tryz.ntmps149
  go_wp2_with fail
  go_loopw [5, 10] (fun ov iv wr => ov = .slice none 0 0 ∧ iv = .int .i64 0 ∧ wr = w) (fun _ _ _ => 0)
  case atStart => exact ⟨rfl, rfl, rfl⟩
  case round =>
    obtain ⟨rfl, rfl, rfl⟩ := hrel
    go_wp2_with fail
    go_ret
    exact ⟨rfl, rfl⟩
set_option maxRecDepth 100000 in
theorem copied0Cert_any (f : Value) (w : World) : Calls Tryz.prog 151 #[.slice none 0 0, f] w fun e w' => e = .returned (.slice none 0 0) ∧ w' = w := by
  go_enter Tryz.func151, Tryz.ntmps151
  go_wp2_with fail
  go_loopw [5, 10] (fun ov iv wr => ov = .slice none 0 0 ∧ iv = .int .i64 0 ∧ wr = w) (fun _ _ _ => 0)
  case atStart => exact ⟨rfl, rfl, rfl⟩
  case round =>
    obtain ⟨rfl, rfl, rfl⟩ := hrel
    go_wp2_with fail
    go_ret
    exact ⟨rfl, rfl⟩
set_option maxRecDepth 100000 in
theorem copied0Promise_any (f : Value) (w : World) : Calls Tryz.prog 152 #[.slice none 0 0, f] w fun e w' => e = .returned (.slice none 0 0) ∧ w' = w := by
  go_enter Tryz.func152, Tryz.ntmps152
  go_wp2_with fail
  go_loopw [5, 10] (fun ov iv wr => ov = .slice none 0 0 ∧ iv = .int .i64 0 ∧ wr = w) (fun _ _ _ => 0)
  case atStart => exact ⟨rfl, rfl, rfl⟩
  case round =>
    obtain ⟨rfl, rfl, rfl⟩ := hrel
    go_wp2_with fail
    go_ret
    exact ⟨rfl, rfl⟩
set_option maxRecDepth 100000 in
theorem copied0Opening_any (f : Value) (w : World) : Calls Tryz.prog 153 #[.slice none 0 0, f] w fun e w' => e = .returned (.slice none 0 0) ∧ w' = w := by
  go_enter Tryz.func153, Tryz.ntmps153
  go_wp2_with fail
  go_loopw [5, 10] (fun ov iv wr => ov = .slice none 0 0 ∧ iv = .int .i64 0 ∧ wr = w) (fun _ _ _ => 0)
  case atStart => exact ⟨rfl, rfl, rfl⟩
  case round =>
    obtain ⟨rfl, rfl, rfl⟩ := hrel
    go_wp2_with fail
    go_ret
    exact ⟨rfl, rfl⟩
set_option maxRecDepth 100000 in
theorem copied0Tomb_any (f : Value) (w : World) : Calls Tryz.prog 154 #[.slice none 0 0, f] w fun e w' => e = .returned (.slice none 0 0) ∧ w' = w := by
  go_enter Tryz.func154, Tryz.ntmps154
  go_wp2_with fail
  go_loopw [5, 10] (fun ov iv wr => ov = .slice none 0 0 ∧ iv = .int .i64 0 ∧ wr = w) (fun _ _ _ => 0)
  case atStart => exact ⟨rfl, rfl, rfl⟩
  case round =>
    obtain ⟨rfl, rfl, rfl⟩ := hrel
    go_wp2_with fail
    go_ret
    exact ⟨rfl, rfl⟩
set_option maxRecDepth 100000 in
theorem copied0Vote_any (f : Value) (w : World) : Calls Tryz.prog 105 #[.slice none 0 0, f] w fun e w' => e = .returned (.slice none 0 0) ∧ w' = w := by
  go_enter Tryz.func105, Tryz.ntmps105
  go_wp2_with fail
  go_loopw [5, 10] (fun ov iv wr => ov = .slice none 0 0 ∧ iv = .int .i64 0 ∧ wr = w) (fun _ _ _ => 0)
  case atStart => exact ⟨rfl, rfl, rfl⟩
  case round =>
    obtain ⟨rfl, rfl, rfl⟩ := hrel
    go_wp2_with fail
    go_ret
    exact ⟨rfl, rfl⟩
set_option maxRecDepth 100000 in
set_option maxHeartbeats 1000000 in
theorem cert0_any (x : GCert) (w : World) (hx : x.stamps = ⟨none, 0, 0⟩) : Calls Tryz.prog 101 #[x.val] w fun e w' => e = .returned x.val ∧ Bel w w' := by
  have HX := Lib.hid hx
  clear hx
  go_enter Tryz.func101, Tryz.ntmps101
  have c1 : get? GCert ((w.alloc (.cells (GCert.enc x).toArray 47)).alloc (.cells (GCert.enc default).toArray 47)) ⟨w.heap.size, 0, none⟩ = some x := get?_alloc _ (get?_new _ _)
  have c2 : get? GCert ((w.alloc (.cells (GCert.enc x).toArray 47)).alloc (.cells (GCert.enc default).toArray 47)) ⟨w.heap.size + 1, 0, none⟩ = some default := by
    have := get?_new (w := w.alloc (.cells (GCert.enc x).toArray 47)) 47 (default : GCert)
    rwa [World.size_alloc] at this
  have b1 : blkFree ((w.alloc (.cells (GCert.enc x).toArray 47)).alloc (.cells (GCert.enc default).toArray 47)) w.heap.size = true := by rw [blkFree_past _ _ (by simp)]; exact blkFree_new _ _ rfl
  have b2 : blkFree ((w.alloc (.cells (GCert.enc x).toArray 47)).alloc (.cells (GCert.enc default).toArray 47)) (w.heap.size + 1) = true := blkFree_new _ _ (by simp)
  have HB := Lib.hid (((Bel.refl w).alloc (.cells (GCert.enc x).toArray 47)).alloc (.cells (GCert.enc default).toArray 47))
  have f0 := GCert.at_stamps c1
  simp only [Addr.add_lit, Nat.zero_add] at f0
  rw [HX.out] at f0
  go_upto_region 1 with fail
  obtain ⟨q, hq⟩ : ∃ q, w.heap.size = q := ⟨_, rfl⟩
  have HQ := Lib.hid hq
  rw [hq] at c1 c2 b1 b2 f0 ⊢
  generalize (w.alloc (.cells (GCert.enc x).toArray 47)).alloc (.cells (GCert.enc default).toArray 47) = wa at c1 c2 b1 b2 HB f0 ⊢
  have hfr : wa.frozen? ⟨q, 37, none⟩ = false := frozen_of_free b1
  have hsame : wa.setCell ⟨q, 37, none⟩ (.slice none 0 0) = wa := setCell_id f0
  go_wp2_with fail
  refine (copied0Stamp_any _ _).mono ?_
  rintro _ w1 ⟨rfl, hw1⟩
  obtain rfl : wa = w1 := hw1.symm
  go_wp2_with fail
  try rw [hsame]
  try go_wp2_with fail
  have v2 : get? GCert (World.putCells wa ⟨q + 1, 0, none⟩ (GCert.enc x)) ⟨q + 1, 0, none⟩ = some x := get?_putV _ c2
  refine bodyPost_ret (results_cell (x := x) rfl rfl ag47 sz47 v2) rfl ⟨?_, ?_⟩
  · simp only [GCert.val_eq]
  · exact Chg.bel2 HB.out (chg_put (S := fun k => k = q + 1) rfl _) (fun k e => by rw [e, HQ.out]; omega)
set_option maxRecDepth 100000 in
set_option maxHeartbeats 1000000 in
theorem promC0_any (x : GPromise) (w : World) (hx : x.certs = ⟨none, 0, 0⟩) : Calls Tryz.prog 102 #[x.val] w fun e w' => e = .returned x.val ∧ Bel w w' := by
  have HX := Lib.hid hx
  clear hx
  go_enter Tryz.func102, Tryz.ntmps102
  have c1 : get? GPromise ((w.alloc (.cells (GPromise.enc x).toArray 52)).alloc (.cells (GPromise.enc default).toArray 52)) ⟨w.heap.size, 0, none⟩ = some x := get?_alloc _ (get?_new _ _)
  have c2 : get? GPromise ((w.alloc (.cells (GPromise.enc x).toArray 52)).alloc (.cells (GPromise.enc default).toArray 52)) ⟨w.heap.size + 1, 0, none⟩ = some default := by
    have := get?_new (w := w.alloc (.cells (GPromise.enc x).toArray 52)) 52 (default : GPromise)
    rwa [World.size_alloc] at this
  have b1 : blkFree ((w.alloc (.cells (GPromise.enc x).toArray 52)).alloc (.cells (GPromise.enc default).toArray 52)) w.heap.size = true := by rw [blkFree_past _ _ (by simp)]; exact blkFree_new _ _ rfl
  have b2 : blkFree ((w.alloc (.cells (GPromise.enc x).toArray 52)).alloc (.cells (GPromise.enc default).toArray 52)) (w.heap.size + 1) = true := blkFree_new _ _ (by simp)
  have HB := Lib.hid (((Bel.refl w).alloc (.cells (GPromise.enc x).toArray 52)).alloc (.cells (GPromise.enc default).toArray 52))
  have f0 := GPromise.at_certs c1
  simp only [Addr.add_lit, Nat.zero_add] at f0
  rw [HX.out] at f0
  go_upto_region 1 with fail
  obtain ⟨q, hq⟩ : ∃ q, w.heap.size = q := ⟨_, rfl⟩
  have HQ := Lib.hid hq
  rw [hq] at c1 c2 b1 b2 f0 ⊢
  generalize (w.alloc (.cells (GPromise.enc x).toArray 52)).alloc (.cells (GPromise.enc default).toArray 52) = wa at c1 c2 b1 b2 HB f0 ⊢
  have hfr : wa.frozen? ⟨q, 3, none⟩ = false := frozen_of_free b1
  have hsame : wa.setCell ⟨q, 3, none⟩ (.slice none 0 0) = wa := setCell_id f0
  go_wp2_with fail
  refine (copied0Cert_any _ _).mono ?_
  rintro _ w1 ⟨rfl, hw1⟩
  obtain rfl : wa = w1 := hw1.symm
  go_wp2_with fail
  try rw [hsame]
  try go_wp2_with fail
  have v2 : get? GPromise (World.putCells wa ⟨q + 1, 0, none⟩ (GPromise.enc x)) ⟨q + 1, 0, none⟩ = some x := get?_putV _ c2
  refine bodyPost_ret (results_cell (x := x) rfl rfl ag52 sz52 v2) rfl ⟨?_, ?_⟩
  · simp only [GPromise.val_eq]
  · exact Chg.bel2 HB.out (chg_put (S := fun k => k = q + 1) rfl _) (fun k e => by rw [e, HQ.out]; omega)
set_option maxRecDepth 100000 in
set_option maxHeartbeats 1000000 in
theorem open0_any (x : GOpening) (w : World) (hx : x.payload = ⟨none, 0, 0⟩) : Calls Tryz.prog 103 #[x.val] w fun e w' => e = .returned x.val ∧ Bel w w' := by
  have HX := Lib.hid hx
  clear hx
  go_enter Tryz.func103, Tryz.ntmps103
  have c1 : get? GOpening ((w.alloc (.cells (GOpening.enc x).toArray 66)).alloc (.cells (GOpening.enc default).toArray 66)) ⟨w.heap.size, 0, none⟩ = some x := get?_alloc _ (get?_new _ _)
  have c2 : get? GOpening ((w.alloc (.cells (GOpening.enc x).toArray 66)).alloc (.cells (GOpening.enc default).toArray 66)) ⟨w.heap.size + 1, 0, none⟩ = some default := by
    have := get?_new (w := w.alloc (.cells (GOpening.enc x).toArray 66)) 66 (default : GOpening)
    rwa [World.size_alloc] at this
  have b1 : blkFree ((w.alloc (.cells (GOpening.enc x).toArray 66)).alloc (.cells (GOpening.enc default).toArray 66)) w.heap.size = true := by rw [blkFree_past _ _ (by simp)]; exact blkFree_new _ _ rfl
  have b2 : blkFree ((w.alloc (.cells (GOpening.enc x).toArray 66)).alloc (.cells (GOpening.enc default).toArray 66)) (w.heap.size + 1) = true := blkFree_new _ _ (by simp)
  have HB := Lib.hid (((Bel.refl w).alloc (.cells (GOpening.enc x).toArray 66)).alloc (.cells (GOpening.enc default).toArray 66))
  have f0 := GOpening.at_payload c1
  simp only [Addr.add_lit, Nat.zero_add] at f0
  rw [HX.out] at f0
  go_upto_region 1 with fail
  obtain ⟨q, hq⟩ : ∃ q, w.heap.size = q := ⟨_, rfl⟩
  have HQ := Lib.hid hq
  rw [hq] at c1 c2 b1 b2 f0 ⊢
  generalize (w.alloc (.cells (GOpening.enc x).toArray 66)).alloc (.cells (GOpening.enc default).toArray 66) = wa at c1 c2 b1 b2 HB f0 ⊢
  have hfr : wa.frozen? ⟨q, 1, none⟩ = false := frozen_of_free b1
  have hsame : wa.setCell ⟨q, 1, none⟩ (.slice none 0 0) = wa := setCell_id f0
  have hap : (gAppend #[64, 64] 64 #[.slice none 0 0, .slice none 0 0]).run Tryz.prog wa = .ok (.slice none 0 0) wa := by unfold gAppend; exact Go.Gv.run_append_nil ei64 (OwnS.nil (α := U8) wa 0 5) _ 0
  go_wp2_with fail
  try rw [hsame]
  try go_wp2_with fail
  have v2 : get? GOpening (World.putCells wa ⟨q + 1, 0, none⟩ (GOpening.enc x)) ⟨q + 1, 0, none⟩ = some x := get?_putV _ c2
  refine bodyPost_ret (results_cell (x := x) rfl rfl ag66 sz66 v2) rfl ⟨?_, ?_⟩
  · simp only [GOpening.val_eq]
  · exact Chg.bel2 HB.out (chg_put (S := fun k => k = q + 1) rfl _) (fun k e => by rw [e, HQ.out]; omega)
end Go.Proofs.YthkifibmihijaaaGreatDoor
/- A message that holds no list, in new memory. Conditions: those named in each theorem. -/
namespace Go.Proofs.YthkifibmihijaaaGreatDoor
open Go Go.RowKit Go.Gv Go.Proofs

def nilH : Hdr := ⟨none, 0, 0⟩
structure PlainB (x : GBatch) : Prop where
  p : x.promises = ⟨none, 0, 0⟩
  o : x.openings = ⟨none, 0, 0⟩
  t : x.tombs = ⟨none, 0, 0⟩
structure PlainM (x : GMsg) : Prop where
  c : x.cert.stamps = ⟨none, 0, 0⟩
  p : x.promise.certs = ⟨none, 0, 0⟩
  o : x.opening.payload = ⟨none, 0, 0⟩
  b : PlainB x.proposal.batch
  d : PlainB x.decided.batch
  v : x.decided.votes = ⟨none, 0, 0⟩
set_option maxRecDepth 100000 in
set_option maxHeartbeats 2000000 in
theorem batch0_any (x : GBatch) (w : World) (hx : PlainB x) : Calls Tryz.prog 104 #[x.val] w fun e w' => e = .returned x.val ∧ Bel w w' := by
  have HX := Lib.hid hx
  clear hx
  go_enter Tryz.func104, Tryz.ntmps104
  have c1 : get? GBatch ((w.alloc (.cells (GBatch.enc x).toArray 57)).alloc (.cells (GBatch.enc default).toArray 57)) ⟨w.heap.size, 0, none⟩ = some x := get?_alloc _ (get?_new _ _)
  have c2 : get? GBatch ((w.alloc (.cells (GBatch.enc x).toArray 57)).alloc (.cells (GBatch.enc default).toArray 57)) ⟨w.heap.size + 1, 0, none⟩ = some default := by
    have := get?_new (w := w.alloc (.cells (GBatch.enc x).toArray 57)) 57 (default : GBatch)
    rwa [World.size_alloc] at this
  have b1 : blkFree ((w.alloc (.cells (GBatch.enc x).toArray 57)).alloc (.cells (GBatch.enc default).toArray 57)) w.heap.size = true := by rw [blkFree_past _ _ (by simp)]; exact blkFree_new _ _ rfl
  have b2 : blkFree ((w.alloc (.cells (GBatch.enc x).toArray 57)).alloc (.cells (GBatch.enc default).toArray 57)) (w.heap.size + 1) = true := blkFree_new _ _ (by simp)
  have HB := Lib.hid (((Bel.refl w).alloc (.cells (GBatch.enc x).toArray 57)).alloc (.cells (GBatch.enc default).toArray 57))
  go_upto_region 1 with fail
  obtain ⟨q, hq⟩ : ∃ q, w.heap.size = q := ⟨_, rfl⟩
  have HQ := Lib.hid hq
  rw [hq] at c1 c2 b1 b2 ⊢
  generalize (w.alloc (.cells (GBatch.enc x).toArray 57)).alloc (.cells (GBatch.enc default).toArray 57) = wa at c1 c2 b1 b2 HB ⊢
  have C1 := Lib.hid c1; have C2 := Lib.hid c2; have B1 := Lib.hid b1; have B2 := Lib.hid b2
  clear c1 c2 b1 b2 hq
  refine wp_region_G GB [10, 12, 14] GB.rf (by kernel_rfl) ?_
  refine wpG_looks 5 15 [0, 1, 2, 3, 4, 5, 6, 7, 8, 9] rfl GB.rf GB.tr (by kernel_rfl) (fun _ _ _ _ hd h => And.intro (hd ▸ And.left h) (And.right h)) rfl (by kernel_rfl) ?_
  intro ι W hne CW
  have k0 := GBatch.at_promises C1.out
  simp only [Addr.add_lit, Nat.zero_add, Nat.reduceAdd] at k0
  rw [HX.out.p] at k0
  have j0 := fun z => GB.cell (CW.out z) k0
  have k1 := GBatch.at_openings C1.out
  simp only [Addr.add_lit, Nat.zero_add, Nat.reduceAdd] at k1
  rw [HX.out.o] at k1
  have j1 := fun z => GB.cell (CW.out z) k1
  have k2 := GBatch.at_tombs C1.out
  simp only [Addr.add_lit, Nat.zero_add, Nat.reduceAdd] at k2
  rw [HX.out.t] at k2
  have j2 := fun z => GB.cell (CW.out z) k2
  refine wpLooksG_step (fun K hK => ?_); go_simp; refine hK _ ?_; clear hK K
  refine wpLooksG_step (fun K hK => ?_); go_simp; refine hK _ ?_; clear hK K
  refine wpLooksG_step (fun K hK => ?_)
  go_simp
  refine ⟨_, fun z => quietG (copied0Promise_any _ _) (fun _ _ h => h), hK _ ?_⟩
  clear hK K
  refine wpLooksG_step (fun K hK => ?_); go_simp; refine hK _ ?_; clear hK K
  refine wpLooksG_step (fun K hK => ?_); go_simp; refine hK _ ?_; clear hK K
  refine wpLooksG_step (fun K hK => ?_)
  go_simp
  refine ⟨_, fun z => quietG (copied0Opening_any _ _) (fun _ _ h => h), hK _ ?_⟩
  clear hK K
  refine wpLooksG_step (fun K hK => ?_); go_simp; refine hK _ ?_; clear hK K
  refine wpLooksG_step (fun K hK => ?_); go_simp; refine hK _ ?_; clear hK K
  refine wpLooksG_step (fun K hK => ?_)
  go_simp
  refine ⟨_, fun z => quietG (copied0Tomb_any _ _) (fun _ _ h => h), hK _ ?_⟩
  clear hK K
  refine wpLooksG_step (fun K hK => ?_); go_simp; refine hK _ ?_; clear hK K
  refine wpLooksG_nil ?_
  clear k0 k1 k2 j0 j1 j2 CW hne W ι
  refine wpG_force 10 _ rfl (by kernel_rfl) rfl fun w10 hw10 K hK => ?_
  have hb10 : GB wa w10 := GB.undrew hw10
  have m10 := GBatch.at_promises (GB.get hb10 C1.out)
  simp only [Addr.add_lit, Nat.zero_add, Nat.reduceAdd] at m10
  rw [HX.out.p] at m10
  have n10 : w10.frozen? ⟨q, 2, none⟩ = false := frozen_of_free ((blkFree_keep (Below.block hb10 _ (get?_lt C1.out))).trans B1.out)
  go_simp
  refine hK _ _ (fun h => absurd (by simp) h) ?_
  clear hK K
  have e10 : w10.setCell ⟨q, 2, none⟩ (.slice none 0 0) = w10 := setCell_id m10
  rw [e10]
  clear e10 m10 n10
  refine wpG_force 11 _ rfl (by kernel_rfl) rfl fun w11 hw11 K hK => ?_
  have hb11 : GB wa w11 := GB.tr _ _ _ hb10 hw11
  go_simp
  refine hK _ _ (fun _ => GB.rf _) ?_
  clear hK K
  refine wpG_force 12 _ rfl (by kernel_rfl) rfl fun w12 hw12 K hK => ?_
  have hb12 : GB wa w12 := GB.tr _ _ _ hb11 hw12
  have m12 := GBatch.at_openings (GB.get hb12 C1.out)
  simp only [Addr.add_lit, Nat.zero_add, Nat.reduceAdd] at m12
  rw [HX.out.o] at m12
  have n12 : w12.frozen? ⟨q, 3, none⟩ = false := frozen_of_free ((blkFree_keep (Below.block hb12 _ (get?_lt C1.out))).trans B1.out)
  go_simp
  refine hK _ _ (fun h => absurd (by simp) h) ?_
  clear hK K
  have e12 : w12.setCell ⟨q, 3, none⟩ (.slice none 0 0) = w12 := setCell_id m12
  rw [e12]
  clear e12 m12 n12
  refine wpG_force 13 _ rfl (by kernel_rfl) rfl fun w13 hw13 K hK => ?_
  have hb13 : GB wa w13 := GB.tr _ _ _ hb12 hw13
  go_simp
  refine hK _ _ (fun _ => GB.rf _) ?_
  clear hK K
  refine wpG_force 14 _ rfl (by kernel_rfl) rfl fun w14 hw14 K hK => ?_
  have hb14 : GB wa w14 := GB.tr _ _ _ hb13 hw14
  have m14 := GBatch.at_tombs (GB.get hb14 C1.out)
  simp only [Addr.add_lit, Nat.zero_add, Nat.reduceAdd] at m14
  rw [HX.out.t] at m14
  have n14 : w14.frozen? ⟨q, 4, none⟩ = false := frozen_of_free ((blkFree_keep (Below.block hb14 _ (get?_lt C1.out))).trans B1.out)
  go_simp
  refine hK _ _ (fun h => absurd (by simp) h) ?_
  clear hK K
  have e14 : w14.setCell ⟨q, 4, none⟩ (.slice none 0 0) = w14 := setCell_id m14
  rw [e14]
  clear e14 m14 n14
  refine wpG_end (by kernel_rfl) (fun wn hwn => ?_) _
  have HBN := Lib.hid (GB.tr _ _ _ hb14 hwn)
  have d1 := GB.get HBN.out C1.out
  have d2 := GB.get HBN.out C2.out
  have db2 := (blkFree_keep (Below.block HBN.out _ (get?_lt C2.out))).trans B2.out
  clear hwn hb10 hb11 hb12 hb13 hb14 hw10 hw11 hw12 hw13 hw14
  go_wp2_with fail
  have v2 : get? GBatch (World.putCells wn ⟨q + 1, 0, none⟩ (GBatch.enc x)) ⟨q + 1, 0, none⟩ = some x := get?_putV _ d2
  refine bodyPost_ret (results_cell (x := x) rfl rfl ag57 sz57 v2) rfl ⟨?_, ?_⟩
  · simp only [GBatch.val_eq]
  · exact Chg.bel2 (HB.out.trans HBN.out) (chg_put (S := fun k => k = q + 1) rfl _) (fun k e => by rw [e, HQ.out]; omega)
set_option maxRecDepth 100000 in
set_option maxHeartbeats 4000000 in
theorem copy0_any (x : GMsg) (w : World) (hx : PlainM x) : Calls Tryz.prog 58 #[x.val] w fun e w' => e = .returned x.val ∧ Bel w w' := by
  have HX := Lib.hid hx
  clear hx
  go_enter Tryz.func58, Tryz.ntmps58
  have c1 : get? GMsg ((w.alloc (.cells (GMsg.enc x).toArray 73)).alloc (.cells (GMsg.enc default).toArray 73)) ⟨w.heap.size, 0, none⟩ = some x := get?_alloc _ (get?_new _ _)
  have c2 : get? GMsg ((w.alloc (.cells (GMsg.enc x).toArray 73)).alloc (.cells (GMsg.enc default).toArray 73)) ⟨w.heap.size + 1, 0, none⟩ = some default := by
    have := get?_new (w := w.alloc (.cells (GMsg.enc x).toArray 73)) 73 (default : GMsg)
    rwa [World.size_alloc] at this
  have b1 : blkFree ((w.alloc (.cells (GMsg.enc x).toArray 73)).alloc (.cells (GMsg.enc default).toArray 73)) w.heap.size = true := by rw [blkFree_past _ _ (by simp)]; exact blkFree_new _ _ rfl
  have b2 : blkFree ((w.alloc (.cells (GMsg.enc x).toArray 73)).alloc (.cells (GMsg.enc default).toArray 73)) (w.heap.size + 1) = true := blkFree_new _ _ (by simp)
  have HB := Lib.hid (((Bel.refl w).alloc (.cells (GMsg.enc x).toArray 73)).alloc (.cells (GMsg.enc default).toArray 73))
  go_upto_region 1 with fail
  obtain ⟨q, hq⟩ : ∃ q, w.heap.size = q := ⟨_, rfl⟩
  have HQ := Lib.hid hq
  rw [hq] at c1 c2 b1 b2 ⊢
  generalize (w.alloc (.cells (GMsg.enc x).toArray 73)).alloc (.cells (GMsg.enc default).toArray 73) = wa at c1 c2 b1 b2 HB ⊢
  have C1 := Lib.hid c1; have C2 := Lib.hid c2; have B1 := Lib.hid b1; have B2 := Lib.hid b2
  clear c1 c2 b1 b2 hq
  refine wp_region_G GB [10, 12, 14] GB.rf (by kernel_rfl) ?_
  refine wpG_looks 5 15 [0, 1, 2, 3, 4, 5, 6, 7, 8, 9] rfl GB.rf GB.tr (by kernel_rfl) (fun _ _ _ _ hd h => And.intro (hd ▸ And.left h) (And.right h)) rfl (by kernel_rfl) ?_
  intro ι W hne CW
  have k0 := GMsg.at_cert C1.out
  simp only [Addr.add_lit, Nat.zero_add, Nat.reduceAdd] at k0
  have j0 := fun z => GB.get (CW.out z) k0
  have k1 := GMsg.at_promise C1.out
  simp only [Addr.add_lit, Nat.zero_add, Nat.reduceAdd] at k1
  have j1 := fun z => GB.get (CW.out z) k1
  have k2 := GMsg.at_opening C1.out
  simp only [Addr.add_lit, Nat.zero_add, Nat.reduceAdd] at k2
  have j2 := fun z => GB.get (CW.out z) k2
  refine wpLooksG_step (fun K hK => ?_); go_simp; refine hK _ ?_; clear hK K
  refine wpLooksG_step (fun K hK => ?_); go_simp; refine hK _ ?_; clear hK K
  refine wpLooksG_step (fun K hK => ?_)
  go_simp
  refine ⟨_, fun z => cert0_any x.cert (W z) HX.out.c, hK _ ?_⟩
  clear hK K
  refine wpLooksG_step (fun K hK => ?_); go_simp; refine hK _ ?_; clear hK K
  refine wpLooksG_step (fun K hK => ?_); go_simp; refine hK _ ?_; clear hK K
  refine wpLooksG_step (fun K hK => ?_)
  go_simp
  refine ⟨_, fun z => promC0_any x.promise (W z) HX.out.p, hK _ ?_⟩
  clear hK K
  refine wpLooksG_step (fun K hK => ?_); go_simp; refine hK _ ?_; clear hK K
  refine wpLooksG_step (fun K hK => ?_); go_simp; refine hK _ ?_; clear hK K
  refine wpLooksG_step (fun K hK => ?_)
  go_simp
  refine ⟨_, fun z => open0_any x.opening (W z) HX.out.o, hK _ ?_⟩
  clear hK K
  refine wpLooksG_step (fun K hK => ?_); go_simp; refine hK _ ?_; clear hK K
  refine wpLooksG_nil ?_
  clear k0 k1 k2 j0 j1 j2 CW hne W ι
  refine wpG_force 10 _ rfl (by kernel_rfl) rfl fun w10 hw10 K hK => ?_
  have hb10 : GB wa w10 := GB.undrew hw10
  have m10 := GMsg.at_cert (GB.get hb10 C1.out)
  simp only [Addr.add_lit, Nat.zero_add, Nat.reduceAdd] at m10
  have n10 := (blkFree_keep (Below.block hb10 _ (get?_lt C1.out))).trans B1.out
  go_simp
  refine hK _ _ (fun h => absurd (by simp) h) ?_
  clear hK K
  have e10 : World.putCells w10 ⟨q, 78, none⟩ (GCert.enc x.cert) = w10 := put_id m10
  rw [e10]
  clear e10 m10 n10
  refine wpG_force 11 _ rfl (by kernel_rfl) rfl fun w11 hw11 K hK => ?_
  have hb11 : GB wa w11 := GB.tr _ _ _ hb10 hw11
  go_simp
  refine hK _ _ (fun _ => GB.rf _) ?_
  clear hK K
  refine wpG_force 12 _ rfl (by kernel_rfl) rfl fun w12 hw12 K hK => ?_
  have hb12 : GB wa w12 := GB.tr _ _ _ hb11 hw12
  have m12 := GMsg.at_promise (GB.get hb12 C1.out)
  simp only [Addr.add_lit, Nat.zero_add, Nat.reduceAdd] at m12
  have n12 := (blkFree_keep (Below.block hb12 _ (get?_lt C1.out))).trans B1.out
  go_simp
  refine hK _ _ (fun h => absurd (by simp) h) ?_
  clear hK K
  have e12 : World.putCells w12 ⟨q, 157, none⟩ (GPromise.enc x.promise) = w12 := put_id m12
  rw [e12]
  clear e12 m12 n12
  refine wpG_force 13 _ rfl (by kernel_rfl) rfl fun w13 hw13 K hK => ?_
  have hb13 : GB wa w13 := GB.tr _ _ _ hb12 hw13
  go_simp
  refine hK _ _ (fun _ => GB.rf _) ?_
  clear hK K
  refine wpG_force 14 _ rfl (by kernel_rfl) rfl fun w14 hw14 K hK => ?_
  have hb14 : GB wa w14 := GB.tr _ _ _ hb13 hw14
  have m14 := GMsg.at_opening (GB.get hb14 C1.out)
  simp only [Addr.add_lit, Nat.zero_add, Nat.reduceAdd] at m14
  have n14 := (blkFree_keep (Below.block hb14 _ (get?_lt C1.out))).trans B1.out
  go_simp
  refine hK _ _ (fun h => absurd (by simp) h) ?_
  clear hK K
  have e14 : World.putCells w14 ⟨q, 248, none⟩ (GOpening.enc x.opening) = w14 := put_id m14
  rw [e14]
  clear e14 m14 n14
  refine wpG_end (by kernel_rfl) (fun wn hwn => ?_) _
  have HBN := Lib.hid (GB.tr _ _ _ hb14 hwn)
  have D1 := Lib.hid (GB.get HBN.out C1.out)
  have D2 := Lib.hid (GB.get HBN.out C2.out)
  have DB1 := Lib.hid ((blkFree_keep (Below.block HBN.out _ (get?_lt C1.out))).trans B1.out)
  have DB2 := Lib.hid ((blkFree_keep (Below.block HBN.out _ (get?_lt C2.out))).trans B2.out)
  clear hwn hb10 hb11 hb12 hb13 hb14 hw10 hw11 hw12 hw13 hw14 C1 C2 B1 B2
  have p1 := GProposal.at_batch (GMsg.at_proposal D1.out)
  simp only [Addr.add_lit, Nat.zero_add, Nat.reduceAdd] at p1
  go_wp2_with fail
  refine (batch0_any x.proposal.batch wn HX.out.b).mono ?_
  rintro _ wp ⟨rfl, hbp⟩
  have HBP := Lib.hid (Bel.trans HBN.out hbp)
  have E1 := Lib.hid (GB.get hbp D1.out); have E2 := Lib.hid (GB.get hbp D2.out)
  have EB1 := Lib.hid ((blkFree_keep (Below.block hbp _ (get?_lt D1.out))).trans DB1.out)
  have EB2 := Lib.hid ((blkFree_keep (Below.block hbp _ (get?_lt D2.out))).trans DB2.out)
  clear hbp p1 D1 D2 DB1 DB2 HBN
  have p1 := GProposal.at_batch (GMsg.at_proposal E1.out)
  simp only [Addr.add_lit, Nat.zero_add, Nat.reduceAdd] at p1
  have eb1 := EB1.out
  have ep : World.putCells wp ⟨q, 167, none⟩ (GBatch.enc x.proposal.batch) = wp := put_id p1
  go_wp2_with fail
  clear p1 eb1 ep
  refine wp_region_G GB [10, 13] GB.rf (by kernel_rfl) ?_
  refine wpG_looks 5 14 [0, 1, 2, 3, 4, 5, 6, 7, 8] rfl GB.rf GB.tr (by kernel_rfl) (fun _ _ _ _ hd h => And.intro (hd ▸ And.left h) (And.right h)) rfl (by kernel_rfl) ?_
  intro ι W hne CW
  have k0 := GDecided.at_batch (GMsg.at_decided E1.out)
  simp only [Addr.add_lit, Nat.zero_add, Nat.reduceAdd] at k0
  have j0 := fun z => GB.get (CW.out z) k0
  have k1 := GDecided.at_votes (GMsg.at_decided E1.out)
  simp only [Addr.add_lit, Nat.zero_add, Nat.reduceAdd] at k1
  rw [HX.out.v] at k1
  have j1 := fun z => GB.cell (CW.out z) k1
  refine wpLooksG_step (fun K hK => ?_); go_simp; refine hK _ ?_; clear hK K
  refine wpLooksG_step (fun K hK => ?_); go_simp; refine hK _ ?_; clear hK K
  refine wpLooksG_step (fun K hK => ?_); go_simp; refine hK _ ?_; clear hK K
  refine wpLooksG_step (fun K hK => ?_)
  go_simp
  refine ⟨_, fun z => batch0_any x.decided.batch (W z) HX.out.d, hK _ ?_⟩
  clear hK K
  refine wpLooksG_step (fun K hK => ?_); go_simp; refine hK _ ?_; clear hK K
  refine wpLooksG_step (fun K hK => ?_); go_simp; refine hK _ ?_; clear hK K
  refine wpLooksG_step (fun K hK => ?_); go_simp; refine hK _ ?_; clear hK K
  refine wpLooksG_step (fun K hK => ?_)
  go_simp
  refine ⟨_, fun z => quietG (copied0Vote_any _ _) (fun _ _ h => h), hK _ ?_⟩
  clear hK K
  refine wpLooksG_step (fun K hK => ?_); go_simp; refine hK _ ?_; clear hK K
  refine wpLooksG_nil ?_
  clear k0 k1 j0 j1 CW hne W ι
  refine wpG_force 9 _ rfl (by kernel_rfl) rfl fun w9 hw9 K hK => ?_
  have hb9 : GB wp w9 := GB.undrew hw9
  go_simp
  refine hK _ _ (fun _ => GB.rf _) ?_
  clear hK K
  refine wpG_force 10 _ rfl (by kernel_rfl) rfl fun w10 hw10 K hK => ?_
  have hb10 : GB wp w10 := GB.tr _ _ _ hb9 hw10
  have m10 := GDecided.at_batch (GMsg.at_decided (GB.get hb10 E1.out))
  simp only [Addr.add_lit, Nat.zero_add, Nat.reduceAdd] at m10
  have n10 := (blkFree_keep (Below.block hb10 _ (get?_lt E1.out))).trans EB1.out
  go_simp
  refine hK _ _ (fun h => absurd (by simp) h) ?_
  clear hK K
  have e10 : World.putCells w10 ⟨q, 289, none⟩ (GBatch.enc x.decided.batch) = w10 := put_id m10
  rw [e10]
  clear e10 m10 n10
  refine wpG_force 11 _ rfl (by kernel_rfl) rfl fun w11 hw11 K hK => ?_
  have hb11 : GB wp w11 := GB.tr _ _ _ hb10 hw11
  go_simp
  refine hK _ _ (fun _ => GB.rf _) ?_
  clear hK K
  refine wpG_force 12 _ rfl (by kernel_rfl) rfl fun w12 hw12 K hK => ?_
  have hb12 : GB wp w12 := GB.tr _ _ _ hb11 hw12
  go_simp
  refine hK _ _ (fun _ => GB.rf _) ?_
  clear hK K
  refine wpG_force 13 _ rfl (by kernel_rfl) rfl fun w13 hw13 K hK => ?_
  have hb13 : GB wp w13 := GB.tr _ _ _ hb12 hw13
  have m13 := GDecided.at_votes (GMsg.at_decided (GB.get hb13 E1.out))
  simp only [Addr.add_lit, Nat.zero_add, Nat.reduceAdd] at m13
  rw [HX.out.v] at m13
  have n13 : w13.frozen? ⟨q, 294, none⟩ = false := frozen_of_free ((blkFree_keep (Below.block hb13 _ (get?_lt E1.out))).trans EB1.out)
  go_simp
  refine hK _ _ (fun h => absurd (by simp) h) ?_
  clear hK K
  have e13 : w13.setCell ⟨q, 294, none⟩ (.slice none 0 0) = w13 := setCell_id m13
  rw [e13]
  clear e13 m13 n13
  refine wpG_end (by kernel_rfl) (fun wn2 hwn => ?_) _
  have HBN2 := Lib.hid (GB.tr _ _ _ hb13 hwn)
  have d1 := GB.get HBN2.out E1.out
  have d2 := GB.get HBN2.out E2.out
  have db2 := (blkFree_keep (Below.block HBN2.out _ (get?_lt E2.out))).trans EB2.out
  clear hwn hb9 hb10 hb11 hb12 hb13 hw9 hw10 hw11 hw12 hw13
  go_wp2_with fail
  have v2 : get? GMsg (World.putCells wn2 ⟨q + 1, 0, none⟩ (GMsg.enc x)) ⟨q + 1, 0, none⟩ = some x := get?_putV _ d2
  refine bodyPost_ret (results_cell (x := x) rfl rfl ag73 sz73 v2) rfl ⟨?_, ?_⟩
  · simp only [GMsg.val_eq]
  · exact Chg.bel2 (HB.out.trans (Bel.trans HBP.out HBN2.out)) (chg_put (S := fun k => k = q + 1) rfl _) (fun k e => by rw [e, HQ.out]; omega)
end Go.Proofs.YthkifibmihijaaaGreatDoor
