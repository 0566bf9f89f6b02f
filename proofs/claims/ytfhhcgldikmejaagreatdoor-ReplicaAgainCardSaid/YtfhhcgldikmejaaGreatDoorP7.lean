/- What the frames of this seat's laws share: the listed variables, the world of the witness, the wrap that hands the world's shape on; no function of this seat starts a goroutine. Conditions: those named in each theorem. -/
import Derived.Test.YtfhhcgldikmejaaGreatDoorP6
import Derived.Test.YtfhhcgldikmejaaGreatDoorP4
import Derived.Test.YtfhhcgldikmejaaGreatDoorP5
import Derived.Test.YtfhhcgldikmejaaGreatDoorP1
import Derived.ProofKit
import Derived.DataShut
import Derived.OpenShut
import Derived.Test.YtfhhcgldikmejaaGreatDoorTie
import Derived.Handed
import Derived.Lay
import Derived.LaidMore
import Derived.Stop.Joined
import Derived.Stop.LaidErr
import Derived.Lib.LaidTab
import Derived.SevenTiedAt
/- A tick at which the round's timer is due. Conditions: those named in each theorem. -/
namespace Go.Proofs.YtfhhcgldikmejaaGreatDoor
open Go Go.RowKit Go.Gv Go.Proofs

theorem own_one {α : Type} [Enc α] {w : World} {base : Nat} {e : TypeId} {h : Hdr} {x : α} (ho : OwnS w base e h.val [x]) : ∃ g cap, h = ⟨some ⟨g, 0, none⟩, 1, cap⟩ := by
  obtain ⟨a, n, c⟩ := h
  rcases ho.2 with ⟨_, h0⟩ | ⟨g, cap, cur, he, _⟩
  · simp at h0
  · unfold Hdr.val at he
    injection he with e1 e2 e3
    exact ⟨g, cap, by rw [show a = _ from e1, show n = _ from e2, show c = _ from e3]; rfl⟩
theorem RepIs.keepAlloc {w0 w : World} {B : Nat → Nat} {x : RSt} (h : RepIs w0 w B x) (o : Obj) : RepIs w0 (w.alloc o) B { x with kept := fun k => if k = w.heap.size then some o else x.kept k } := by
  have h2 := h.step ((Bel.refl w).alloc o)
  obtain ⟨a, bm, ht, hp, h1, _, h3, _, h5⟩ := h.more
  have hl1 := h5.out.lt; have hl2 := h5.timers.lt; have hl3 := h5.proms.lt
  obtain ⟨i1, i2, i3, i4, i5, i6, i7, i8, i9, i10, i11, i12, _⟩ := h2
  have hc : Chg (fun _ => False) w (w.alloc o) := Chg.of_bel ((Bel.refl w).alloc o) _
  have hs := h5.chg hc (fun _ _ h => h) (fun _ _ h => h) (fun _ _ h => h) (fun _ _ h => h) (fun _ _ _ h => h)
  refine ⟨i1, i2, i3, i4, i5, i6, i7, i8, i9, i10, i11, a, bm, ht, hp, hc.get h1 id, hc.free (rep_other h).1 (get?_lt h1) id, hc.get h3 id, hc.free (ep_get h).1 (get?_lt h3) id, ?_⟩
  obtain ⟨g1, g2, g3, g4, g5, g6, g7, g8, g9, g10⟩ := hs
  refine ⟨g1, g2, g3, g4, g5, g6, g7, g8, g9, fun k o2 e => ?_⟩
  change (if k = w.heap.size then some o else x.kept k) = some o2 at e
  by_cases hk : k = w.heap.size
  · rw [if_pos hk] at e
    injection e with e
    subst hk e
    exact ⟨heap_alloc_new w _, fun j hj e => by have := h.lt j hj; omega, fun e => by have := (hl1 _ e).2; omega, fun e => by have := (hl2 _ e).2; omega, fun e => by have := (hl3 _ e).2; omega⟩
  · rw [if_neg hk] at e
    exact g10 k o2 e
theorem RepIs.drop {w0 w : World} {B : Nat → Nat} {x : RSt} (h : RepIs w0 w B x) (K : Nat → Option Obj) (hK : ∀ k o, K k = some o → x.kept k = some o) : RepIs w0 w B { x with kept := K } := by
  obtain ⟨i1, i2, i3, i4, i5, i6, i7, i8, i9, i10, i11, a, bm, ht, hp, h1, h2, h3, h4, h5⟩ := h
  obtain ⟨g1, g2, g3, g4, g5, g6, g7, g8, g9, g10⟩ := h5
  exact ⟨i1, i2, i3, i4, i5, i6, i7, i8, i9, i10, i11, a, bm, ht, hp, h1, h2, h3, h4, g1, g2, g3, g4, g5, g6, g7, g8, g9, fun k o e => g10 k o (hK k o e)⟩
theorem kept_cell {w0 w : World} {B : Nat → Nat} {x : RSt} (h : RepIs w0 w B x) {q : Nat} {v : Value} {t : TypeId} (hk : x.kept q = some (.cells #[v] t)) : w.cell? ⟨q, 0, none⟩ = some v := by
  obtain ⟨_, _, _, _, _, _, _, _, h5⟩ := h.more
  have := (h5.kp _ _ hk).1
  simp [World.cell?, this]
theorem timers_nil {w0 w : World} {B : Nat → Nat} {x : RSt} (h : RepIs w0 w B x) (ht : x.timers = []) : ∃ A c, w.cell? ⟨B 11, 3, none⟩ = some (.slice A 0 c) ∧ Sl GReplicaTimer w w.heap.size A 0 [] := by
  obtain ⟨a, bm, ht2, hp, g1, g2, g3, g4, g5⟩ := h.more
  obtain ⟨A, c, hpe, hsl, -⟩ := (g5.timers).shape
  rw [ht] at hpe hsl
  have k1 := GReplicaEpoch.at_timers g3
  simp only [Addr.add_lit, Nat.zero_add] at k1
  change w.cell? ⟨B 11, 3, none⟩ = some ht2.val at k1
  rw [hpe] at k1
  exact ⟨A, c, k1, hsl⟩
def lenAt (b : Nat) (w : World) : Nat := match w.cell? ⟨b, 3, none⟩ with
  | some (.slice _ n _) => n
  | _ => 0
theorem lenAt_of {b : Nat} {w : World} {A : Option Addr} {n c : Nat} (h : w.cell? ⟨b, 3, none⟩ = some (.slice A n c)) : lenAt b w = n := by unfold lenAt; rw [h]
/-- Behind its vote, the timer gone. -/
def dueSt (B : Nat → Nat) (x : RSt) (o : Obj) (f p : Nat) (ho : Hdr) : RSt := prevoted (voted B { ticked x with timers := [] } o) ⟨2, 0, -1, default⟩ f p ho
set_option maxRecDepth 100000 in
set_option maxHeartbeats 8000000 in
theorem tickD_any (w0 : World) (B : Nat → Nat) (x : RSt) (f : Nat) (due : Int) (w : World) (h : RepIs w0 w B x) (h0 : 0 ≤ x.now) (h1 : x.now ≤ 1000000) (ht : x.timers = [⟨due, ⟨1, 0⟩⟩]) (hd : due ≤ x.now + 1) (hm : (x.now + 1) % 10 = 0) (hx : Fresh1 B x) (ha : x.asks = false) (ho : x.out = []) (hi : x.id ≤ 1000000) (hB : x.book.length ≤ 1000000000) (hf : x.c.f = (f : Int)) (hf1 : f ≤ 21) :
    Calls Tryz.prog 22 #[.pointer (some ⟨B 0, 0, none⟩)] w fun e w' => e = .returned (.tuple #[]) ∧ ∃ o p ho, RepIs w0 w' B { dueSt B x o f p ho with out := toAll x.id (voteM (voteG x 0 default)) (3 * f + 1) ++ toAll x.id (voteM (voteG x 0 default)) (3 * f + 1) } := by
  have HH := Lib.hid h; have HT := Lib.hid ht; have HD := Lib.hid hd; have HM := Lib.hid hm; have HX := Lib.hid hx; have HAS := Lib.hid ha; have HO := Lib.hid ho; have HI := Lib.hid hi; have HBL := Lib.hid hB; have HF := Lib.hid hf; have HF1 := Lib.hid hf1
  have k0 := (rep_cells h).2.2.2.1
  clear h ht hd hm hx ha ho hi hB hf hf1
  go_enter Tryz.func22, Tryz.ntmps22
  go_wp2_with fail
  refine (tick1_any (B 3) (B 4) x.c x.id x.now x.floor x.last x.stamps w HH.out.st h0 (by omega)).mono ?_
  rintro _ w1 ⟨rfl, hst, hc⟩
  have h2 : RepIs w0 w1 B (ticked x) := HH.out.withStamp hst hc
  have H2 := Lib.hid h2
  clear hst hc k0
  have k0 := (rep_cells h2).2.2.2.1
  clear h2
  go_wp2_with fail
  refine (now_any (B 3) (B 4) x.c x.id (x.now + 1) x.floor x.last x.stamps w1 H2.out.st).mono ?_
  rintro _ w2 ⟨rfl, rfl⟩
  clear k0
  obtain ⟨n1, hn1⟩ : ∃ n1, x.now + 1 = n1 := ⟨_, rfl⟩
  have HN1 := Lib.hid hn1
  rw [hn1]
  clear hn1
  have H3 := Lib.hid (H2.out.keepAlloc (.cells #[.int .u64 n1] 22))
  have HQB := Lib.hid (show ¬ B 20 = w2.heap.size from fun e => by
    obtain ⟨_, _, _, _, _, _, _, _, h5⟩ := H2.out.more
    have := some_lt (h5.kp _ _ (show (ticked x).kept (B 20) = _ from HX.out.kept)).1
    omega)
  have HLT := Lib.hid (show ∀ k o, x.kept k = some o → k < w2.heap.size from fun k o e => by
    obtain ⟨_, _, _, _, _, _, _, _, h5⟩ := H2.out.more
    exact some_lt (h5.kp k o e).1)
  clear H2
  obtain ⟨X, hX⟩ : ∃ X : RSt, { ticked x with kept := fun k => if k = w2.heap.size then some (.cells #[.int .u64 n1] 22) else (ticked x).kept k } = X := ⟨_, rfl⟩
  have HXE := Lib.hid hX
  rw [hX] at H3
  have HKQ := Lib.hid (show X.kept w2.heap.size = some (.cells #[.int .u64 n1] 22) by rw [← hX]; show (if w2.heap.size = w2.heap.size then _ else _) = _; rw [if_pos rfl])
  have HFX := Lib.hid (show Fresh1 B { X with timers := [] } by
    have q := HX.out
    rw [← hX]
    exact ⟨q.far, by show (if B 20 = w2.heap.size then _ else _) = _; rw [if_neg HQB.out]; exact q.kept, q.s, q.b2, q.b3, q.H, q.A, q.L, q.pv, q.id_, q.f⟩)
  have HTX := Lib.hid (show X.timers = [⟨due, ⟨1, 0⟩⟩] by rw [← hX]; exact HT.out)
  clear hX
  go_wp2_with fail
  go_loopw [] (fun wr => wr = w2.alloc (.cells #[.int .u64 n1] 22) ∨ ∃ o p ho, Hid (RepIs w0 wr B (prevoted (voted B { X with timers := [] } o) ⟨2, 0, -1, default⟩ f p ho))) (fun wr => lenAt (B 11) wr)
  case atStart => exact .inl rfl
  case round =>
    rcases hrel with rfl | ⟨o, p, ho, hr⟩
    · generalize w2.alloc (.cells #[.int .u64 n1] 22) = wa at H3 ⊢
      have hc2 := kept_cell H3.out HKQ.out
      have k0 := (rep_cells H3.out).2.2.2.2.2.2.2.1
      obtain ⟨a, bm, ht, hp, g1, g2, g3, g4, g5⟩ := H3.out.more
      have g6 := g5.timers
      rw [HTX.out] at g6
      obtain ⟨g, cap, rfl⟩ := own_one g6
      have k1 := GReplicaEpoch.at_timers g3
      simp only [Addr.add_lit, Nat.zero_add] at k1
      change wa.cell? ⟨B 11, 3, none⟩ = some (.slice (some ⟨g, 0, none⟩) 1 cap) at k1
      change OwnS wa w0.heap.size 141 (.slice (some ⟨g, 0, none⟩) 1 cap) [(⟨due, ⟨1, 0⟩⟩ : GReplicaTimer)] at g6
      have hlen := lenAt_of k1
      obtain ⟨A, c, hpe, hsl, -, -, -⟩ := g6.shape
      injection hpe with u1 u2 u3
      subst u1
      clear u2 u3
      have HSL := Lib.hid hsl; have HLEN := Lib.hid hlen
      have HG1 := Lib.hid g1; have HG2 := Lib.hid g2; have HG3 := Lib.hid g3; have HG4 := Lib.hid g4; have HG5 := Lib.hid g5; have HG6 := Lib.hid g6
      have gt0 : get? GReplicaTimer wa ⟨g, 0, none⟩ = some ⟨due, ⟨1, 0⟩⟩ := by
        obtain ⟨ad, b, he, _, hb, hgb⟩ := hsl.at_ (k := 0) (by simp)
        injection he with he
        subst he
        simp only [List.getElem?_cons_zero, Option.some.injEq] at hb
        subst hb
        simpa only [Nat.zero_mul, Addr.add_lit, Nat.add_zero] using hgb
      have gt1 := GReplicaTimer.at_t gt0
      simp only [Addr.add_lit, Nat.zero_add] at gt1
      have GT1 := Lib.hid gt1
      clear g1 g2 g3 g4 g5 g6 hsl hlen gt0 gt1
      go_wp2_with fail
      refine (indexTimer1_any (some ⟨g, 0, none⟩) cap w2.heap.size ⟨due, ⟨1, 0⟩⟩ n1 wa HSL.out hc2 (by rw [← HN1.out]; exact HD.out)).mono ?_
      rintro _ wb ⟨rfl, hb⟩
      have gt1 := GB.get hb GT1.out
      have k0 := GB.cell hb k0
      have k1 := GB.cell hb k1
      have HBB := Lib.hid hb
      clear hb hc2
      go_upto_region 5 with fail
      have hb4 : Bel wa (wb.alloc (.cells (GTimer.enc ⟨1, 0⟩).toArray 139)) := HBB.out.trans ((Bel.refl wb).alloc _)
      have c4 : get? GTimer (wb.alloc (.cells (GTimer.enc ⟨1, 0⟩).toArray 139)) ⟨wb.heap.size, 0, none⟩ = some ⟨1, 0⟩ := get?_new _ _
      have l4 : wa.heap.size ≤ wb.heap.size := Below.size HBB.out
      obtain ⟨q4, hq4⟩ : ∃ q4, wb.heap.size = q4 := ⟨_, rfl⟩
      rw [hq4] at c4 l4 ⊢
      generalize wb.alloc (.cells (GTimer.enc ⟨1, 0⟩).toArray 139) = w4 at hb4 c4 ⊢
      have HB4 := Lib.hid hb4; have C4 := Lib.hid c4; have L4 := Lib.hid l4
      have HG := Lib.hid (show g < wa.heap.size ∧ ¬ B 11 = g ∧ w0.heap.size ≤ g from ⟨(HG6.out.lt g rfl).2, fun e => HG5.out.nt 11 (by omega) (by rw [e]; rfl), (HG6.out.lt g rfl).1⟩)
      clear hb4 c4 l4 hq4 k0 k1 gt1 HBB GT1
      refine wp_region_H GB (Chg (fun k => k = g)) [14, 17] [17] GB.rf (by kernel_rfl) ?_
      refine wpH_looks 4 18 [0, 1, 2, 3, 4, 5, 6, 7, 8, 9, 10, 11, 12, 13] rfl GB.rf GB.tr (Chg.refl _) (fun _ _ _ h k => h.tr k) (fun _ _ h => Chg.of_bel h _) (by kernel_rfl) (fun _ _ _ _ hd h => And.intro (hd ▸ And.left h) (And.right h)) rfl (by kernel_rfl) ?_
      intro ι W hne CW
      have CC : ∀ z, Chg (fun k => k = g) wa (W z) := fun z => (Chg.of_bel (HB4.out.trans ((Bel.refl w4).drew)) _).tr (CW.out z)
      have k0 : ∀ z, (W z).cell? ⟨B 0, 10, none⟩ = some (.pointer (some ⟨B 11, 0, none⟩)) := fun z => (CC z).cell (rep_cells H3.out).2.2.2.2.2.2.2.1 (fun e => HG5.out.nt 0 (by omega) (by change B 0 = g at e; rw [e]; rfl))
      have k1 : ∀ z, (W z).cell? ⟨B 11, 3, none⟩ = some (.slice (some ⟨g, 0, none⟩) 1 cap) := fun z => by
        have := GReplicaEpoch.at_timers ((CC z).get HG3.out HG.out.2.1)
        simp only [Addr.add_lit, Nat.zero_add] at this
        exact this
      have e1 : IntKind.i64.wrap 1 = 1 := IntWalk.i64_in _ (by omega)
      clear CC
      repeat (refine wpLooksG_step (fun K hK => ?_); go_simp; refine hK _ ?_; clear hK K)
      refine wpLooksG_nil ?_
      clear k0 k1 e1 CW hne W ι
      refine wpH_force 14 _ rfl (by kernel_rfl) rfl fun va hva K hK => ?_
      have hbva : Bel wa va := HB4.out.trans (GB.undrew hva)
      go_simp
      refine (delete1_any w0.heap.size g cap ⟨due, ⟨1, 0⟩⟩ va (OwnS.step HG6.out hbva)).mono ?_
      rintro _ vd ⟨rfl, hod, hcd⟩
      refine hK _ _ (fun h => absurd (by simp) h) (fun _ => hcd) ?_
      have HOD := Lib.hid hod
      have HCD := Lib.hid ((Chg.of_bel hbva (fun k => k = B 11 ∨ k = g)).tr (hcd.sub (fun k e => .inr e)))
      have EG := Lib.hid (hcd.get (GB.get hbva HG3.out) HG.out.2.1)
      have EF := Lib.hid (hcd.free (gbFr hbva (get?_lt HG3.out) HG4.out) (get?_lt (GB.get hbva HG3.out)) HG.out.2.1)
      have EC := Lib.hid (hcd.get (GB.get (show Bel w4 va from GB.undrew hva) C4.out) (show ¬ q4 = g by have := HG.out.1; have := L4.out; omega))
      clear hK K hva hbva hod hcd HB4 C4
      refine wpH_force 15 _ rfl (by kernel_rfl) rfl fun ve hve K hK => ?_
      go_simp
      refine hK _ _ (fun _ => GB.rf _) (fun _ => Chg.refl _ _) ?_
      clear hK K
      refine wpH_force 16 _ rfl (by kernel_rfl) rfl fun vf hvf K hK => ?_
      go_simp
      refine hK _ _ (fun _ => GB.rf _) (fun _ => Chg.refl _ _) ?_
      clear hK K
      refine wpH_force 17 _ rfl (by kernel_rfl) rfl fun vg hvg K hK => ?_
      have hbg : Bel vd vg := GB.tr _ _ _ (GB.tr _ _ _ hve hvf) hvg
      have eg := GB.get hbg EG.out
      have ef := gbFr hbg (get?_lt EG.out) EF.out
      have k1 := GReplicaEpoch.at_timers eg
      simp only [Addr.add_lit, Nat.zero_add] at k1
      have hfz := frozen_of_free (a := ⟨B 11, 3, none⟩) ef
      go_simp
      refine hK _ _ (fun h => absurd (by simp) h) (fun h => absurd (by simp) h) ?_
      clear hK K
      have hcw : Chg (fun k => k = B 11) vg (vg.setCell ⟨B 11, 3, none⟩ (.slice (some ⟨g, 0, none⟩) 0 cap)) := chg_cell (S := fun k => k = B 11) rfl _
      have hR : RepIs w0 (vg.setCell ⟨B 11, 3, none⟩ (.slice (some ⟨g, 0, none⟩) 0 cap)) B { X with timers := [] } :=
        H3.out.withTimers (ht' := ⟨some ⟨g, 0, none⟩, 0, cap⟩) HG1.out HG2.out HG5.out (((HCD.out.tr (Chg.of_bel hbg _)).tr (hcw.sub (fun k e => .inl e))).sub (fun k e => e.elim .inl (fun e => .inr (by rw [e]; rfl))))
          (get?_poke eg (ep_timers (epG B X bm ⟨some ⟨g, 0, none⟩, 1, cap⟩ hp) ⟨some ⟨g, 0, none⟩, 0, cap⟩)) (by rw [blkFree_setCell]; exact ef)
          ((OwnS.step HOD.out hbg).chg hcw (fun k e e2 => HG.out.2.1 (by injection e with e; rw [← e2, ← e]))) (.inr (.inl rfl))
      have EC2 := Lib.hid (hcw.get (GB.get hbg EC.out) (show ¬ q4 = B 11 from fun e => by have := H3.out.lt 11 (by omega); have := L4.out; omega))
      change wpH _ _ _ _ _ _ _ _ _ _ _ (vg.setCell ⟨B 11, 3, none⟩ (.slice (some ⟨g, 0, none⟩) 0 cap))
      generalize vg.setCell ⟨B 11, 3, none⟩ (.slice (some ⟨g, 0, none⟩) 0 cap) = vh at hR EC2 ⊢
      clear hbg hve hvf hvg eg ef k1 hfz hcw HOD HCD EG EF EC
      refine wpH_end (by kernel_rfl) (fun vi hvi => ?_) _
      have H5 := Lib.hid (hR.step (show Bel vh vi from hvi)); have C5 := Lib.hid (GB.get (show Bel vh vi from hvi) EC2.out)
      clear hR EC2 hvi HG HG1 HG2 HG3 HG4 HG5 HG6 H3 HSL
      go_upto_region 6 with fail
      refine wp_region_G GB [9, 10] GB.rf (by kernel_rfl) ?_
      refine wpG_looks 3 11 [1, 2, 3, 4, 5, 6, 7, 8] rfl GB.rf GB.tr (by kernel_rfl) (fun _ _ _ _ hd h => And.intro (hd ▸ And.left h) (And.right h)) rfl (by kernel_rfl) ?_
      intro ι W hne CW
      have HW := Lib.hid (fun z => H5.out.step (GB.undrew (CW.out z)))
      have k0 : ∀ z, (W z).cell? ⟨B 0, 10, none⟩ = some (.pointer (some ⟨B 11, 0, none⟩)) := fun z => (rep_cells (HW.out z)).2.2.2.2.2.2.2.1
      have k1 : ∀ z, (W z).cell? ⟨B 11, 0, none⟩ = some (.pointer (some ⟨B 12, 0, none⟩)) := fun z => (ep_cells (HW.out z)).1
      have k2 : ∀ z, get? GTimer (W z) ⟨q4, 0, none⟩ = some ⟨1, 0⟩ := fun z => GB.get (GB.undrew (CW.out z)) C5.out
      repeat (refine wpLooksG_step (fun K hK => ?_); go_simp; refine hK _ ?_; clear hK K)
      refine wpLooksG_nil ?_
      clear k0 k1 k2 HW CW hne W ι
      refine wpG_move 0 _ _ rfl rfl rfl GB.rf GB.tr (by kernel_rfl) (fun _ _ _ _ hd h => And.intro (hd ▸ And.left h) (And.right h)) (by kernel_rfl) ?_
      refine wpG_force 9 _ rfl (by kernel_rfl) rfl fun va hva K hK => ?_
      go_simp
      refine (repTimeout_any w0 B { X with timers := [] } va (H5.out.step (GB.undrew hva)) HFX.out).mono ?_
      rintro _ vb ⟨A2, o, rfl, hsl, hr⟩
      refine hK _ _ (fun h => absurd (by simp) h) ?_
      have HSL := Lib.hid hsl; have HR := Lib.hid hr
      clear hK K hva hsl hr
      refine wpG_force 10 _ rfl (by kernel_rfl) rfl fun vc hvc K hK => ?_
      have hbc : Bel vb vc := hvc
      go_simp
      refine (want2_any w0 B (voted B { X with timers := [] } o) ⟨2, 0, -1, default⟩ A2 f vc (HR.out.step hbc) (HSL.out.stepB hbc) rfl (by show X.out.length ≤ _; rw [← HXE.out]; show x.out.length ≤ _; rw [HO.out]; simp) (by show X.id ≤ _; rw [← HXE.out]; exact HI.out) (by show X.book.length ≤ _; rw [← HXE.out]; exact HBL.out) (by show (0 : Int) ≤ _; omega) (by show X.c.f = _; rw [← HXE.out]; exact HF.out) HF1.out).mono ?_
      rintro _ vd ⟨rfl, p, ho, hr⟩
      refine hK _ _ (fun h => absurd (by simp) h) ?_
      have HR2 := Lib.hid hr
      clear hK K hvc hbc hr HSL HR
      refine wpG_end (by kernel_rfl) (fun ve hve => ?_) _
      have HR3 := Lib.hid (HR2.out.step (show Bel vd ve from hve))
      clear hve HR2 H5 C5
      go_wp2_with fail
      go_roundw
      case rel => exact .inr ⟨o, p, ho, HR3⟩
      case measure =>
        obtain ⟨A, c, hk, -⟩ := timers_nil HR3.out rfl
        rw [lenAt_of hk, HLEN.out]
        decide
    · obtain ⟨Y, hY⟩ : ∃ Y : RSt, prevoted (voted B { X with timers := [] } o) ⟨2, 0, -1, default⟩ f p ho = Y := ⟨_, rfl⟩
      have HYE := Lib.hid hY
      rw [hY] at hr
      have hkq : Y.kept w2.heap.size = some (.cells #[.int .u64 n1] 22) := by
        rw [← hY]
        show (if w2.heap.size = B 20 then _ else X.kept w2.heap.size) = _
        rw [if_neg (fun e => HQB.out e.symm)]
        exact HKQ.out
      have HKY := Lib.hid hkq
      have hc2 := kept_cell hr.out hkq
      have k0 := (rep_cells hr.out).2.2.2.2.2.2.2.1
      obtain ⟨A, c, k1, hsl⟩ := timers_nil hr.out (by rw [← hY]; rfl)
      have HSL := Lib.hid hsl; have HC2 := Lib.hid hc2
      clear hY hkq hsl hc2 H3
      go_wp2_with fail
      refine (indexTimer0_any A 0 c w2.heap.size [] n1 wr HSL.out (Nat.zero_le _) HC2.out (fun t ht => nomatch ht)).mono ?_
      rintro _ wb ⟨rfl, hb⟩
      have H4 := Lib.hid (hr.out.step hb)
      have HC4 := Lib.hid (GB.cell hb HC2.out)
      clear hb k0 k1 HSL HC2
      go_wp2_with fail
      refine wp_region_G GB [] GB.rf (by kernel_rfl) ?_
      refine wpG_looks 2 20 [0, 1, 2, 3, 4, 5, 6, 7, 8, 11] rfl GB.rf GB.tr (by kernel_rfl) (fun _ _ _ _ hd h => And.intro (hd ▸ And.left h) (And.right h)) rfl (by kernel_rfl) ?_
      intro ι W hne CW
      have k0 : ∀ z, (W z).cell? ⟨B 0, 8, none⟩ = some (.pointer (some ⟨B 9, 0, none⟩)) := fun z => (rep_cells (H4.out.step (GB.undrew (CW.out z)))).2.2.2.2.2.2.1
      have k1 : ∀ z, (W z).cell? ⟨B 0, 3, none⟩ = some (.pointer (some ⟨B 1, 0, none⟩)) := fun z => (rep_cells (H4.out.step (GB.undrew (CW.out z)))).2.1
      have k2 : ∀ z, (W z).cell? ⟨w2.heap.size, 0, none⟩ = some (.int .u64 n1) := fun z => GB.cell (GB.undrew (CW.out z)) HC4.out
      repeat (refine wpLooksG_step (fun K hK => ?_); go_simp; refine hK _ ?_; clear hK K)
      refine wpLooksG_nil ?_
      clear k0 k1 k2 CW hne W ι
      refine wpG_force 9 _ rfl (by kernel_rfl) rfl fun wc hwc K hK => ?_
      go_simp
      refine (due0_any (B 9) (B 10) Y.c Y.id _ n1 wc (H4.out.step (GB.undrew hwc)).rev).mono ?_
      rintro _ wd ⟨rfl, hbd⟩
      refine hK _ _ (fun _ => hbd) ?_
      have HBD := Lib.hid (Bel.trans (GB.undrew hwc) hbd)
      clear hK K hbd hwc
      refine wpG_force 10 _ rfl (by kernel_rfl) rfl fun we hwe K hK => ?_
      go_simp
      refine hK _ _ (fun _ => GB.rf _) ?_
      clear hK K
      refine wpG_end (by kernel_rfl) (fun wn hwn => ?_) _
      have hbn := HBD.out.trans (GB.tr _ _ _ hwe hwn)
      have H5 := Lib.hid (H4.out.step hbn)
      have HC5 := GB.cell hbn HC4.out
      have hm0 : (n1.tmod 10 == 0) = true := by rw [beq_iff_eq, Int.tmod_eq_emod_of_nonneg (by have := HN1.out; omega), ← HN1.out]; exact HM.out
      clear hbn hwe hwn HBD
      go_wp2_with fail
      go_loopw [78] (fun iv wr => iv = .int .i64 0 ∧ wr = wn) (fun _ _ => 0)
      case atStart => exact ⟨rfl, rfl⟩
      case round =>
        obtain ⟨rfl, rfl⟩ := hrel
        go_wp2_with fail
        have hag := againVote_any w0 B Y f p (voteG x 0 default) _ H5.out (by rw [← HYE.out]; show X.asks = _; rw [← HXE.out]; exact HAS.out) (by rw [← HYE.out]; show some (p, voteG (voted B { X with timers := [] } o) 0 default) = _; rw [← HXE.out]; rfl) (by rw [← HYE.out]; show (0 : Int) = X.s.round; rw [show X.s = entered core0 0 from HFX.out.s]; rfl) (by rw [← HYE.out]; show (X.out ++ toAll _ _ _).length ≤ _; rw [← HXE.out]; show (x.out ++ _).length ≤ _; rw [HO.out]; have := HF1.out; simp only [List.nil_append]; exact Nat.le_trans (toAll_len _ _ _) (by omega)) (by rw [← HYE.out]; show X.c.f = _; rw [← HXE.out]; exact HF.out) HF1.out (by rw [← HYE.out]; show (0 : Int) ≤ X.s.round; rw [show X.s = entered core0 0 from HFX.out.s]; decide) (by rw [← HYE.out]; show X.s.round ≤ _; rw [show X.s = entered core0 0 from HFX.out.s]; decide)
        refine hag.mono ?_
        rintro _ w9 ⟨rfl, ho9, hr9⟩
        have HR9 := Lib.hid hr9
        clear hr9 hag
        go_wp2_with fail
        refine bodyPost_end (results_none rfl _ _ _) rfl ⟨rfl, o, p, ho9, ?_⟩
        have hfin := HR9.out.drop (fun k => if k = B 20 then some o else x.kept k) (fun k o2 e => by
          rw [← HYE.out]
          show (if k = B 20 then some o else X.kept k) = some o2
          by_cases hk : k = B 20
          · rw [if_pos hk] at e ⊢; exact e
          · rw [if_neg hk] at e ⊢
            rw [← HXE.out]
            show (if k = w2.heap.size then _ else x.kept k) = some o2
            by_cases hq : k = w2.heap.size
            · exfalso
              have := HLT.out k o2 e
              omega
            · rw [if_neg hq]; exact e)
        rw [← HYE.out, ← HXE.out] at hfin
        have ho0 := HO.out
        simpa [prevoted, voted, dueSt, ticked, voteG, keyV, ho0] using hfin
end Go.Proofs.YtfhhcgldikmejaaGreatDoor
/- A new core, with its count of votes. Conditions: those named in each theorem. -/
namespace Go.Proofs.YtfhhcgldikmejaaGreatDoor
open Go Go.RowKit Go.Gv Go.Proofs

theorem heapA {w : World} {k : Nat} {x : Obj} (o : Obj) (h : w.heap[k]? = some x) : (w.alloc o).heap[k]? = some x :=
  (Below.heap_alloc _ _ _ (Array.getElem?_eq_some_iff.1 h).1).trans h
set_option maxRecDepth 100000 in
set_option maxHeartbeats 1000000 in
theorem tallyNewC_any (c : GConf) (w : World) (hv : validB c = true) :
    Calls Tryz.prog 130 #[c.val] w fun e w' => ∃ g mh mc ma ml : Nat, e = .returned (.tuple #[.pointer (some ⟨g, 0, none⟩), .int .i64 0]) ∧ get? GTallyTally w' ⟨g, 0, none⟩ = some ⟨c, some mh, some mc, some ma, some ml⟩ ∧
      mapAt GTallyVoter Bool w' mh = some [] ∧ mapAt GTallyTurn Int w' ma = some [] ∧ mapAt Int Int w' ml = some [] ∧ w'.heap[mc]? = some (.map #[] 0) ∧ (mh < mc ∧ mc < ma ∧ ma < ml ∧ ml < g) ∧ w.heap.size ≤ g ∧ w.heap.size ≤ mh ∧ w.heap.size ≤ mc ∧ w.heap.size ≤ ma ∧ w.heap.size ≤ ml ∧ Bel w w' := by
  have hmm := @run_makeMap Tryz.prog
  have G := Lib.hid (get?_new (w := w) 24 c)
  have HB := Lib.hid ((Bel.refl w).alloc (.cells (GConf.enc c).toArray 24))
  go_enter Tryz.func130, Tryz.ntmps130
  go_wp2_with fail
  refine (valid_is true c _ hv).mono ?_
  rintro _ w1 ⟨rfl, hb1⟩
  have HB1 := Lib.hid (HB.out.trans hb1)
  have g1 := GB.get hb1 G.out
  have hz := (HB.out.trans hb1).size
  clear hb1
  go_wp2_with fail
  go_ret2
  have hB4 : Bel w1 ((((w1.alloc (.map #[] 0)).alloc (.map #[] 0)).alloc (.map #[] 0)).alloc (.map #[] 0)) := ((((Bel.refl w1).alloc _).alloc _).alloc _).alloc _
  refine ⟨w1.heap.size + 4, w1.heap.size, w1.heap.size + 1, w1.heap.size + 2, w1.heap.size + 3, rfl, ?_, ?_, ?_, ?_, ?_, by omega, by omega, by omega, by omega, by omega, by omega, (HB1.out.trans hB4).alloc _⟩
  · exact nw336 _ (w1.heap.size + 4) ⟨c, some w1.heap.size, some (w1.heap.size + 1), some (w1.heap.size + 2), some (w1.heap.size + 3)⟩ (by simp)
  · exact mapAt_alloc _ (mapAt_alloc _ (mapAt_alloc _ (mapAt_alloc _ (mapAt_new _ _ w1))))
  · have := mapAt_new GTallyTurn Int ((w1.alloc (.map #[] 0)).alloc (.map #[] 0))
    simp only [World.size_alloc] at this
    exact mapAt_alloc _ (mapAt_alloc _ this)
  · have := mapAt_new Int Int (((w1.alloc (.map #[] 0)).alloc (.map #[] 0)).alloc (.map #[] 0))
    rw [show (((w1.alloc (.map #[] 0)).alloc (.map #[] 0)).alloc (.map #[] 0)).heap.size = w1.heap.size + 3 by simp] at this
    exact mapAt_alloc _ this
  · have a0 := heap_alloc_new (w1.alloc (.map #[] 0)) (.map #[] 0)
    rw [show (w1.alloc (.map #[] 0)).heap.size = w1.heap.size + 1 by simp] at a0
    exact heapA _ (heapA _ (heapA _ a0))
set_option maxRecDepth 100000 in
set_option maxHeartbeats 2000000 in
theorem coreNewC_any (c : GConf) (ep id : Int) (w : World) (hv : validB c = true) (hi : inB c id = true) (h0 : 0 ≤ ep) (h1 : ep ≤ 1048576) :
    Calls Tryz.prog 78 #[c.val, .int .i64 ep, .int .i64 id] w fun e w' => ∃ g gt mh mc ma ml mq : Nat, e = .returned (.tuple #[.pointer (some ⟨g, 0, none⟩), .int .i64 0]) ∧
      CoreIs w' g gt mh mc ma ml mq c ep id ⟨0, 0, -1, -1, default, default, false, default⟩ false false false [] [] [] ∧ (∀ k, k = g ∨ k = gt ∨ k = mh ∨ k = mc ∨ k = ma ∨ k = ml ∨ k = mq → w.heap.size ≤ k) ∧ g ≠ gt ∧ w'.heap[mc]? = some (.map #[] 0) ∧ (mh < mc ∧ mc < ma ∧ ma < ml ∧ ml < gt ∧ gt < mq ∧ mq < g) ∧ Bel w w' := by
  have hmm := @run_makeMap Tryz.prog
  obtain ⟨v1, v2, v3, v4⟩ := validB_iff.1 hv
  have G := Lib.hid (get?_new (w := w) 24 c)
  have HB := Lib.hid ((Bel.refl w).alloc (.cells (GConf.enc c).toArray 24))
  have e1 : ¬ ep < 0 := by omega
  have e2 : ¬ (1048576 : Int) < ep := by omega
  go_enter Tryz.func78, Tryz.ntmps78
  go_wp2_with fail
  refine (valid_is true c _ hv).mono ?_
  rintro _ w1 ⟨rfl, hb1⟩
  have HB1 := Lib.hid (HB.out.trans hb1)
  have g1 := GB.get hb1 G.out
  clear hb1
  go_wp2_with fail
  refine (in_is true c id _ hi (by omega) (by omega)).mono ?_
  rintro _ w2 ⟨rfl, hb2⟩
  have HB2 := Lib.hid (HB1.out.trans hb2)
  have g2 := GB.get hb2 g1
  have G2 := Lib.hid g2
  clear hb2 g1
  go_wp2_with fail
  refine (tallyNewC_any c _ hv).mono ?_
  rintro _ w3 ⟨gt, mh, mc, ma, ml, rfl, ht, hh, ha, hl, hcn, hch, l1, l2, l3, l4, l5, hb3⟩
  have g3 := GB.get hb3 g2
  have HB3 := Lib.hid (HB2.out.trans hb3)
  have hz := HB2.out.size
  have hz3 := hb3.size
  have HT := Lib.hid ht; have HH := Lib.hid hh; have HA := Lib.hid ha; have HL := Lib.hid hl; have HCN := Lib.hid hcn; have HCH := Lib.hid hch
  have hgt := get?_lt ht
  clear hb3 g2 ht hh ha hl G2 hcn hch
  go_wp2_with fail
  go_ret2
  refine ⟨w3.heap.size + 1, gt, mh, mc, ma, ml, w3.heap.size, rfl, ⟨?_, ?_, ?_, ?_, ?_, ?_, ?_⟩, ?_, ?_, heapA _ (heapA _ HCN.out), ?_, (HB3.out.alloc _).alloc _⟩
  · exact nw201 (w3.alloc (.map #[] 0)) (w3.heap.size + 1) ⟨c, ep, id, ⟨0, 0, -1, -1, default, default, false, default⟩, some ⟨gt, 0, none⟩, some w3.heap.size, false, false, false⟩ (by simp)
  · exact blkFree_new _ _ (by simp)
  · exact get?_alloc _ (get?_alloc _ HT.out)
  · exact mapAt_alloc _ (mapAt_new _ _ w3)
  · exact mapAt_alloc _ (mapAt_alloc _ HH.out)
  · exact mapAt_alloc _ (mapAt_alloc _ HA.out)
  · exact mapAt_alloc _ (mapAt_alloc _ HL.out)
  · rintro k (rfl | rfl | rfl | rfl | rfl | rfl | rfl) <;> omega
  · have := hgt; omega
  · have := hgt; have := HCH.out; omega
end Go.Proofs.YtfhhcgldikmejaaGreatDoor
/- A replica's begin, with its count of votes. Conditions: those named in each theorem. -/
namespace Go.Proofs.YtfhhcgldikmejaaGreatDoor
open Go Go.RowKit Go.Gv Go.Proofs

theorem some_ltX {w : World} {k : Nat} {o : Obj} (h : w.heap[k]? = some o) : k < w.heap.size := (Array.getElem?_eq_some_iff.1 h).1
set_option maxRecDepth 100000 in
set_option maxHeartbeats 4000000 in
theorem beginC_any (g gl ml0 : Nat) (rp : GReplicaReplica) (w : World) (hg : get? GReplicaReplica w ⟨g, 0, none⟩ = some rp) (hf : blkFree w g = true) (hl : rp.l = some ⟨gl, 0, none⟩) (h : LedIs w gl ml0) (hv : validB rp.c = true) (hi : inB rp.c rp.id = true) :
    Calls Tryz.prog 41 #[.pointer (some ⟨g, 0, none⟩)] w fun e w' => e = .returned (.tuple #[]) ∧ ∃ gk gt mh mc ma ml mq mb mp ge : Nat, Begun w w' rp.c rp.id gk gt mh mc ma ml mq mb mp ge ∧ w'.heap[mc]? = some (.map #[] 0) ∧ (w.heap.size ≤ mc ∧ mc < mp) ∧ (mh < mc ∧ mc < ma ∧ ma < ml ∧ ml < gt ∧ gt < mq ∧ mq < gk ∧ gk < mp) ∧
      get? GReplicaReplica w' ⟨g, 0, none⟩ = some { rp with e := some ⟨ge, 0, none⟩ } ∧ blkFree w' g = true ∧ Chg (fun k => k = g) w w' := by
  have HG := Lib.hid hg; have HF := Lib.hid hf; have HL := Lib.hid h; have HV := Lib.hid hv; have HI := Lib.hid hi
  have f0 := GReplicaReplica.at_c hg
  have f1 := GReplicaReplica.at_id hg
  have f2 := GReplicaReplica.at_l hg
  simp only [Addr.add_lit, Nat.zero_add] at f0 f1 f2
  rw [hl] at f2
  clear hg hf h hv hi hl
  go_enter Tryz.func41, Tryz.ntmps41
  go_upto_region 0 with fail
  refine wp_region_G GB [] GB.rf (by kernel_rfl) ?_
  refine wpG_looks 6 20 [0, 1, 2, 3, 4, 5, 6, 7, 8, 9, 10, 11, 12, 13] rfl GB.rf GB.tr (by kernel_rfl) (fun _ _ _ _ hd h => And.intro (hd ▸ And.left h) (And.right h)) rfl (by kernel_rfl) ?_
  intro ι W hne CW
  have k0 : ∀ z, get? GConf (W z) ⟨g, 0, none⟩ = some rp.c := fun z => GB.get (GB.undrew (CW.out z)) f0
  have k1 : ∀ z, (W z).cell? ⟨g, 2, none⟩ = some (.int .i64 rp.id) := fun z => GB.cell (GB.undrew (CW.out z)) f1
  have k2 : ∀ z, (W z).cell? ⟨g, 7, none⟩ = some (.pointer (some ⟨gl, 0, none⟩)) := fun z => GB.cell (GB.undrew (CW.out z)) f2
  have HLW := Lib.hid (show ∀ z, LedIs (W z) gl ml0 from fun z => HL.out.step (GB.undrew (CW.out z)))
  iterate 8 (refine wpLooksG_step (fun K hK => ?_); go_simp; refine hK _ ?_; clear hK K)
  refine wpLooksG_step (fun K hK => ?_)
  go_simp
  refine ⟨_, fun z => quietG (epoch0_any gl ml0 (W z) (HLW.out z)) (fun _ _ h => h), hK _ ?_⟩
  clear hK K
  iterate 5 (refine wpLooksG_step (fun K hK => ?_); go_simp; refine hK _ ?_; clear hK K)
  refine wpLooksG_nil ?_
  clear k0 k1 k2 HLW CW hne W ι f0 f1 f2
  refine wpG_force 14 _ rfl (by kernel_rfl) rfl fun wa hwa K hK => ?_
  go_simp
  refine (coreNewC_any rp.c 0 rp.id wa HV.out HI.out (by omega) (by omega)).mono ?_
  rintro _ wb ⟨gk, gt, mh, mc, ma, ml, mq, rfl, hco, hnew, hgt, hcn, hchn, hbb⟩
  refine hK _ _ (fun _ => hbb) ?_
  have HCO := Lib.hid hco; have HBB := Lib.hid (Bel.trans (GB.undrew hwa) hbb)
  have HNEW := Lib.hid (show ∀ k, k = gk ∨ k = gt ∨ k = mh ∨ k = mc ∨ k = ma ∨ k = ml ∨ k = mq → w.heap.size ≤ k from fun k e => Nat.le_trans (Below.size (GB.undrew hwa)) (hnew k e))
  have HGT := Lib.hid hgt; have HCN0 := Lib.hid hcn; have HCH := Lib.hid hchn
  clear hK K hco hbb hnew hwa hgt hcn hchn
  refine wpG_looks 2 20 [15, 16, 17] rfl GB.rf GB.tr (by kernel_rfl) (fun _ _ _ _ hd h => And.intro (hd ▸ And.left h) (And.right h)) rfl (by kernel_rfl) ?_
  intro ι W hne CW
  iterate 3 (refine wpLooksG_step (fun K hK => ?_); go_simp; refine hK _ ?_; clear hK K)
  refine wpLooksG_nil ?_
  clear CW hne W ι
  refine wpG_force 18 _ rfl (by kernel_rfl) rfl fun wc hwc K hK => ?_
  go_simp
  refine hK _ _ (fun _ => GB.rf _) ?_
  clear hK K
  refine wpG_force 19 _ rfl (by kernel_rfl) rfl fun wd hwd K hK => ?_
  go_simp
  refine hK _ _ (fun _ => GB.rf _) ?_
  clear hK K
  refine wpG_end (by kernel_rfl) (fun wn hwn => ?_) _
  have hbn := GB.tr _ _ _ (GB.tr _ _ _ hwc hwd) hwn
  have HCN := Lib.hid (HCO.out.step hbn); have HBN := Lib.hid (Bel.trans HBB.out hbn)
  have HZ := Lib.hid (Below.size hbn)
  have HCNN := Lib.hid ((Below.block hbn _ (some_ltX HCN0.out)).trans HCN0.out)
  have hcz : ∀ k, k = gk ∨ k = gt ∨ k = mh ∨ k = ma ∨ k = ml ∨ k = mq → k < wn.heap.size := by
    rintro k (rfl | rfl | rfl | rfl | rfl | rfl)
    · exact get?_lt HCN.out.get
    · exact get?_lt HCN.out.tal
    · exact mapAt_lt HCN.out.have_
    · exact mapAt_lt HCN.out.all
    · exact mapAt_lt HCN.out.last
    · exact mapAt_lt HCN.out.props
  have HCZ := Lib.hid hcz
  clear hcz hbn hwc hwd hwn HCO HBB
  have hmm := @run_makeMap Tryz.prog
  have gn := GB.get HBN.out HG.out
  have fn := (blkFree_keep (Below.block HBN.out _ (get?_lt HG.out))).trans HF.out
  have gl : g < wn.heap.size := get?_lt gn
  have m1 := mapAt_new GReplicaVoter GVote (wn.alloc (.map #[] 0))
  have hb3 := (((Bel.refl wn).alloc (Obj.map #[] 0)).alloc (Obj.map #[] 0)).alloc (.cells (GReplicaEpoch.enc ⟨some ⟨gk, 0, none⟩, some wn.heap.size, some (wn.heap.size + 1), default, false, 0, 0, default, none, none, none⟩).toArray 134)
  have g3 := GB.get hb3 gn
  have b3 := (blkFree_keep (Below.block hb3 _ gl)).trans fn
  have e3 : get? GReplicaEpoch (((wn.alloc (Obj.map #[] 0)).alloc (Obj.map #[] 0)).alloc (.cells (GReplicaEpoch.enc ⟨some ⟨gk, 0, none⟩, some wn.heap.size, some (wn.heap.size + 1), default, false, 0, 0, default, none, none, none⟩).toArray 134)) ⟨wn.heap.size + 2, 0, none⟩ = some (ep0 gk wn.heap.size (wn.heap.size + 1)) := by
    have := get?_new (w := (wn.alloc (Obj.map #[] 0)).alloc (Obj.map #[] 0)) 134 (ep0 gk wn.heap.size (wn.heap.size + 1))
    simp only [World.size_alloc] at this
    exact this
  have be3 : blkFree (((wn.alloc (Obj.map #[] 0)).alloc (Obj.map #[] 0)).alloc (.cells (GReplicaEpoch.enc ⟨some ⟨gk, 0, none⟩, some wn.heap.size, some (wn.heap.size + 1), default, false, 0, 0, default, none, none, none⟩).toArray 134)) (wn.heap.size + 2) = true := blkFree_new _ _ (by simp)
  have p3 : mapAt GReplicaVoter GVote (((wn.alloc (Obj.map #[] 0)).alloc (Obj.map #[] 0)).alloc (.cells (GReplicaEpoch.enc ⟨some ⟨gk, 0, none⟩, some wn.heap.size, some (wn.heap.size + 1), default, false, 0, 0, default, none, none, none⟩).toArray 134)) (wn.heap.size + 1) = some [] := by
    have := mapAt_alloc (.cells (GReplicaEpoch.enc ⟨some ⟨gk, 0, none⟩, some wn.heap.size, some (wn.heap.size + 1), default, false, 0, 0, default, none, none, none⟩).toArray 134) m1
    rwa [World.size_alloc] at this
  have kc := GReplicaReplica.at_e g3
  simp only [Addr.add_lit, Nat.zero_add] at kc
  have hzz := frozen_of_free (a := ⟨g, 10, none⟩) b3
  have HB3 := Lib.hid hb3; have G3 := Lib.hid g3; have F3 := Lib.hid b3; have E3 := Lib.hid e3; have P3 := Lib.hid p3; have BE3 := Lib.hid be3; have GLT := Lib.hid gl
  clear gn fn m1 hb3 g3 b3 e3 p3 be3 gl
  go_wp2_with fail
  refine bodyPost_end (results_none rfl _ _ _) rfl ?_
  obtain ⟨z, hz⟩ : ∃ z, wn.heap.size = z := ⟨_, rfl⟩
  have hc4 : Chg (fun k => k = g) (((wn.alloc (Obj.map #[] 0)).alloc (Obj.map #[] 0)).alloc (.cells (GReplicaEpoch.enc ⟨some ⟨gk, 0, none⟩, some wn.heap.size, some (wn.heap.size + 1), default, false, 0, 0, default, none, none, none⟩).toArray 134)) ((((wn.alloc (Obj.map #[] 0)).alloc (Obj.map #[] 0)).alloc (.cells (GReplicaEpoch.enc ⟨some ⟨gk, 0, none⟩, some wn.heap.size, some (wn.heap.size + 1), default, false, 0, 0, default, none, none, none⟩).toArray 134)).setCell ⟨g, 10, none⟩ (.pointer (some ⟨wn.heap.size + 2, 0, none⟩))) := chg_cell (S := fun k => k = g) rfl _
  have hcall : Chg (fun k => k = g) wn _ := (Chg.of_bel HB3.out _).tr hc4
  refine ⟨rfl, gk, gt, mh, mc, ma, ml, mq, wn.heap.size, wn.heap.size + 1, wn.heap.size + 2, ⟨?_, ?_, ?_, ?_, fun k hk => ⟨HNEW.out k (by rcases hk with h | h | h | h | h | h <;> simp [h]), Nat.lt_succ_of_lt (HCZ.out k hk)⟩, HGT.out, by omega⟩, ?_, ⟨HNEW.out mc (by simp), by have := some_ltX HCNN.out; omega⟩, ?_, ?_, ?_, ?_⟩
  · have key : ∀ k, (k = gk ∨ k = gt ∨ k = mh ∨ k = mc ∨ k = ma ∨ k = ml ∨ k = mq) → ¬ k = g := fun k hk e => by
      have h1 := HNEW.out k hk
      have h2 := get?_lt HG.out
      simp only at h2
      omega
    exact HCN.out.chg hcall (key gk (by simp)) (key gt (by simp)) (key mq (by simp)) (key mh (by simp)) (key ma (by simp)) (key ml (by simp))
  · exact hc4.map P3.out (fun e => by have := GLT.out; omega)
  · exact hc4.get E3.out (fun e => by have := GLT.out; simp only at e; omega)
  · exact hc4.free BE3.out (get?_lt E3.out) (fun e => by have := GLT.out; omega)
  · exact (hcall.block mc (some_ltX HCNN.out) (fun e => by
      have h1 := HNEW.out mc (by simp)
      have h2 := get?_lt HG.out
      simp only at h2
      omega)).trans HCNN.out
  · have := HCH.out; have := HCZ.out gk (by simp); omega
  · exact get?_poke G3.out (rep_e rp (some ⟨wn.heap.size + 2, 0, none⟩))
  · rw [blkFree_setCell]; exact F3.out
  · exact (Chg.of_bel HBN.out _).tr hcall
end Go.Proofs.YtfhhcgldikmejaaGreatDoor
/- A new replica, with its count of votes. Conditions: those named in each theorem. -/
namespace Go.Proofs.YtfhhcgldikmejaaGreatDoor
open Go Go.RowKit Go.Gv Go.Proofs

set_option maxRecDepth 100000 in
set_option maxHeartbeats 4000000 in
theorem repNewC_any (c : GConf) (i : Int) (b : Option Addr) (w : World) (h : mayR c i = true) : Calls Tryz.prog 20 #[c.val, .int .i64 i, .pointer b] w fun e w' =>
    ∃ (g gs ms gt mt gl ml gv mv gk gtt mh mc ma mla mq mb mp ge : Nat) (a : Option Addr), e = .returned (.tuple #[.pointer (some ⟨g, 0, none⟩), .int .i64 0]) ∧ Made w w' c i g gs ms gt mt gl ml gv mv gk gtt mh mc ma mla mq mb mp ge b a ∧ w'.heap[mc]? = some (.map #[] 0) ∧ (g < mc ∧ mc < mp) ∧ (mh < mc ∧ mc < ma ∧ ma < mla ∧ mla < gtt ∧ gtt < mq ∧ mq < gk ∧ gk < mp) := by
  have G := Lib.hid (get?_new (w := w) 24 c)
  have HB := Lib.hid ((Bel.refl w).alloc (.cells (GConf.enc c).toArray 24))
  have HM := Lib.hid h
  clear h
  go_enter Tryz.func20, Tryz.ntmps20
  go_wp2_with fail
  refine (stampNew_any c i _ HM.out).mono ?_
  rintro _ w1 ⟨gs, ms, rfl, hs, hs1, hs2, hb1⟩
  have HS := Lib.hid hs; have HB1 := Lib.hid (HB.out.trans hb1)
  have HZ1 := Lib.hid (And.intro (Nat.le_trans (Below.size HB.out) hs1) (Nat.le_trans (Below.size HB.out) hs2))
  have g1 := GB.get hb1 G.out
  clear hs hb1 hs1 hs2
  go_wp2_with fail
  refine (lockNew_any c i w1 HM.out).mono ?_
  rintro _ w2 ⟨gt, mt, rfl, ht, ht1, ht2, hb2⟩
  have HT := Lib.hid ht; have HB2 := Lib.hid hb2; have HZ2 := Lib.hid (And.intro ht1 ht2)
  have g2 := GB.get hb2 g1
  clear ht hb2 ht1 ht2 g1
  go_wp2_with fail
  refine (revNew_any c i w2 HM.out).mono ?_
  rintro _ w3 ⟨gv, mv, rfl, hv, hv1, hv2, hb3⟩
  have HV := Lib.hid hv; have HB3 := Lib.hid hb3; have HZ3 := Lib.hid (And.intro hv1 hv2)
  have g3 := GB.get hb3 g2
  have G3 := Lib.hid g3
  clear hv hb3 hv1 hv2 g2 g3
  go_upto_region 6 with fail
  have HC := Lib.hid (show validB c = true ∧ inB c i = true from by
    obtain ⟨⟨v1, v2, v3, v4⟩, v5, v6⟩ := mayR_iff.1 HM.out
    exact ⟨validB_iff.2 ⟨v1, v2, v3, v4⟩, by unfold inB; simp [v5, v6]⟩)
  refine wp_region_G GB [] GB.rf (by kernel_rfl) ?_
  refine wpG_looks 5 11 [0, 1, 2, 3, 4, 6] rfl GB.rf GB.tr (by kernel_rfl) (fun _ _ _ _ hd h => And.intro (hd ▸ And.left h) (And.right h)) rfl (by kernel_rfl) ?_
  intro ι W hne CW
  have k0 : ∀ z, get? GConf (W z) ⟨w.heap.size, 0, none⟩ = some c := fun z => GB.get (GB.undrew (CW.out z)) G3.out
  repeat (refine wpLooksG_step (fun K hK => ?_); go_simp; refine hK _ ?_; clear hK K)
  refine wpLooksG_nil ?_
  clear k0 CW hne W ι
  refine wpG_force 5 _ rfl (by kernel_rfl) rfl fun wa hwa K hK => ?_
  go_simp
  refine (ledNew_any wa).mono ?_
  rintro _ w4 ⟨gl, ml, rfl, hl, hl1, hl2, hb4⟩
  refine hK _ _ (fun _ => hb4) ?_
  have HL := Lib.hid hl; have HB4 := Lib.hid (Bel.trans (GB.undrew hwa) hb4)
  have HZ4 := Lib.hid (And.intro (Nat.le_trans (Below.size (GB.undrew hwa)) hl1) (Nat.le_trans (Below.size (GB.undrew hwa)) hl2))
  clear hK K hl hb4 hl1 hl2 hwa
  refine wpG_force 7 _ rfl (by kernel_rfl) rfl fun wb hwb K hK => ?_
  go_simp
  refine (appNew_any wb).mono ?_
  rintro _ w5 ⟨ga, rfl, hb5⟩
  refine hK _ _ (fun _ => hb5) ?_
  have HB5 := Lib.hid (Bel.trans hwb hb5)
  clear hK K hb5 hwb
  refine wpG_force 8 _ rfl (by kernel_rfl) rfl fun wc hwc K hK => ?_
  go_simp
  refine hK _ _ (fun _ => GB.rf _) ?_
  clear hK K
  refine wpG_force 9 _ rfl (by kernel_rfl) rfl fun wd hwd K hK => ?_
  go_simp
  refine hK _ _ (fun _ => GB.al _ _) ?_
  clear hK K
  have HB6 := Lib.hid (Bel.trans HB5.out (Bel.trans hwc hwd))
  clear hwc hwd HB5
  have gr := get?_new (w := wd) 104 (⟨c, i, b, false, some ⟨gs, 0, none⟩, some ⟨gt, 0, none⟩, some ⟨gl, 0, none⟩, some ⟨gv, 0, none⟩, some ⟨ga, 0, none⟩, none, default, default, default⟩ : GReplicaReplica)
  have br : blkFree (wd.alloc (.cells (GReplicaReplica.enc ⟨c, i, b, false, some ⟨gs, 0, none⟩, some ⟨gt, 0, none⟩, some ⟨gl, 0, none⟩, some ⟨gv, 0, none⟩, some ⟨ga, 0, none⟩, none, default, default, default⟩).toArray 104)) wd.heap.size = true := blkFree_new _ _ rfl
  have hbw := (Bel.refl wd).alloc (.cells (GReplicaReplica.enc ⟨c, i, b, false, some ⟨gs, 0, none⟩, some ⟨gt, 0, none⟩, some ⟨gl, 0, none⟩, some ⟨gv, 0, none⟩, some ⟨ga, 0, none⟩, none, default, default, default⟩).toArray 104)
  change wpG _ _ _ _ _ _ _ _ _ (wd.alloc (.cells (GReplicaReplica.enc ⟨c, i, b, false, some ⟨gs, 0, none⟩, some ⟨gt, 0, none⟩, some ⟨gl, 0, none⟩, some ⟨gv, 0, none⟩, some ⟨ga, 0, none⟩, none, default, default, default⟩).toArray 104))
  obtain ⟨g, hgq⟩ : ∃ g, wd.heap.size = g := ⟨_, rfl⟩
  have HGQ := Lib.hid hgq
  rw [hgq] at gr br ⊢
  change get? GReplicaReplica (wd.alloc (.cells (GReplicaReplica.enc ⟨c, i, b, false, some ⟨gs, 0, none⟩, some ⟨gt, 0, none⟩, some ⟨gl, 0, none⟩, some ⟨gv, 0, none⟩, some ⟨ga, 0, none⟩, none, default, default, default⟩).toArray 104)) _ = _ at gr
  generalize wd.alloc (.cells (GReplicaReplica.enc ⟨c, i, b, false, some ⟨gs, 0, none⟩, some ⟨gt, 0, none⟩, some ⟨gl, 0, none⟩, some ⟨gv, 0, none⟩, some ⟨ga, 0, none⟩, none, default, default, default⟩).toArray 104) = we at gr br hbw ⊢
  have GR := Lib.hid gr; have BR := Lib.hid br; have HBW := Lib.hid hbw
  clear gr br hbw hgq
  refine wpG_force 10 _ rfl (by kernel_rfl) rfl fun wf hwf K hK => ?_
  go_simp
  refine hK _ _ (fun _ => GB.rf _) ?_
  clear hK K
  refine wpG_end (by kernel_rfl) (fun wn hwn => ?_) _
  have hbn : Bel we wn := Bel.trans hwf hwn
  have GN := Lib.hid (GB.get hbn GR.out); have BN := Lib.hid ((blkFree_keep (Below.block hbn _ (get?_lt GR.out))).trans BR.out)
  have H45 := Lib.hid (Bel.trans HB6.out (Bel.trans HBW.out hbn))
  have H35 := Lib.hid (Bel.trans HB4.out H45.out)
  have H25 := Lib.hid (Bel.trans HB3.out H35.out)
  have H15 := Lib.hid (Bel.trans HB2.out H25.out)
  have H05 := Lib.hid (Bel.trans HB1.out H15.out)
  clear hwf hwn hbn
  go_wp2_with fail
  refine (beginC_any g gl ml ⟨c, i, b, false, some ⟨gs, 0, none⟩, some ⟨gt, 0, none⟩, some ⟨gl, 0, none⟩, some ⟨gv, 0, none⟩, some ⟨ga, 0, none⟩, none, default, default, default⟩ wn GN.out BN.out rfl (HL.out.step H45.out) HC.out.1 HC.out.2).mono ?_
  rintro _ wq ⟨rfl, gk, gtt, mh, mc, ma, mla, mq, mb, mp, ge, hbg, hcn, hcl, hcc, hgg, hff, hch⟩
  have HBG := Lib.hid hbg; have HCN := Lib.hid hcn; have HCL := Lib.hid hcl; have HCC := Lib.hid hcc; have HGG := Lib.hid hgg; have HFF := Lib.hid hff; have HCH := Lib.hid hch
  clear hbg hgg hff hch hcn hcl hcc
  go_wp2_with fail
  go_ret2
  have z1 := get?_lt HS.out.get; have z2 := mapAt_lt HS.out.map
  have z3 := get?_lt HT.out.get; have z4 := mapAt_lt HT.out.map
  have z5 := get?_lt HV.out.get; have z6 := mapAt_lt HV.out.map
  have z7 := get?_lt HL.out.get; have z8 := mapAt_lt HL.out.map
  have y1 := HZ1.out; have y2 := HZ2.out; have y3 := HZ3.out; have y4 := HZ4.out
  have s1 := Below.size HB1.out; have s2 := Below.size HB2.out; have s3 := Below.size HB3.out; have s4 := Below.size HB4.out; have s5 := Below.size HB6.out; have s6 := HGQ.out
  have s7 := get?_lt GN.out
  simp only at z1 z3 z5 z7 s7
  refine ⟨g, gs, ms, gt, mt, gl, ml, gv, mv, gk, gtt, mh, mc, ma, mla, mq, mb, mp, ge, some ⟨ga, 0, none⟩, rfl, ?_, HCN.out, ⟨by have := HCL.out; omega, HCL.out.2⟩, HCC.out⟩
  have n : ∀ k, k < g → ¬ k = g := fun k h e => by omega
  exact ⟨HGG.out, HFF.out, (HS.out.step H15.out).chg HCH.out (n _ (by omega)) (n _ (by omega)), (HT.out.step H25.out).chg HCH.out (n _ (by omega)) (n _ (by omega)), (HL.out.step H45.out).chg HCH.out (n _ (by omega)) (n _ (by omega)), (HV.out.step H35.out).chg HCH.out (n _ (by omega)) (n _ (by omega)),
    HBG.out.core, HBG.out.pre, HBG.out.ep, HBG.out.free, by omega, by omega, fun k hk => ⟨by have := (HBG.out.low k hk).1; omega, (HBG.out.low k hk).2⟩, ⟨HBG.out.last, HBG.out.ne⟩, HCH.out.bel2 H05.out (fun k e => by subst e; omega)⟩
end Go.Proofs.YtfhhcgldikmejaaGreatDoor
/- Ticks at which nothing is due. Conditions: those named in each theorem. -/
namespace Go.Proofs.YtfhhcgldikmejaaGreatDoor
open Go Go.RowKit Go.Gv Go.Proofs

def tickedN (x : RSt) (n : Nat) : RSt := { x with now := x.now + n }
end Go.Proofs.YtfhhcgldikmejaaGreatDoor
/- What a message's kind names, of it alone: commitments, askings for promises. Conditions: those named in each theorem. -/
namespace Go.Proofs.YtfhhcgldikmejaaGreatDoor
open Go Go.RowKit Go.Gv Go.Proofs

def bareM (m : GMsg) : GMsg := { (default : GMsg) with kind := m.kind, from_ := m.from_, «to» := m.to }
def onlyCommit (m : GMsg) : GMsg := { bareM m with commit := m.commit }
def onlyClose (m : GMsg) : GMsg := { bareM m with epoch := m.epoch, round := m.round, time := m.time }
end Go.Proofs.YtfhhcgldikmejaaGreatDoor
/- Another replica; what an asking for a promise names. Conditions: those named in each theorem. -/
namespace Go.Proofs.YtfhhcgldikmejaaGreatDoor
open Go Go.RowKit Go.Gv Go.Proofs

def otherB (x : RSt) (i : Int) : Bool := inB x.c i && !(i == x.id)
end Go.Proofs.YtfhhcgldikmejaaGreatDoor
/- Which epoch a message is of; it is not late while nothing was decided. Conditions: those named in each theorem. -/
namespace Go.Proofs.YtfhhcgldikmejaaGreatDoor
open Go Go.RowKit Go.Gv Go.Proofs

end Go.Proofs.YtfhhcgldikmejaaGreatDoor
/- A promise for no time is none. Conditions: those named in each theorem. -/
namespace Go.Proofs.YtfhhcgldikmejaaGreatDoor
open Go Go.RowKit Go.Gv Go.Proofs

end Go.Proofs.YtfhhcgldikmejaaGreatDoor
/- A promise is asked for. Conditions: those named in each theorem. -/
namespace Go.Proofs.YtfhhcgldikmejaaGreatDoor
open Go Go.RowKit Go.Gv Go.Proofs

def promMsg (p : GPromise) : GMsg := { (default : GMsg) with kind := 6, promise := p }
/-- The conditions at which an asking is looked at more closely. -/
structure AskIs (x : RSt) (m : GMsg) (f r : Nat) (n : Nat) : Prop where
  oth : otherB x m.from_ = true
  ep : m.epoch = 0
  round : m.round = (r : Int)
  rle : r ≤ 1000
  cf : x.c.f = (f : Int)
  f0 : 1 ≤ f
  f1 : f ≤ 21
  now : x.now = (n : Int)
  n0 : 1 ≤ n
  n1 : n ≤ 1000000
end Go.Proofs.YtfhhcgldikmejaaGreatDoor
/- A promise is asked for, and given. Conditions: those named in each theorem. -/
namespace Go.Proofs.YtfhhcgldikmejaaGreatDoor
open Go Go.RowKit Go.Gv Go.Proofs

end Go.Proofs.YtfhhcgldikmejaaGreatDoor
/- An asking for a promise by one whose round it is not. Conditions: those named in each theorem. -/
namespace Go.Proofs.YtfhhcgldikmejaaGreatDoor
open Go Go.RowKit Go.Gv Go.Proofs

end Go.Proofs.YtfhhcgldikmejaaGreatDoor
/- A message is taken: what is common to all kinds. Conditions: those named in each theorem. -/
namespace Go.Proofs.YtfhhcgldikmejaaGreatDoor
open Go Go.RowKit Go.Gv Go.Proofs

end Go.Proofs.YtfhhcgldikmejaaGreatDoor
/- Constant bytes: the literal, its mark; a writer beside changes of other blocks. Conditions: those named in each theorem. -/
namespace Go.Proofs.YtfhhcgldikmejaaGreatDoor
open Go Go.RowKit Go.Gv Go.Proofs

end Go.Proofs.YtfhhcgldikmejaaGreatDoor
/- What a client signs of a commitment, as bytes. Conditions: those named in each theorem. -/
namespace Go.Proofs.YtfhhcgldikmejaaGreatDoor
open Go Go.RowKit Go.Gv Go.Proofs

def requestW : List U8 := [⟨114⟩, ⟨101⟩, ⟨113⟩, ⟨117⟩, ⟨101⟩, ⟨115⟩, ⟨116⟩]
def commitText (x : GCommit) : List U8 := rowL requestW ++ intL x.name.client ++ intL x.name.seq ++ hashL x.hash ++ intL x.len
end Go.Proofs.YtfhhcgldikmejaaGreatDoor
/- A guarded operation alone is ready: the rule of Rg3 for one whose guard holds. Conditions: those named in each theorem. -/
namespace Go.Gv
open Go Go.RowKit
variable {P : Program} {md : Region.Mode} {Q : Exit → Act → World → Prop} {G : World → World → Prop} {T : List Nat}
end Go.Gv
/- Right commitments. Conditions: those named in each theorem. -/
namespace Go.Proofs.YtfhhcgldikmejaaGreatDoor
open Go Go.RowKit Go.Gv Go.Proofs

structure OkCommit (c : GConf) (x : GCommit) : Prop where
  c0 : 0 ≤ x.name.client
  c1 : x.name.client < c.clients
  c2 : x.name.client ≤ 1000000
  s0 : 1 ≤ x.name.seq
  s1 : x.name.seq ≤ 1048576
  l0 : 0 ≤ x.len
  l1 : x.len ≤ 256
end Go.Proofs.YtfhhcgldikmejaaGreatDoor
/- A stamp that is refused, or was given. Conditions: those named in each theorem. -/
namespace Go.Proofs.YtfhhcgldikmejaaGreatDoor
open Go Go.RowKit Go.Gv Go.Proofs

end Go.Proofs.YtfhhcgldikmejaaGreatDoor
/- A new stamp. Conditions: those named in each theorem. -/
namespace Go.Proofs.YtfhhcgldikmejaaGreatDoor
open Go Go.RowKit Go.Gv Go.Proofs

/-- What may come between two operations while a field and a map are written: the field that holds the map stays. -/
def KeepMap (gs ms : Nat) (w w' : World) : Prop := Chg (fun k => k = gs ∨ k = ms) w w' ∧ (gs < w.heap.size → w'.cell? ⟨gs, 6, none⟩ = w.cell? ⟨gs, 6, none⟩)
def stampY (i : Int) (x : GCommit) (tm : Nat) (mk : Int) : GStamp := ⟨i, x.name, x.hash, tm, ⟨i, mk⟩⟩
def bareS (i : Int) (x : GCommit) (tm : Nat) : GStamp := ⟨i, x.name, x.hash, tm, default⟩
def keyS (i : Int) (x : GCommit) (tm : Nat) : GBookSigned := ⟨i, strB (stampText tm (bareS i x tm))⟩
end Go.Proofs.YtfhhcgldikmejaaGreatDoor
/- A commitment is taken. Conditions: those named in each theorem. -/
namespace Go.Proofs.YtfhhcgldikmejaaGreatDoor
open Go Go.RowKit Go.Gv Go.Proofs

def stampMsg (y : GStamp) : GMsg := { (default : GMsg) with kind := 2, stamp := y }
end Go.Proofs.YtfhhcgldikmejaaGreatDoor
/- A commitment is stamped. Conditions: those named in each theorem. -/
namespace Go.Proofs.YtfhhcgldikmejaaGreatDoor
open Go Go.RowKit Go.Gv Go.Proofs

/-- A replica that has given one stamp more. -/
def gave (x : RSt) (cm : GCommit) (tm : Nat) : RSt := { x with book := signB x.book (keyS x.id cm tm), last := tm, stamps := x.stamps ++ [(cm.name, stampY x.id cm tm (markOf x.book (keyS x.id cm tm)))] }
end Go.Proofs.YtfhhcgldikmejaaGreatDoor
/- A replica that is not the first one's proposer starts. Conditions: those named in each theorem. -/
namespace Go.Proofs.YtfhhcgldikmejaaGreatDoor
open Go Go.RowKit Go.Gv Go.Proofs

/-- As it stands behind Start. -/
def waiting (x : RSt) : RSt := { timed { x with started := true, s := entered core0 0, b1 := false, b2 := false, b3 := false } 1 with ho := nilH, out := [] }
set_option maxRecDepth 100000 in
set_option maxHeartbeats 4000000 in
theorem repStartO_any (w0 : World) (B : Nat → Nat) (x : RSt) (f : Nat) (w : World) (h : RepIs w0 w B x) (hs : x.s = core0) (hA : x.A = []) (hLq : x.L = []) (hn : x.now = 0) (ho : x.out = []) (ht : x.timers = []) (hi : x.id ≤ 1000000) (hB : x.book.length ≤ 1000000000) (hf : x.c.f = (f : Int)) (hf0 : 1 ≤ f) (hf1 : f ≤ 21) (hid : ¬ (0 : Int) = x.id) :
    Calls Tryz.prog 21 #[.pointer (some ⟨B 0, 0, none⟩)] w fun e w' => ∃ (l : Hdr), e = .returned (.slice l.a l.len l.cap) ∧ RepIs w0 w' B (waiting x) := by
  obtain ⟨hfr, a, hg⟩ := rep_other h
  have hfz := frozen_of_free (a := ⟨B 0, 4, none⟩) hfr
  have kst := (rep_cells h).2.2.1
  have hc : Chg (fun k => k = B 0) w (w.setCell ⟨B 0, 4, none⟩ (.bool true)) := chg_cell (S := fun k => k = B 0) rfl _
  have h1 := h.withStarted true hc (fun a ha => get?_poke ha (rep_started (repG B x a) true)) (by rw [blkFree_setCell]; exact hfr)
  clear hg hc h
  go_enter Tryz.func21, Tryz.ntmps21
  go_upto_region 2 with fail
  obtain ⟨x1, hx1⟩ : ∃ x1 : RSt, { x with started := true } = x1 := ⟨_, rfl⟩
  have hs : x1.s = core0 := by rw [← hx1]; exact hs
  have hA : x1.A = [] := by rw [← hx1]; exact hA
  have hLq : x1.L = [] := by rw [← hx1]; exact hLq
  have hn : x1.now = 0 := by rw [← hx1]; exact hn
  have ho : x1.out = [] := by rw [← hx1]; exact ho
  have ht : x1.timers = [] := by rw [← hx1]; exact ht
  have hi2 : x1.id ≤ 1000000 := by rw [← hx1]; exact hi
  have hB : x1.book.length ≤ 1000000000 := by rw [← hx1]; exact hB
  have hf : x1.c.f = (f : Int) := by rw [← hx1]; exact hf
  have hcc : x1.c = x.c := by rw [← hx1]
  have hii : x1.id = x.id := by rw [← hx1]
  rw [hx1] at h1
  generalize w.setCell ⟨B 0, 4, none⟩ (.bool true) = wa at h1 ⊢
  have H1 := Lib.hid h1
  have k0 := (rep_cells h1).2.2.2.2.2.2.2.1
  have k1 := (ep_cells h1).1
  have hcore : Calls Tryz.prog 43 #[.pointer (some ⟨B 12, 0, none⟩)] wa fun e w' => ∃ A2 : Option Addr, e = .returned (.slice A2 1 1) ∧ Sl GCoreAct w' w'.heap.size A2 1 [enterAct core0 x1.id 0 0] ∧ RepIs w0 w' B { x1 with s := entered core0 0, b1 := false, b2 := false, b3 := false } := by
    have hh := startC_any (B 12) (B 13) (B 14) (B 20) (B 16) (B 17) (B 18) x1.c 0 x1.id x1.s x1.b1 x1.b2 x1.b3 x1.H x1.A x1.L wa h1.core f 0 hf hf0 hf1 rfl (by omega) (h1.apart 12 13 (by omega) (by omega) (by omega) (by omega)) (by rw [hs]; rfl) (by rw [hs]; rfl) (by rw [hLq]; intro p hp; cases hp) (by rw [hA, hf]; simp [allOf, mget_nil]; omega)
    refine hh.mono ?_
    rintro e w' ⟨A2, rfl, hsl, hco, hch⟩
    refine ⟨A2, rfl, ?_, ?_⟩
    · rw [hs] at hsl
      simpa using hsl
    · rw [hs] at hco
      exact h1.withCore hco hch
  have HC := Lib.hid hcore
  have HX1 := Lib.hid hx1
  obtain ⟨x2, hx2⟩ : ∃ x2 : RSt, ({ x1 with s := entered core0 0, b1 := false, b2 := false, b3 := false } : RSt) = x2 := ⟨_, rfl⟩
  have HX2 := Lib.hid hx2
  have e1 := Lib.hid (show x2.now = 0 by rw [← hx2]; exact hn)
  have e2 := Lib.hid (show x2.out = [] by rw [← hx2]; exact ho)
  have e3 := Lib.hid (show x2.timers = [] by rw [← hx2]; exact ht)
  have e4 := Lib.hid (show x2.id = x1.id by rw [← hx2])
  have e5 := Lib.hid (show x2.c = x.c by rw [← hx2]; exact hcc)
  have e6 := Lib.hid (show x2.s = entered core0 0 by rw [← hx2])
  have e7 := Lib.hid (show x2.book.length ≤ 1000000000 by rw [← hx2]; exact hB)
  have e8 := Lib.hid (show x2.c.f = (f : Int) by rw [← hx2]; exact hf)
  have HI2 := Lib.hid hi2; have HII := Lib.hid hii; have HF0 := Lib.hid hf0; have HF1 := Lib.hid hf1
  rw [hx2] at HC
  clear hcore hx1 hx2 hs hA hLq hn ho ht hi2 hB hf hcc hii h1 hi hfr hfz kst hf0 hf1
  go_wp2_with fail
  refine HC.out.mono ?_
  rintro _ w2 ⟨A2, rfl, hsl, hr⟩
  have HR := Lib.hid hr
  have HSL := Lib.hid hsl
  clear hsl hr k0 k1
  go_wp2_with fail
  have hfin : ∀ (w3 : World), RepIs w0 w3 B (timed x2 1) → Calls Tryz.prog 25 #[.pointer (some ⟨B 0, 0, none⟩)] w3 fun e w' => ∃ (l : Hdr), e = .returned (.slice l.a l.len l.cap) ∧ RepIs w0 w' B (waiting x) := by
    intro w3 hy
    refine (told_any w0 B (timed x2 1) w3 hy).mono ?_
    rintro e w' ⟨rfl, h1, h2, h3⟩
    refine ⟨_, rfl, ?_⟩
    have hx := HX2.out
    rw [← HX1.out] at hx
    rw [← hx] at h1
    exact h1
  have HFIN := Lib.hid hfin
  clear hfin
  have hwant : Calls Tryz.prog 42 #[.pointer (some ⟨B 0, 0, none⟩), .slice A2 1 1] w2 fun e w' => e = .returned (.tuple #[]) ∧ RepIs w0 w' B (timed x2 1) := by
    have hsl := HSL.out
    have hid2 : ¬ ((0 : Nat) : Int) = x1.id := fun e => hid (by rw [← HII.out, ← e]; rfl)
    rw [show enterAct core0 x1.id 0 0 = ⟨4, 0, 1, default⟩ by unfold enterAct; rw [if_neg hid2]] at hsl
    exact want4_any w0 B x2 1 A2 w2 HR.out hsl e1.out (by rw [e3.out]; simp)
  refine hwant.mono ?_
  rintro _ w3 ⟨rfl, hy⟩
  have HY := Lib.hid hy
  clear hwant hy
  go_wp2_with fail
  refine (HFIN.out w3 HY.out).mono ?_
  rintro _ w4 ⟨l, rfl, r1⟩
  have R1 := Lib.hid r1
  clear r1
  go_wp2_with fail
  go_ret
  exact ⟨l, rfl, R1.out⟩
end Go.Proofs.YtfhhcgldikmejaaGreatDoor
/- Messages by which nothing changes; the law's start of a replica. Conditions: those named in each theorem. -/
namespace Go.Proofs.YtfhhcgldikmejaaGreatDoor
open Go Go.RowKit Go.Gv Go.Proofs

end Go.Proofs.YtfhhcgldikmejaaGreatDoor
/- A replica that was started, with its count of votes. Conditions: those named in each theorem. -/
namespace Go.Proofs.YtfhhcgldikmejaaGreatDoor
open Go Go.RowKit Go.Gv Go.Proofs

theorem own_not_map2 {α : Type} [Enc α] {w : World} {base k : Nat} {e : TypeId} {v : Value} {xs : List α} {es : Array MapEntry} {c : Nat} (h : OwnS w base e v xs) (hk : w.heap[k]? = some (.map es c)) : v.ownBlock ≠ some k := by
  intro he
  rcases h.2 with ⟨rfl, _⟩ | ⟨g, cap, cur, rfl, _, hh, _⟩
  · cases he
  · injection he with he
    subst he
    rw [hh] at hk
    cases hk
def keptC (r : Nat) : Nat → Option Obj := fun k => if k = r then some (.map #[] 0) else none
theorem RepIs.keepMap {w0 w : World} {B : Nat → Nat} {x : RSt} (h : RepIs w0 w B x) {r : Nat} (hm : w.heap[r]? = some (.map #[] 0)) (hj : ∀ j < 20, r ≠ B j) : RepIs w0 w B { x with kept := keptC r } := by
  obtain ⟨i1, i2, i3, i4, i5, i6, i7, i8, i9, i10, i11, a, bm, ht, hp, h1, h2, h3, h4, h5⟩ := h
  obtain ⟨g1, g2, g3, g4, g5, g6, g7, g8, g9, g10⟩ := h5
  refine ⟨i1, i2, i3, i4, i5, i6, i7, i8, i9, i10, i11, a, bm, ht, hp, h1, h2, h3, h4, g1, g2, g3, g4, g5, g6, g7, g8, g9, fun k o e => ?_⟩
  change keptC r k = some o at e
  unfold keptC at e
  by_cases hk : k = r
  · rw [if_pos hk] at e
    injection e with e
    subst hk e
    exact ⟨hm, hj, own_not_map2 g1 hm, own_not_map2 g2 hm, own_not_map2 g3 hm⟩
  · rw [if_neg hk] at e; cases e
def freshC (c : GConf) (id : Int) (b : MBook) (r : Nat) : RSt := { fresh c id b with kept := keptC r }
set_option maxHeartbeats 4000000 in
theorem made_repIs {w0 w w' : World} {c : GConf} {i : Int} {gb mb g gs ms gt mt gl ml gv mv gk gtt mh mc ma mla mq mb2 mp ge : Nat} {a : Option Addr} {b : MBook} (h : Made w w' c i g gs ms gt mt gl ml gv mv gk gtt mh mc ma mla mq mb2 mp ge (some ⟨gb, 0, none⟩) a) (hb : BookIs w gb mb b) (h0 : Bel w0 w) (hgb : w0.heap.size ≤ gb) (hmb : w0.heap.size ≤ mb)
    (hcn : w'.heap[mc]? = some (.map #[] 0)) (hmc : g < mc ∧ mc < mp) (hch : mh < mc ∧ mc < ma ∧ ma < mla ∧ mla < gtt ∧ gtt < mq ∧ mq < gk ∧ gk < mp) :
    RepIs w0 w' (blocks gb mb g gs ms gt mt gl ml gv mv gk gtt mh mc ma mla mq mp ge) (freshC c i b mc) ∧ Far2 (blocks gb mb g gs ms gt mt gl ml gv mv gk gtt mh mc ma mla mq mp ge) := by
  have o1 := h.o1; have o2 := h.o2; have o4 := h.o4
  have oc := h.o3 mh (by simp)
  have b1 := get?_lt hb.1; have b2 := mapAt_lt hb.2
  simp only at b1
  have w1 := Below.size h0; have w2 := Below.size h.bel
  refine ⟨(h.repIs hb h0 hgb hmb).keepMap hcn ?_, ?_⟩
  · exact lt20 (by show mc ≠ g; omega) (by show mc ≠ gb; omega) (by show mc ≠ mb; omega) (by show mc ≠ gs; omega) (by show mc ≠ ms; omega) (by show mc ≠ gt; omega) (by show mc ≠ mt; omega) (by show mc ≠ gl; omega) (by show mc ≠ ml; omega) (by show mc ≠ gv; omega) (by show mc ≠ mv; omega) (by show mc ≠ ge; omega) (by show mc ≠ gk; omega) (by show mc ≠ gtt; omega) (by show mc ≠ mh; omega) (by show mc ≠ mh; omega) (by show mc ≠ ma; omega) (by show mc ≠ mla; omega) (by show mc ≠ mq; omega) (by show mc ≠ mp; omega)
  · refine ⟨fun j hj => ?_, hch.1, hch.2.1, hch.2.2.1, hch.2.2.2.1, hch.2.2.2.2.1, hch.2.2.2.2.2.1, hch.2.2.2.2.2.2, o4.1, rfl⟩
    have hj2 : j = 0 ∨ j = 1 ∨ j = 2 ∨ j = 3 ∨ j = 4 ∨ j = 5 ∨ j = 6 ∨ j = 7 ∨ j = 8 ∨ j = 9 ∨ j = 10 := by omega
    rcases hj2 with rfl | rfl | rfl | rfl | rfl | rfl | rfl | rfl | rfl | rfl | rfl
    all_goals (simp only [blocks]; omega)
/-- As the first proposer stands behind Start. -/
def asking (x : RSt) (f : Nat) : RSt := { proposed { x with started := true, s := entered core0 0, b1 := false, b2 := false, b3 := false } 0 f with ho := nilH, out := [] }
set_option maxRecDepth 100000 in
set_option maxHeartbeats 4000000 in
theorem repStartP_any (w0 : World) (B : Nat → Nat) (x : RSt) (f : Nat) (w : World) (h : RepIs w0 w B x) (hs : x.s = core0) (hA : x.A = []) (hLq : x.L = []) (hn : x.now = 0) (ho : x.out = []) (ht : x.timers = []) (hi : x.id ≤ 1000000) (hB : x.book.length ≤ 1000000000) (hf : x.c.f = (f : Int)) (hf0 : 1 ≤ f) (hf1 : f ≤ 21) (hid : (0 : Int) = x.id) :
    Calls Tryz.prog 21 #[.pointer (some ⟨B 0, 0, none⟩)] w fun e w' => ∃ (l : Hdr), e = .returned (.slice l.a l.len l.cap) ∧ RepIs w0 w' B (asking x f) := by
  obtain ⟨hfr, a, hg⟩ := rep_other h
  have hfz := frozen_of_free (a := ⟨B 0, 4, none⟩) hfr
  have kst := (rep_cells h).2.2.1
  have hc : Chg (fun k => k = B 0) w (w.setCell ⟨B 0, 4, none⟩ (.bool true)) := chg_cell (S := fun k => k = B 0) rfl _
  have h1 := h.withStarted true hc (fun a ha => get?_poke ha (rep_started (repG B x a) true)) (by rw [blkFree_setCell]; exact hfr)
  clear hg hc h
  go_enter Tryz.func21, Tryz.ntmps21
  go_upto_region 2 with fail
  obtain ⟨x1, hx1⟩ : ∃ x1 : RSt, { x with started := true } = x1 := ⟨_, rfl⟩
  have hs : x1.s = core0 := by rw [← hx1]; exact hs
  have hA : x1.A = [] := by rw [← hx1]; exact hA
  have hLq : x1.L = [] := by rw [← hx1]; exact hLq
  have hn : x1.now = 0 := by rw [← hx1]; exact hn
  have ho : x1.out = [] := by rw [← hx1]; exact ho
  have ht : x1.timers = [] := by rw [← hx1]; exact ht
  have hi2 : x1.id ≤ 1000000 := by rw [← hx1]; exact hi
  have hB : x1.book.length ≤ 1000000000 := by rw [← hx1]; exact hB
  have hf : x1.c.f = (f : Int) := by rw [← hx1]; exact hf
  have hcc : x1.c = x.c := by rw [← hx1]
  have hii : x1.id = x.id := by rw [← hx1]
  rw [hx1] at h1
  generalize w.setCell ⟨B 0, 4, none⟩ (.bool true) = wa at h1 ⊢
  have H1 := Lib.hid h1
  have k0 := (rep_cells h1).2.2.2.2.2.2.2.1
  have k1 := (ep_cells h1).1
  have hcore : Calls Tryz.prog 43 #[.pointer (some ⟨B 12, 0, none⟩)] wa fun e w' => ∃ A2 : Option Addr, e = .returned (.slice A2 1 1) ∧ Sl GCoreAct w' w'.heap.size A2 1 [enterAct core0 x1.id 0 0] ∧ RepIs w0 w' B { x1 with s := entered core0 0, b1 := false, b2 := false, b3 := false } := by
    have hh := startC_any (B 12) (B 13) (B 14) (B 20) (B 16) (B 17) (B 18) x1.c 0 x1.id x1.s x1.b1 x1.b2 x1.b3 x1.H x1.A x1.L wa h1.core f 0 hf hf0 hf1 rfl (by omega) (h1.apart 12 13 (by omega) (by omega) (by omega) (by omega)) (by rw [hs]; rfl) (by rw [hs]; rfl) (by rw [hLq]; intro p hp; cases hp) (by rw [hA, hf]; simp [allOf, mget_nil]; omega)
    refine hh.mono ?_
    rintro e w' ⟨A2, rfl, hsl, hco, hch⟩
    refine ⟨A2, rfl, ?_, ?_⟩
    · rw [hs] at hsl
      simpa using hsl
    · rw [hs] at hco
      exact h1.withCore hco hch
  have HC := Lib.hid hcore
  have HX1 := Lib.hid hx1
  obtain ⟨x2, hx2⟩ : ∃ x2 : RSt, ({ x1 with s := entered core0 0, b1 := false, b2 := false, b3 := false } : RSt) = x2 := ⟨_, rfl⟩
  have HX2 := Lib.hid hx2
  have e1 := Lib.hid (show x2.now = 0 by rw [← hx2]; exact hn)
  have e2 := Lib.hid (show x2.out = [] by rw [← hx2]; exact ho)
  have e3 := Lib.hid (show x2.timers = [] by rw [← hx2]; exact ht)
  have e4 := Lib.hid (show x2.id = x1.id by rw [← hx2])
  have e5 := Lib.hid (show x2.c = x.c by rw [← hx2]; exact hcc)
  have e6 := Lib.hid (show x2.s = entered core0 0 by rw [← hx2])
  have e7 := Lib.hid (show x2.book.length ≤ 1000000000 by rw [← hx2]; exact hB)
  have e8 := Lib.hid (show x2.c.f = (f : Int) by rw [← hx2]; exact hf)
  have HI2 := Lib.hid hi2; have HII := Lib.hid hii; have HF0 := Lib.hid hf0; have HF1 := Lib.hid hf1
  rw [hx2] at HC
  clear hcore hx1 hx2 hs hA hLq hn ho ht hi2 hB hf hcc hii h1 hi hfr hfz kst hf0 hf1
  go_wp2_with fail
  refine HC.out.mono ?_
  rintro _ w2 ⟨A2, rfl, hsl, hr⟩
  have HR := Lib.hid hr
  have HSL := Lib.hid hsl
  clear hsl hr k0 k1
  go_wp2_with fail
  have hfin : ∀ (w3 : World) (ho : Hdr), RepIs w0 w3 B { proposed x2 0 f with ho := ho } → Calls Tryz.prog 25 #[.pointer (some ⟨B 0, 0, none⟩)] w3 fun e w' => ∃ (l : Hdr), e = .returned (.slice l.a l.len l.cap) ∧ RepIs w0 w' B (asking x f) := by
    intro w3 ho hy
    refine (told_any w0 B { proposed x2 0 f with ho := ho } w3 hy).mono ?_
    rintro e w' ⟨rfl, h1, h2, h3⟩
    refine ⟨_, rfl, ?_⟩
    have hx := HX2.out
    rw [← HX1.out] at hx
    rw [← hx] at h1
    exact h1
  have HFIN := Lib.hid hfin
  clear hfin
  have hwant : Calls Tryz.prog 42 #[.pointer (some ⟨B 0, 0, none⟩), .slice A2 1 1] w2 fun e w' => e = .returned (.tuple #[]) ∧ ∃ ho, RepIs w0 w' B { proposed x2 0 f with ho := ho } := by
    have hsl := HSL.out
    have hid2 : ((0 : Nat) : Int) = x1.id := by rw [HII.out, ← hid]; rfl
    rw [show enterAct core0 x1.id 0 0 = ⟨1, 0, -1, default⟩ by unfold enterAct; rw [if_pos hid2]; rfl] at hsl
    exact want1_any w0 B x2 ⟨1, 0, -1, default⟩ A2 f w2 HR.out hsl rfl rfl e1.out (by rw [e2.out]; simp) (by rw [e4.out]; exact HI2.out) e7.out e8.out HF0.out HF1.out
  refine hwant.mono ?_
  rintro _ w3 ⟨rfl, ho, hy⟩
  have HY := Lib.hid hy
  clear hwant hy
  go_wp2_with fail
  refine (HFIN.out w3 ho HY.out).mono ?_
  rintro _ w4 ⟨l, rfl, r1⟩
  have R1 := Lib.hid r1
  clear r1
  go_wp2_with fail
  go_ret
  exact ⟨l, rfl, R1.out⟩
set_option maxRecDepth 100000 in
set_option maxHeartbeats 4000000 in
theorem startO_any (c : GConf) (i : Int) (f : Nat) (w : World) (hm : mayR c i = true) (hid : ¬ (0 : Int) = i) (hi : i ≤ 1000000) (hf : c.f = (f : Int)) (hf0 : 1 ≤ f) (hf1 : f ≤ 21) :
    Calls Tryz.prog 6 #[c.val, .int .i64 i] w fun e w' => ∃ B : Nat → Nat, e = .returned (.tuple #[.pointer (some ⟨B 0, 0, none⟩), .pointer (some ⟨B 1, 0, none⟩), .bool true]) ∧ (∃ r, RepIs w w' B (waiting (freshC c i [] r)) ∧ Far2 B ∧ B 20 = r) := by
  have HM := Lib.hid hm; have HID := Lib.hid hid; have HI := Lib.hid hi; have HF := Lib.hid hf
  have c1 : get? GConf (w.alloc (.cells (GConf.enc c).toArray 24)) ⟨w.heap.size, 0, none⟩ = some c := get?_new _ _
  have HBA := Lib.hid ((Bel.refl w).alloc (.cells (GConf.enc c).toArray 24))
  clear hm hid hi hf
  go_enter Tryz.func6, Tryz.ntmps6
  go_wp2_with fail
  refine (newBook_any _).mono ?_
  rintro _ w1 ⟨gb, mb, rfl, hbk, hg1, hg2, hb1⟩
  have HBK := Lib.hid hbk; have HB1 := Lib.hid (HBA.out.trans hb1)
  have HG1 := Lib.hid (show w.heap.size ≤ gb by have := Below.size HBA.out; omega); have HG2 := Lib.hid (show w.heap.size ≤ mb by have := Below.size HBA.out; omega)
  have c2 := GB.get hb1 c1
  clear hbk hb1 hg1 hg2 c1
  go_wp2_with fail
  refine (repNewC_any c i (some ⟨gb, 0, none⟩) w1 HM.out).mono ?_
  rintro _ w2 ⟨g, gs, ms, gt, mt, gl, ml, gv, mv, gk, gtt, mh, mc, ma, mla, mq, mb2, mp, ge, a, rfl, hmade, hcn, hmc, hch⟩
  have hr2 := made_repIs hmade HBK.out HB1.out HG1.out HG2.out hcn hmc hch
  have HR := Lib.hid hr2.1; have HFAR := Lib.hid hr2.2
  clear hmade c2 hcn hmc hch hr2
  go_wp2_with fail
  have hst := repStartO_any w _ (freshC c i [] mc) f w2 HR.out rfl rfl rfl rfl rfl rfl HI.out (by show (0 : Nat) ≤ _; omega) HF.out hf0 hf1 HID.out
  refine hst.mono ?_
  rintro _ w3 ⟨l, rfl, hy⟩
  have HY := Lib.hid hy
  clear hy hst
  go_wp2_with fail
  exact bodyPost_ret (results_tmp3 rfl _ _ _) rfl ⟨_, rfl, mc, HY.out, HFAR.out, rfl⟩
set_option maxRecDepth 100000 in
set_option maxHeartbeats 4000000 in
theorem startP_any (c : GConf) (i : Int) (f : Nat) (w : World) (hm : mayR c i = true) (hid : (0 : Int) = i) (hi : i ≤ 1000000) (hf : c.f = (f : Int)) (hf0 : 1 ≤ f) (hf1 : f ≤ 21) :
    Calls Tryz.prog 6 #[c.val, .int .i64 i] w fun e w' => ∃ B : Nat → Nat, e = .returned (.tuple #[.pointer (some ⟨B 0, 0, none⟩), .pointer (some ⟨B 1, 0, none⟩), .bool true]) ∧ (∃ r, RepIs w w' B (asking (freshC c i [] r) f) ∧ Far2 B ∧ B 20 = r) := by
  have HM := Lib.hid hm; have HID := Lib.hid hid; have HI := Lib.hid hi; have HF := Lib.hid hf
  have c1 : get? GConf (w.alloc (.cells (GConf.enc c).toArray 24)) ⟨w.heap.size, 0, none⟩ = some c := get?_new _ _
  have HBA := Lib.hid ((Bel.refl w).alloc (.cells (GConf.enc c).toArray 24))
  clear hm hid hi hf
  go_enter Tryz.func6, Tryz.ntmps6
  go_wp2_with fail
  refine (newBook_any _).mono ?_
  rintro _ w1 ⟨gb, mb, rfl, hbk, hg1, hg2, hb1⟩
  have HBK := Lib.hid hbk; have HB1 := Lib.hid (HBA.out.trans hb1)
  have HG1 := Lib.hid (show w.heap.size ≤ gb by have := Below.size HBA.out; omega); have HG2 := Lib.hid (show w.heap.size ≤ mb by have := Below.size HBA.out; omega)
  have c2 := GB.get hb1 c1
  clear hbk hb1 hg1 hg2 c1
  go_wp2_with fail
  refine (repNewC_any c i (some ⟨gb, 0, none⟩) w1 HM.out).mono ?_
  rintro _ w2 ⟨g, gs, ms, gt, mt, gl, ml, gv, mv, gk, gtt, mh, mc, ma, mla, mq, mb2, mp, ge, a, rfl, hmade, hcn, hmc, hch⟩
  have hr2 := made_repIs hmade HBK.out HB1.out HG1.out HG2.out hcn hmc hch
  have HR := Lib.hid hr2.1; have HFAR := Lib.hid hr2.2
  clear hmade c2 hcn hmc hch hr2
  go_wp2_with fail
  have hst := repStartP_any w _ (freshC c i [] mc) f w2 HR.out rfl rfl rfl rfl rfl rfl HI.out (by show (0 : Nat) ≤ _; omega) HF.out hf0 hf1 HID.out
  refine hst.mono ?_
  rintro _ w3 ⟨l, rfl, hy⟩
  have HY := Lib.hid hy
  clear hy hst
  go_wp2_with fail
  exact bodyPost_ret (results_tmp3 rfl _ _ _) rfl ⟨_, rfl, mc, HY.out, HFAR.out, rfl⟩
end Go.Proofs.YtfhhcgldikmejaaGreatDoor
/- A replica's Do of one tick, whatever it does. Conditions: those named in each theorem. -/
namespace Go.Proofs.YtfhhcgldikmejaaGreatDoor
open Go Go.RowKit Go.Gv Go.Proofs

set_option maxRecDepth 100000 in
set_option maxHeartbeats 4000000 in
theorem do1_any (w0 : World) (B : Nat → Nat) (x : RSt) (P : RSt → Prop) (m : GMsg) (w : World) (h : RepIs w0 w B x) (hst : x.started = true) (hk : m.kind = 0)
    (hT : ∀ w1, RepIs w0 w1 B x → Calls Tryz.prog 22 #[.pointer (some ⟨B 0, 0, none⟩)] w1 fun e w' => e = .returned (.tuple #[]) ∧ ∃ y, P y ∧ RepIs w0 w' B y) :
    Calls Tryz.prog 8 #[.pointer (some ⟨B 0, 0, none⟩), (⟨1, m⟩ : GReplicaEvent).val] w fun e w' => ∃ y, P y ∧ e = .returned (.slice y.ho.a y.ho.len y.ho.cap) ∧ RepIs w0 w' B { y with ho := nilH, out := [] } ∧ OwnS w' w0.heap.size 70 y.ho.val y.out := by
  have hba := (Bel.refl w).alloc (.cells (GReplicaEvent.enc ⟨1, m⟩).toArray 72)
  have h2 := h.step hba
  have k0 := (rep_cells h2).2.2.1
  rw [hst] at k0
  have c1 : get? GReplicaEvent (w.alloc (.cells (GReplicaEvent.enc ⟨1, m⟩).toArray 72)) ⟨w.heap.size, 0, none⟩ = some ⟨1, m⟩ := get?_new _ _
  have f0 := GReplicaEvent.at_ticks c1
  have f1 := GMsg.at_kind (GReplicaEvent.at_msg c1)
  simp only [Addr.add_lit, Nat.zero_add] at f0 f1
  rw [hk] at f1
  have H2 := Lib.hid h2; have HT := Lib.hid hT
  clear h hba h2 hst c1 hk hT
  go_enter Tryz.func8, Tryz.ntmps8
  go_wp2_with fail
  go_loopw [19] (fun iv wr => (iv = .int .i64 0 ∧ Hid (RepIs w0 wr B x)) ∨ (iv = .int .i64 1 ∧ ∃ y, Hid (P y) ∧ Hid (RepIs w0 wr B y))) (fun iv _ => 1 - (intOf iv).toNat)
  case atStart => exact .inl ⟨rfl, H2⟩
  case round =>
    rcases hrel with ⟨rfl, hr⟩ | ⟨rfl, y, hp, hr⟩
    · go_wp2_with fail
      refine (HT.out wr hr.out).mono ?_
      rintro _ wb ⟨rfl, y, hp, hb⟩
      have HP := Lib.hid hp; have HB := Lib.hid hb
      clear hb hp hr
      go_wp2_with fail
      go_roundw
      case rel => exact .inr ⟨rfl, y, HP, HB⟩
      case measure => simp [intOf]
    · go_wp2_with fail
      refine (told_any w0 B y wr hr.out).mono ?_
      rintro _ wc ⟨rfl, hc, ho, -⟩
      have HC := Lib.hid hc; have HO := Lib.hid ho
      clear hc ho hr
      go_wp2_with fail
      go_ret
      exact ⟨y, hp.out, rfl, HC.out, HO.out⟩
theorem toAll3 (id : Int) (m : GMsg) (h : 0 ≤ id ∧ id < 4) : ∃ a b c, toAll id m 4 = [sent id a m, sent id b m, sent id c m] := by
  obtain rfl | rfl | rfl | rfl : id = 0 ∨ id = 1 ∨ id = 2 ∨ id = 3 := by omega
  · exact ⟨1, 2, 3, rfl⟩
  · exact ⟨0, 2, 3, rfl⟩
  · exact ⟨0, 1, 3, rfl⟩
  · exact ⟨0, 1, 2, rfl⟩
/-- What was told, as the law reads it: its first message. -/
theorem told_first {w : World} {base : Nat} {h : Hdr} {m : GMsg} {l : List GMsg} (ho : OwnS w base 70 h.val (m :: l)) : ∃ g cap, h = ⟨some ⟨g, 0, none⟩, l.length + 1, cap⟩ ∧ l.length + 1 ≤ cap ∧ get? GMsg w ⟨g, 0, none⟩ = some m ∧ Sl GMsg w w.heap.size (some ⟨g, 0, none⟩) (l.length + 1) (m :: l) := by
  obtain ⟨A, c, hv, hsl, hc, -, -⟩ := ho.shape
  obtain ⟨a, n, cap⟩ := h
  unfold Hdr.val at hv
  injection hv with e1 e2 e3
  have e1 : a = A := e1
  have e2 : n = (m :: l).length := e2
  have e3 : cap = c := e3
  subst e1 e2 e3
  rcases ho.2 with ⟨_, h0⟩ | ⟨g, cap2, cur, he, _⟩
  · simp at h0
  · unfold Hdr.val at he
    injection he with q1 q2 q3
    have q1 : a = some ⟨g, 0, none⟩ := q1
    subst q1
    obtain ⟨ad, b, e, _, hb, hg⟩ := hsl.at_ (k := 0) (by simp)
    injection e with e
    subst e
    simp only [List.getElem?_cons_zero, Option.some.injEq] at hb
    subst hb
    exact ⟨g, cap, rfl, by simpa using hc, by simpa only [Nat.zero_mul, Addr.add_lit, Nat.add_zero] using hg, by simpa using hsl⟩
theorem told_none {w : World} {base : Nat} {h : Hdr} (ho : OwnS w base 70 h.val ([] : List GMsg)) : h.len = 0 := by
  obtain ⟨A, c, hv, -⟩ := ho.shape
  obtain ⟨a, n, cap⟩ := h
  unfold Hdr.val at hv
  injection hv
end Go.Proofs.YtfhhcgldikmejaaGreatDoor
/- A replica's Do of one tick, in the law's states. Conditions: those named in each theorem. -/
namespace Go.Proofs.YtfhhcgldikmejaaGreatDoor
open Go Go.RowKit Go.Gv Go.Proofs

def cf11 : GConf := ⟨1, 1⟩
def askN (r k : Nat) : RSt := { asking (freshC cf11 0 [] r) 1 with now := (k : Int) }
def waitN (id : Int) (r k : Nat) : RSt := { waiting (freshC cf11 id [] r) with now := (k : Int) }
def vV (id : Int) : GVote := voteG (waiting (fresh cf11 id [])) 0 default
def votedN (B : Nat → Nat) (id : Int) (r : Nat) (o : Obj) (p k : Nat) : RSt := { dueSt B (waitN id r 9) o 1 p nilH with now := (k : Int), out := [] }
theorem doAskNo_any (w0 : World) (B : Nat → Nat) (r k : Nat) (w : World) (h : RepIs w0 w B (askN r k)) (hk : k ≤ 100) (hm : (k + 1) % 10 ≠ 0) :
    Calls Tryz.prog 8 #[.pointer (some ⟨B 0, 0, none⟩), (⟨1, default⟩ : GReplicaEvent).val] w fun e w' => ∃ ho : Hdr, e = .returned (.slice ho.a ho.len ho.cap) ∧ RepIs w0 w' B (askN r (k + 1)) ∧ OwnS w' w0.heap.size 70 ho.val ([] : List GMsg) := by
  refine (do1_any w0 B (askN r k) (fun y => y = askN r (k + 1)) default w h rfl rfl (fun w1 h1 => (tick0_any w0 B (askN r k) w1 h1 (by show (0 : Int) ≤ (k : Int); omega) (by show (k : Int) ≤ _; omega) (fun t ht => nomatch ht) (by show ((k : Int) + 1) % 10 ≠ 0; omega) (by show (0 : Nat) ≤ _; omega)).mono (fun e w' q => ⟨q.1, _, rfl, q.2⟩))).mono ?_
  rintro e w' ⟨y, rfl, rfl, hr, ho⟩
  exact ⟨_, rfl, hr, ho⟩
theorem doAskYes_any (w0 : World) (B : Nat → Nat) (r k : Nat) (w : World) (h : RepIs w0 w B (askN r k)) (hk : k ≤ 100) (hm : (k + 1) % 10 = 0) :
    Calls Tryz.prog 8 #[.pointer (some ⟨B 0, 0, none⟩), (⟨1, default⟩ : GReplicaEvent).val] w fun e w' => ∃ ho : Hdr, e = .returned (.slice ho.a ho.len ho.cap) ∧ RepIs w0 w' B (askN r (k + 1)) ∧ OwnS w' w0.heap.size 70 ho.val (toAll 0 (closeM 0 1) 4) := by
  refine (do1_any w0 B (askN r k) (fun y => ∃ ho, y = { askN r (k + 1) with ho := ho, out := toAll 0 (closeM 0 1) 4 }) default w h rfl rfl (fun w1 h1 =>
    tickM_any w0 B (askN r k) (fun w' => ∃ y, (∃ ho, y = { askN r (k + 1) with ho := ho, out := toAll 0 (closeM 0 1) 4 }) ∧ RepIs w0 w' B y) w1 h1 (by show (0 : Int) ≤ (k : Int); omega) (by show (k : Int) ≤ _; omega) (fun t ht => nomatch ht) (by show ((k : Int) + 1) % 10 = 0; omega) (fun w2 h2 =>
      (againAsk_any w0 B (ticked (askN r k)) 1 w2 h2 rfl rfl rfl (by show (0 : Nat) ≤ _; omega) rfl (by omega) (by show (0 : Int) ≤ 0; omega) (by show (0 : Int) ≤ _; omega)).mono (fun e w' q => ⟨q.1, by
        obtain ⟨ho, hr⟩ := q.2
        exact ⟨_, ⟨ho, rfl⟩, hr⟩⟩)) (by show (0 : Nat) ≤ _; omega))).mono ?_
  rintro e w' ⟨y, ⟨ho1, rfl⟩, rfl, hr, ho⟩
  exact ⟨_, rfl, hr, ho⟩
theorem doWaitNo_any (w0 : World) (B : Nat → Nat) (id : Int) (r k : Nat) (w : World) (h : RepIs w0 w B (waitN id r k)) (hk : k < 9) :
    Calls Tryz.prog 8 #[.pointer (some ⟨B 0, 0, none⟩), (⟨1, default⟩ : GReplicaEvent).val] w fun e w' => ∃ ho : Hdr, e = .returned (.slice ho.a ho.len ho.cap) ∧ RepIs w0 w' B (waitN id r (k + 1)) ∧ OwnS w' w0.heap.size 70 ho.val ([] : List GMsg) := by
  refine (do1_any w0 B (waitN id r k) (fun y => y = waitN id r (k + 1)) default w h rfl rfl (fun w1 h1 => (tick0_any w0 B (waitN id r k) w1 h1 (by show (0 : Int) ≤ (k : Int); omega) (by show (k : Int) ≤ _; omega) (fun t ht => by
      have ht : t ∈ [(⟨10, ⟨1, 0⟩⟩ : GReplicaTimer)] := ht
      rw [List.mem_singleton] at ht
      subst ht
      show (k : Int) + 1 < 10
      omega) (by show ((k : Int) + 1) % 10 ≠ 0; omega) (by show (1 : Nat) ≤ _; omega)).mono (fun e w' q => ⟨q.1, _, rfl, q.2⟩))).mono ?_
  rintro e w' ⟨y, rfl, rfl, hr, ho⟩
  exact ⟨_, rfl, hr, ho⟩
theorem doDue_any (w0 : World) (B : Nat → Nat) (id : Int) (r : Nat) (w : World) (h : RepIs w0 w B (waitN id r 9)) (hid : 0 ≤ id ∧ id < 4) (hF : Far2 B) (hr : B 20 = r) :
    Calls Tryz.prog 8 #[.pointer (some ⟨B 0, 0, none⟩), (⟨1, default⟩ : GReplicaEvent).val] w fun e w' => ∃ ho : Hdr, e = .returned (.slice ho.a ho.len ho.cap) ∧ (∃ o p, RepIs w0 w' B (votedN B id r o p 10)) ∧ OwnS w' w0.heap.size 70 ho.val (toAll id (voteM (vV id)) 4 ++ toAll id (voteM (vV id)) 4) := by
  have hx : Fresh1 B (waitN id r 9) := ⟨hF, by show keptC r (B 20) = _; unfold keptC; rw [if_pos hr], rfl, rfl, rfl, rfl, rfl, rfl, rfl, by show inB cf11 id = true; unfold inB; simp [cf11]; omega, by show (1 : Int) ≤ 1 ∧ (1 : Int) ≤ 21; omega⟩
  refine (do1_any w0 B (waitN id r 9) (fun y => ∃ o p ho, y = { dueSt B (waitN id r 9) o 1 p ho with out := toAll id (voteM (vV id)) 4 ++ toAll id (voteM (vV id)) 4 }) default w h rfl rfl (fun w1 h1 =>
    (tickD_any w0 B (waitN id r 9) 1 10 w1 h1 (by show (0 : Int) ≤ 9; omega) (by show (9 : Int) ≤ _; omega) rfl (by show (10 : Int) ≤ 9 + 1; omega) (by show ((9 : Int) + 1) % 10 = 0; omega) hx rfl rfl (by show id ≤ _; omega) (by show (0 : Nat) ≤ _; omega) rfl (by omega)).mono (fun e w' q => ⟨q.1, by
      obtain ⟨o, p, ho, hr⟩ := q.2
      exact ⟨_, ⟨o, p, ho, rfl⟩, hr⟩⟩))).mono ?_
  rintro e w' ⟨y, ⟨o, p, ho1, rfl⟩, rfl, hr, ho⟩
  exact ⟨_, rfl, ⟨o, p, hr⟩, ho⟩
theorem doVotedNo_any (w0 : World) (B : Nat → Nat) (id : Int) (r : Nat) (o : Obj) (p k : Nat) (w : World) (h : RepIs w0 w B (votedN B id r o p k)) (hk : k ≤ 100) (hm : (k + 1) % 10 ≠ 0) :
    Calls Tryz.prog 8 #[.pointer (some ⟨B 0, 0, none⟩), (⟨1, default⟩ : GReplicaEvent).val] w fun e w' => ∃ ho : Hdr, e = .returned (.slice ho.a ho.len ho.cap) ∧ RepIs w0 w' B (votedN B id r o p (k + 1)) ∧ OwnS w' w0.heap.size 70 ho.val ([] : List GMsg) := by
  refine (do1_any w0 B (votedN B id r o p k) (fun y => y = votedN B id r o p (k + 1)) default w h rfl rfl (fun w1 h1 => (tick0_any w0 B (votedN B id r o p k) w1 h1 (by show (0 : Int) ≤ (k : Int); omega) (by show (k : Int) ≤ _; omega) (fun t ht => nomatch ht) (by show ((k : Int) + 1) % 10 ≠ 0; omega) (by show (0 : Nat) ≤ _; omega)).mono (fun e w' q => ⟨q.1, _, rfl, q.2⟩))).mono ?_
  rintro e w' ⟨y, rfl, rfl, hr, ho⟩
  exact ⟨_, rfl, hr, ho⟩
theorem doVotedYes_any (w0 : World) (B : Nat → Nat) (id : Int) (r : Nat) (o : Obj) (p k : Nat) (w : World) (h : RepIs w0 w B (votedN B id r o p k)) (hk : k ≤ 100) (hm : (k + 1) % 10 = 0) :
    Calls Tryz.prog 8 #[.pointer (some ⟨B 0, 0, none⟩), (⟨1, default⟩ : GReplicaEvent).val] w fun e w' => ∃ ho : Hdr, e = .returned (.slice ho.a ho.len ho.cap) ∧ RepIs w0 w' B (votedN B id r o p (k + 1)) ∧ OwnS w' w0.heap.size 70 ho.val (toAll id (voteM (vV id)) 4) := by
  refine (do1_any w0 B (votedN B id r o p k) (fun y => ∃ ho, y = { votedN B id r o p (k + 1) with ho := ho, out := toAll id (voteM (vV id)) 4 }) default w h rfl rfl (fun w1 h1 =>
    tickM_any w0 B (votedN B id r o p k) (fun w' => ∃ y, (∃ ho, y = { votedN B id r o p (k + 1) with ho := ho, out := toAll id (voteM (vV id)) 4 }) ∧ RepIs w0 w' B y) w1 h1 (by show (0 : Int) ≤ (k : Int); omega) (by show (k : Int) ≤ _; omega) (fun t ht => nomatch ht) (by show ((k : Int) + 1) % 10 = 0; omega) (fun w2 h2 =>
      (againVote_any w0 B (ticked (votedN B id r o p k)) 1 p (vV id) w2 h2 rfl rfl rfl (by show (0 : Nat) ≤ _; omega) rfl (by omega) (by show (0 : Int) ≤ 0; omega) (by show (0 : Int) ≤ _; omega)).mono (fun e w' q => ⟨q.1, by
        obtain ⟨ho, hr⟩ := q.2
        exact ⟨_, ⟨ho, rfl⟩, hr⟩⟩)) (by show (0 : Nat) ≤ _; omega))).mono ?_
  rintro e w' ⟨y, ⟨ho1, rfl⟩, rfl, hr, ho⟩
  exact ⟨_, rfl, hr, ho⟩
end Go.Proofs.YtfhhcgldikmejaaGreatDoor
/- A proposer's call for promises, as the law sends it. Conditions: those named in each theorem. -/
namespace Go.Proofs.YtfhhcgldikmejaaGreatDoor
open Go Go.RowKit Go.Gv Go.Proofs

theorem within_nat (x : Int) (k : Nat) (hk : 0 < k) : ∃ q : Nat, within x k = (q : Int) ∧ q < k := by
  have hr : 0 ≤ within x k ∧ within x k < (k : Int) := by unfold within; rw [if_neg (by omega)]; exact ⟨Int.emod_nonneg _ (by omega), Int.emod_lt_of_pos _ (by omega)⟩
  exact ⟨(within x k).toNat, by omega, by omega⟩
/-- A replica of four, the last one, started, nothing to say. -/
structure Calm (x : RSt) (n : Nat) : Prop where
  st : x.started = true
  ho : x.ho = nilH
  out : x.out = []
  c : x.c = ⟨1, 1⟩
  id : x.id = 3
  now : x.now = (n : Int)
  n0 : 1 ≤ n
  n1 : n ≤ 1000000
  bl : x.book.length ≤ 1000
def closeX (rd r tm : Nat) : GMsg := ⟨5, rd, 3, default, default, default, default, 0, r, tm, default, default, default, 0, default, default, default, ByteArray.empty, default⟩
def commitX (c : GCommit) (fr : Int) : GMsg := ⟨1, fr, 3, c, default, default, default, 0, 0, 0, default, default, default, 0, default, default, default, ByteArray.empty, default⟩
end Go.Proofs.YtfhhcgldikmejaaGreatDoor
/- Two plain messages that are alike are the same. Conditions: those named in each theorem. -/
namespace Go.Proofs.YtfhhcgldikmejaaGreatDoor
open Go Go.RowKit Go.Gv Go.Proofs

set_option maxRecDepth 100000 in
theorem sameStamp0 (w : World) : Calls Tryz.prog 125 #[.slice none 0 0, .slice none 0 0] w fun e w' => e = .returned (.bool true) ∧ w' = w := by
  go_enter Tryz.func125, Tryz.ntmps125
  go_wp2_with fail
  go_loopw [5] (fun iv wr => iv = .int .i64 0 ∧ wr = w) (fun _ _ => 0)
  case atStart => exact ⟨rfl, rfl⟩
  case round =>
    obtain ⟨rfl, rfl⟩ := hrel
    go_wp2_with fail
    go_ret
    exact ⟨rfl, rfl⟩
set_option maxRecDepth 100000 in
theorem certs0 (w : World) : Calls Tryz.prog 126 #[.slice none 0 0, .slice none 0 0] w fun e w' => e = .returned (.bool true) ∧ w' = w := by
  go_enter Tryz.func126, Tryz.ntmps126
  go_wp2_with fail
  go_loopw [13] (fun iv wr => iv = .int .i64 0 ∧ wr = w) (fun _ _ => 0)
  case atStart => exact ⟨rfl, rfl⟩
  case round =>
    obtain ⟨rfl, rfl⟩ := hrel
    go_wp2_with fail
    go_ret
    exact ⟨rfl, rfl⟩
set_option maxRecDepth 100000 in
theorem sameByte0 (w : World) : Calls Tryz.prog 127 #[.slice none 0 0, .slice none 0 0] w fun e w' => e = .returned (.bool true) ∧ w' = w := by
  go_enter Tryz.func127, Tryz.ntmps127
  go_wp2_with fail
  go_loopw [5] (fun iv wr => iv = .int .i64 0 ∧ wr = w) (fun _ _ => 0)
  case atStart => exact ⟨rfl, rfl⟩
  case round =>
    obtain ⟨rfl, rfl⟩ := hrel
    go_wp2_with fail
    go_ret
    exact ⟨rfl, rfl⟩
set_option maxRecDepth 100000 in
theorem openings0 (w : World) : Calls Tryz.prog 128 #[.slice none 0 0, .slice none 0 0] w fun e w' => e = .returned (.bool true) ∧ w' = w := by
  go_enter Tryz.func128, Tryz.ntmps128
  go_wp2_with fail
  go_loopw [13] (fun iv wr => iv = .int .i64 0 ∧ wr = w) (fun _ _ => 0)
  case atStart => exact ⟨rfl, rfl⟩
  case round =>
    obtain ⟨rfl, rfl⟩ := hrel
    go_wp2_with fail
    go_ret
    exact ⟨rfl, rfl⟩
set_option maxRecDepth 100000 in
theorem tombs0 (w : World) : Calls Tryz.prog 129 #[.slice none 0 0, .slice none 0 0] w fun e w' => e = .returned (.bool true) ∧ w' = w := by
  go_enter Tryz.func129, Tryz.ntmps129
  go_wp2_with fail
  go_loopw [13] (fun iv wr => iv = .int .i64 0 ∧ wr = w) (fun _ _ => 0)
  case atStart => exact ⟨rfl, rfl⟩
  case round =>
    obtain ⟨rfl, rfl⟩ := hrel
    go_wp2_with fail
    go_ret
    exact ⟨rfl, rfl⟩
set_option maxRecDepth 100000 in
theorem sameVote0 (w : World) : Calls Tryz.prog 73 #[.slice none 0 0, .slice none 0 0] w fun e w' => e = .returned (.bool true) ∧ w' = w := by
  go_enter Tryz.func73, Tryz.ntmps73
  go_wp2_with fail
  go_loopw [5] (fun iv wr => iv = .int .i64 0 ∧ wr = w) (fun _ _ => 0)
  case atStart => exact ⟨rfl, rfl⟩
  case round =>
    obtain ⟨rfl, rfl⟩ := hrel
    go_wp2_with fail
    go_ret
    exact ⟨rfl, rfl⟩
set_option maxRecDepth 100000 in
set_option maxHeartbeats 2000000 in
theorem sameCert_any (x : GCert) (w : World) (h : x.stamps = ⟨none, 0, 0⟩) : Calls Tryz.prog 68 #[x.val, x.val] w fun e w' => e = .returned (.bool true) ∧ Bel w w' := by
  have c1 : get? GCert ((w.alloc (.cells (GCert.enc x).toArray 44)).alloc (.cells (GCert.enc x).toArray 44)) ⟨w.heap.size, 0, none⟩ = some x := get?_alloc _ (get?_new _ _)
  have c2 : get? GCert ((w.alloc (.cells (GCert.enc x).toArray 44)).alloc (.cells (GCert.enc x).toArray 44)) ⟨w.heap.size + 1, 0, none⟩ = some x := by
    have := get?_new (w := w.alloc (.cells (GCert.enc x).toArray 44)) 44 x
    rwa [World.size_alloc] at this
  have HB := Lib.hid (((Bel.refl w).alloc (.cells (GCert.enc x).toArray 44)).alloc (.cells (GCert.enc x).toArray 44))
  go_enter Tryz.func68, Tryz.ntmps68
  go_upto_region 1 with fail
  generalize ((w.alloc (.cells (GCert.enc x).toArray 44)).alloc (.cells (GCert.enc x).toArray 44)) = wa at c1 c2 HB ⊢
  have k0 := GCert.at_commit c1
  have k1 := GCert.at_commit c2
  have k2 := GCert.at_stamps c1
  have k3 := GCert.at_stamps c2
  simp only [Addr.add_lit, Nat.zero_add, Nat.add_zero] at k0 k1 k2 k3
  rw [h] at k2 k3
  unfold Hdr.val at k2 k3
  go_wp2_with fail
  refine (sameStamp0 wa).mono ?_
  rintro _ wa' ⟨rfl, hw⟩
  obtain rfl : wa = wa' := hw.symm
  clear hw
  go_wp2_with fail
  go_ret
  exact ⟨rfl, HB.out⟩
set_option maxRecDepth 100000 in
set_option maxHeartbeats 2000000 in
theorem samePromise_any (x : GPromise) (w : World) (h : x.certs = ⟨none, 0, 0⟩) : Calls Tryz.prog 69 #[x.val, x.val] w fun e w' => e = .returned (.bool true) ∧ Bel w w' := by
  have c1 : get? GPromise ((w.alloc (.cells (GPromise.enc x).toArray 49)).alloc (.cells (GPromise.enc x).toArray 49)) ⟨w.heap.size, 0, none⟩ = some x := get?_alloc _ (get?_new _ _)
  have c2 : get? GPromise ((w.alloc (.cells (GPromise.enc x).toArray 49)).alloc (.cells (GPromise.enc x).toArray 49)) ⟨w.heap.size + 1, 0, none⟩ = some x := by
    have := get?_new (w := w.alloc (.cells (GPromise.enc x).toArray 49)) 49 x
    rwa [World.size_alloc] at this
  have HB := Lib.hid (((Bel.refl w).alloc (.cells (GPromise.enc x).toArray 49)).alloc (.cells (GPromise.enc x).toArray 49))
  go_enter Tryz.func69, Tryz.ntmps69
  go_upto_region 1 with fail
  generalize ((w.alloc (.cells (GPromise.enc x).toArray 49)).alloc (.cells (GPromise.enc x).toArray 49)) = wa at c1 c2 HB ⊢
  have k0 := GPromise.at_replica c1
  have k1 := GPromise.at_replica c2
  have k2 := GPromise.at_epoch c1
  have k3 := GPromise.at_epoch c2
  have k4 := GPromise.at_floor c1
  have k5 := GPromise.at_floor c2
  have k6 := GPromise.at_certs c1
  have k7 := GPromise.at_certs c2
  have k8 := GPromise.at_sig c1
  have k9 := GPromise.at_sig c2
  simp only [Addr.add_lit, Nat.zero_add, Nat.add_zero] at k0 k1 k2 k3 k4 k5 k6 k7 k8 k9
  rw [h] at k6 k7
  unfold Hdr.val at k6 k7
  go_wp2_with fail
  refine (certs0 wa).mono ?_
  rintro _ wa' ⟨rfl, hw⟩
  obtain rfl : wa = wa' := hw.symm
  clear hw
  go_wp2_with fail
  go_ret
  exact ⟨rfl, HB.out⟩
set_option maxRecDepth 100000 in
set_option maxHeartbeats 2000000 in
theorem sameOpening_any (x : GOpening) (w : World) (h : x.payload = ⟨none, 0, 0⟩) : Calls Tryz.prog 71 #[x.val, x.val] w fun e w' => e = .returned (.bool true) ∧ Bel w w' := by
  have c1 : get? GOpening ((w.alloc (.cells (GOpening.enc x).toArray 63)).alloc (.cells (GOpening.enc x).toArray 63)) ⟨w.heap.size, 0, none⟩ = some x := get?_alloc _ (get?_new _ _)
  have c2 : get? GOpening ((w.alloc (.cells (GOpening.enc x).toArray 63)).alloc (.cells (GOpening.enc x).toArray 63)) ⟨w.heap.size + 1, 0, none⟩ = some x := by
    have := get?_new (w := w.alloc (.cells (GOpening.enc x).toArray 63)) 63 x
    rwa [World.size_alloc] at this
  have HB := Lib.hid (((Bel.refl w).alloc (.cells (GOpening.enc x).toArray 63)).alloc (.cells (GOpening.enc x).toArray 63))
  go_enter Tryz.func71, Tryz.ntmps71
  go_upto_region 1 with fail
  generalize ((w.alloc (.cells (GOpening.enc x).toArray 63)).alloc (.cells (GOpening.enc x).toArray 63)) = wa at c1 c2 HB ⊢
  have k0 := GOpening.at_index c1
  have k1 := GOpening.at_index c2
  have k2 := GOpening.at_payload c1
  have k3 := GOpening.at_payload c2
  have k4 := GOpening.at_nonce c1
  have k5 := GOpening.at_nonce c2
  simp only [Addr.add_lit, Nat.zero_add, Nat.add_zero] at k0 k1 k2 k3 k4 k5
  rw [h] at k2 k3
  unfold Hdr.val at k2 k3
  go_wp2_with fail
  refine (sameByte0 wa).mono ?_
  rintro _ wa' ⟨rfl, hw⟩
  obtain rfl : wa = wa' := hw.symm
  clear hw
  go_wp2_with fail
  go_ret
  exact ⟨rfl, HB.out⟩
set_option maxRecDepth 100000 in
set_option maxHeartbeats 2000000 in
theorem sameBatch_any (x : GBatch) (w : World) (h : PlainB x) : Calls Tryz.prog 72 #[x.val, x.val] w fun e w' => e = .returned (.bool true) ∧ Bel w w' := by
  have c1 : get? GBatch ((w.alloc (.cells (GBatch.enc x).toArray 54)).alloc (.cells (GBatch.enc x).toArray 54)) ⟨w.heap.size, 0, none⟩ = some x := get?_alloc _ (get?_new _ _)
  have c2 : get? GBatch ((w.alloc (.cells (GBatch.enc x).toArray 54)).alloc (.cells (GBatch.enc x).toArray 54)) ⟨w.heap.size + 1, 0, none⟩ = some x := by
    have := get?_new (w := w.alloc (.cells (GBatch.enc x).toArray 54)) 54 x
    rwa [World.size_alloc] at this
  have HB := Lib.hid (((Bel.refl w).alloc (.cells (GBatch.enc x).toArray 54)).alloc (.cells (GBatch.enc x).toArray 54))
  go_enter Tryz.func72, Tryz.ntmps72
  go_upto_region 1 with fail
  generalize ((w.alloc (.cells (GBatch.enc x).toArray 54)).alloc (.cells (GBatch.enc x).toArray 54)) = wa at c1 c2 HB ⊢
  have k0 := GBatch.at_epoch c1
  have k1 := GBatch.at_epoch c2
  have k2 := GBatch.at_time c1
  have k3 := GBatch.at_time c2
  have k4 := GBatch.at_promises c1
  have k5 := GBatch.at_promises c2
  have k6 := GBatch.at_openings c1
  have k7 := GBatch.at_openings c2
  have k8 := GBatch.at_tombs c1
  have k9 := GBatch.at_tombs c2
  simp only [Addr.add_lit, Nat.zero_add, Nat.add_zero] at k0 k1 k2 k3 k4 k5 k6 k7 k8 k9
  rw [h.p] at k4 k5
  rw [h.o] at k6 k7
  rw [h.t] at k8 k9
  unfold Hdr.val at k4 k5 k6 k7 k8 k9
  go_wp2_with fail
  refine (openings0 wa).mono ?_
  rintro _ wa' ⟨rfl, hw⟩
  obtain rfl : wa = wa' := hw.symm
  clear hw
  go_wp2_with fail
  refine (tombs0 wa).mono ?_
  rintro _ wa' ⟨rfl, hw⟩
  obtain rfl : wa = wa' := hw.symm
  clear hw
  go_wp2_with fail
  go_loopw [46] (fun iv wr => iv = .int .i64 0 ∧ wr = wa) (fun _ _ => 0)
  case atStart => exact ⟨rfl, rfl⟩
  case round =>
    obtain ⟨rfl, rfl⟩ := hrel
    go_wp2_with fail
    go_ret
    exact ⟨rfl, HB.out⟩
set_option maxRecDepth 100000 in
set_option maxHeartbeats 2000000 in
theorem sameProposal_any (x : GProposal) (w : World) (h : PlainB x.batch) : Calls Tryz.prog 70 #[x.val, x.val] w fun e w' => e = .returned (.bool true) ∧ Bel w w' := by
  have c1 : get? GProposal ((w.alloc (.cells (GProposal.enc x).toArray 56)).alloc (.cells (GProposal.enc x).toArray 56)) ⟨w.heap.size, 0, none⟩ = some x := get?_alloc _ (get?_new _ _)
  have c2 : get? GProposal ((w.alloc (.cells (GProposal.enc x).toArray 56)).alloc (.cells (GProposal.enc x).toArray 56)) ⟨w.heap.size + 1, 0, none⟩ = some x := by
    have := get?_new (w := w.alloc (.cells (GProposal.enc x).toArray 56)) 56 x
    rwa [World.size_alloc] at this
  have HB := Lib.hid (((Bel.refl w).alloc (.cells (GProposal.enc x).toArray 56)).alloc (.cells (GProposal.enc x).toArray 56))
  go_enter Tryz.func70, Tryz.ntmps70
  go_upto_region 1 with fail
  generalize ((w.alloc (.cells (GProposal.enc x).toArray 56)).alloc (.cells (GProposal.enc x).toArray 56)) = wa at c1 c2 HB ⊢
  have k0 := GProposal.at_epoch c1
  have k1 := GProposal.at_epoch c2
  have k2 := GProposal.at_round c1
  have k3 := GProposal.at_round c2
  have k4 := GProposal.at_valid c1
  have k5 := GProposal.at_valid c2
  have k6 := GProposal.at_replica c1
  have k7 := GProposal.at_replica c2
  have k8 := GProposal.at_batch c1
  have k9 := GProposal.at_batch c2
  have k10 := GProposal.at_sig c1
  have k11 := GProposal.at_sig c2
  simp only [Addr.add_lit, Nat.zero_add, Nat.add_zero] at k0 k1 k2 k3 k4 k5 k6 k7 k8 k9 k10 k11
  go_wp2_with fail
  refine (sameBatch_any x.batch wa h).mono ?_
  rintro _ wb ⟨rfl, hb⟩
  have HB2 := Lib.hid (HB.out.trans hb)
  clear hb
  go_wp2_with fail
  go_ret
  exact ⟨rfl, HB2.out⟩
set_option maxRecDepth 100000 in
set_option maxHeartbeats 8000000 in
theorem sameMsg_any (x : GMsg) (w : World) (h : PlainM x) : Calls Tryz.prog 32 #[x.val, x.val] w fun e w' => e = .returned (.bool true) ∧ Bel w w' := by
  have c1 : get? GMsg ((w.alloc (.cells (GMsg.enc x).toArray 70)).alloc (.cells (GMsg.enc x).toArray 70)) ⟨w.heap.size, 0, none⟩ = some x := get?_alloc _ (get?_new _ _)
  have c2 : get? GMsg ((w.alloc (.cells (GMsg.enc x).toArray 70)).alloc (.cells (GMsg.enc x).toArray 70)) ⟨w.heap.size + 1, 0, none⟩ = some x := by
    have := get?_new (w := w.alloc (.cells (GMsg.enc x).toArray 70)) 70 x
    rwa [World.size_alloc] at this
  have HB := Lib.hid (((Bel.refl w).alloc (.cells (GMsg.enc x).toArray 70)).alloc (.cells (GMsg.enc x).toArray 70))
  go_enter Tryz.func32, Tryz.ntmps32
  go_upto_region 1 with fail
  generalize ((w.alloc (.cells (GMsg.enc x).toArray 70)).alloc (.cells (GMsg.enc x).toArray 70)) = wa at c1 c2 HB ⊢
  obtain ⟨q, hq⟩ : ∃ q, w.heap.size = q := ⟨_, rfl⟩
  rw [hq] at c1 c2 ⊢
  clear hq
  have k0 := GMsg.at_kind c1
  have k1 := GMsg.at_from_ c1
  have k2 := GMsg.at_to c1
  have k3 := GMsg.at_commit c1
  have k4 := GMsg.at_stamp c1
  have k5 := GMsg.at_cert c1
  have k6 := GMsg.at_ack c1
  have k7 := GMsg.at_epoch c1
  have k8 := GMsg.at_round c1
  have k9 := GMsg.at_time c1
  have k10 := GMsg.at_promise c1
  have k11 := GMsg.at_proposal c1
  have k12 := GMsg.at_vote c1
  have k13 := GMsg.at_index c1
  have k14 := GMsg.at_entry c1
  have k15 := GMsg.at_opening c1
  have k16 := GMsg.at_deny c1
  have k17 := GMsg.at_reply c1
  have kd := GMsg.at_decided c1
  have k18 := GDecided.at_epoch kd
  have k19 := GDecided.at_round kd
  have k20 := GDecided.at_batch kd
  have k21 := GDecided.at_votes kd
  clear kd
  have k22 := GMsg.at_kind c2
  have k23 := GMsg.at_from_ c2
  have k24 := GMsg.at_to c2
  have k25 := GMsg.at_commit c2
  have k26 := GMsg.at_stamp c2
  have k27 := GMsg.at_cert c2
  have k28 := GMsg.at_ack c2
  have k29 := GMsg.at_epoch c2
  have k30 := GMsg.at_round c2
  have k31 := GMsg.at_time c2
  have k32 := GMsg.at_promise c2
  have k33 := GMsg.at_proposal c2
  have k34 := GMsg.at_vote c2
  have k35 := GMsg.at_index c2
  have k36 := GMsg.at_entry c2
  have k37 := GMsg.at_opening c2
  have k38 := GMsg.at_deny c2
  have k39 := GMsg.at_reply c2
  have kd := GMsg.at_decided c2
  have k40 := GDecided.at_epoch kd
  have k41 := GDecided.at_round kd
  have k42 := GDecided.at_batch kd
  have k43 := GDecided.at_votes kd
  clear kd
  simp only [Addr.add_lit, Nat.zero_add, Nat.add_zero] at k0 k1 k2 k3 k4 k5 k6 k7 k8 k9 k10 k11 k12 k13 k14 k15 k16 k17 k18 k19 k20 k21 k22 k23 k24 k25 k26 k27 k28 k29 k30 k31 k32 k33 k34 k35 k36 k37 k38 k39 k40 k41 k42 k43
  rw [h.v] at k21 k43
  unfold Hdr.val at k21 k43
  clear c1 c2
  go_wp2_with fail
  refine (sameCert_any x.cert wa h.c).mono ?_
  rintro _ wb ⟨rfl, hb⟩
  have HB2 := Lib.hid (HB.out.trans hb)
  have k6 := GB.get hb k6
  have k28 := GB.get hb k28
  have k7 := GB.cell hb k7
  have k29 := GB.cell hb k29
  have k8 := GB.cell hb k8
  have k30 := GB.cell hb k30
  have k9 := GB.cell hb k9
  have k31 := GB.cell hb k31
  have k10 := GB.get hb k10
  have k32 := GB.get hb k32
  have k11 := GB.get hb k11
  have k33 := GB.get hb k33
  have k12 := GB.get hb k12
  have k34 := GB.get hb k34
  have k13 := GB.cell hb k13
  have k35 := GB.cell hb k35
  have k14 := GB.get hb k14
  have k36 := GB.get hb k36
  have k15 := GB.get hb k15
  have k37 := GB.get hb k37
  have k16 := GB.get hb k16
  have k38 := GB.get hb k38
  have k17 := GB.cell hb k17
  have k39 := GB.cell hb k39
  have k18 := GB.cell hb k18
  have k40 := GB.cell hb k40
  have k19 := GB.cell hb k19
  have k41 := GB.cell hb k41
  have k20 := GB.get hb k20
  have k42 := GB.get hb k42
  have k21 := GB.cell hb k21
  have k43 := GB.cell hb k43
  clear hb HB
  go_wp2_with fail
  refine (samePromise_any x.promise wb h.p).mono ?_
  rintro _ wc ⟨rfl, hb⟩
  have HB22 := Lib.hid (HB2.out.trans hb)
  have k11 := GB.get hb k11
  have k33 := GB.get hb k33
  have k12 := GB.get hb k12
  have k34 := GB.get hb k34
  have k13 := GB.cell hb k13
  have k35 := GB.cell hb k35
  have k14 := GB.get hb k14
  have k36 := GB.get hb k36
  have k15 := GB.get hb k15
  have k37 := GB.get hb k37
  have k16 := GB.get hb k16
  have k38 := GB.get hb k38
  have k17 := GB.cell hb k17
  have k39 := GB.cell hb k39
  have k18 := GB.cell hb k18
  have k40 := GB.cell hb k40
  have k19 := GB.cell hb k19
  have k41 := GB.cell hb k41
  have k20 := GB.get hb k20
  have k42 := GB.get hb k42
  have k21 := GB.cell hb k21
  have k43 := GB.cell hb k43
  clear hb HB2
  go_wp2_with fail
  refine (sameProposal_any x.proposal wc h.b).mono ?_
  rintro _ wd ⟨rfl, hb⟩
  have HB222 := Lib.hid (HB22.out.trans hb)
  have k12 := GB.get hb k12
  have k34 := GB.get hb k34
  have k13 := GB.cell hb k13
  have k35 := GB.cell hb k35
  have k14 := GB.get hb k14
  have k36 := GB.get hb k36
  have k15 := GB.get hb k15
  have k37 := GB.get hb k37
  have k16 := GB.get hb k16
  have k38 := GB.get hb k38
  have k17 := GB.cell hb k17
  have k39 := GB.cell hb k39
  have k18 := GB.cell hb k18
  have k40 := GB.cell hb k40
  have k19 := GB.cell hb k19
  have k41 := GB.cell hb k41
  have k20 := GB.get hb k20
  have k42 := GB.get hb k42
  have k21 := GB.cell hb k21
  have k43 := GB.cell hb k43
  clear hb HB22
  go_wp2_with fail
  refine (sameOpening_any x.opening wd h.o).mono ?_
  rintro _ we ⟨rfl, hb⟩
  have HB2222 := Lib.hid (HB222.out.trans hb)
  have k16 := GB.get hb k16
  have k38 := GB.get hb k38
  have k17 := GB.cell hb k17
  have k39 := GB.cell hb k39
  have k18 := GB.cell hb k18
  have k40 := GB.cell hb k40
  have k19 := GB.cell hb k19
  have k41 := GB.cell hb k41
  have k20 := GB.get hb k20
  have k42 := GB.get hb k42
  have k21 := GB.cell hb k21
  have k43 := GB.cell hb k43
  clear hb HB222
  go_wp2_with fail
  refine (sameBatch_any x.decided.batch we h.d).mono ?_
  rintro _ wf ⟨rfl, hb⟩
  have HB22222 := Lib.hid (HB2222.out.trans hb)
  have k21 := GB.cell hb k21
  have k43 := GB.cell hb k43
  clear hb HB2222
  go_wp2_with fail
  refine (sameVote0 wf).mono ?_
  rintro _ wf' ⟨rfl, hw⟩
  obtain rfl : wf = wf' := hw.symm
  clear hw
  go_wp2_with fail
  go_ret
  exact ⟨rfl, HB22222.out⟩
end Go.Proofs.YtfhhcgldikmejaaGreatDoor
/- Two lists of plain messages that are alike are the same. Conditions: those named in each theorem. -/
namespace Go.Proofs.YtfhhcgldikmejaaGreatDoor
open Go Go.RowKit Go.Gv Go.Proofs

set_option maxRecDepth 100000 in
set_option maxHeartbeats 4000000 in
theorem sameMsgs_any (A A' : Option Addr) (n c c' : Nat) (ys : List GMsg) (w : World) (hx : Sl GMsg w w.heap.size A n ys) (hy : Sl GMsg w w.heap.size A' n ys) (hp : ∀ m ∈ ys, PlainM m) (hn : n ≤ 1000) :
    Calls Tryz.prog 14 #[.slice A n c, .slice A' n c'] w fun e w' => e = .returned (.bool true) ∧ Bel w w' := by
  have HX := Lib.hid hx; have HY := Lib.hid hy; have HP := Lib.hid hp
  clear hx hy hp
  go_enter Tryz.func14, Tryz.ntmps14
  go_wp2_with fail
  go_loopw [13] (fun iv wr => ∃ k : Nat, k ≤ n ∧ iv = .int .i64 k ∧ Hid (Bel w wr)) (fun iv _ => n - (intOf iv).toNat)
  case atStart => exact ⟨0, by omega, rfl, Lib.hid (Bel.refl _)⟩
  case round =>
    obtain ⟨k, hk, rfl, hb⟩ := hrel
    by_cases hlt : k < n
    · obtain ⟨ad, x, rfl, _, hx0, hg⟩ := (HX.out.stepB hb.out).at_ (k := k) hlt
      obtain ⟨ad', y, rfl, _, hy0, hg'⟩ := (HY.out.stepB hb.out).at_ (k := k) hlt
      obtain rfl : x = y := by rw [hx0] at hy0; injection hy0
      have hpl := HP.out x (List.mem_of_getElem? hx0)
      rw [show Enc.n GMsg = 295 from rfl] at hg hg'
      clear hx0 hy0
      go_wp2_with fail
      refine wp_region_G GB [] GB.rf (by kernel_rfl) ?_
      refine wpG_looks 2 24 [0, 1, 2, 3, 4, 5, 6, 7] rfl GB.rf GB.tr (by kernel_rfl) (fun _ _ _ _ hd h => And.intro (hd ▸ And.left h) (And.right h)) rfl (by kernel_rfl) ?_
      intro ι W9 hne CW
      have y0 := fun z => GB.get (CW.out z) hg
      have y1 := fun z => GB.get (CW.out z) hg'
      repeat (refine wpLooksG_step (fun K hK => ?_); go_simp; refine hK _ ?_; clear hK K)
      refine wpLooksG_nil ?_
      clear y0 y1 CW hne W9 ι
      refine wpG_force 8 _ rfl (by kernel_rfl) rfl fun wa hwa K hK => ?_
      go_simp
      refine (sameMsg_any x wa hpl).mono ?_
      rintro _ wb ⟨rfl, hbb⟩
      refine hK _ _ (fun _ => hbb) ?_
      have HB1 := Lib.hid (hb.out.trans ((GB.undrew hwa).trans hbb))
      clear hK K hbb hwa
      refine wpG_force 9 _ rfl (by kernel_rfl) rfl fun wa' hwa' K hK => ?_
      go_simp
      refine hK _ _ (fun _ => GB.rf _) ?_
      clear hK K
      refine wpG_end (by kernel_rfl) (fun wn hwn => ?_) _
      have HB2 := Lib.hid (HB1.out.trans (GB.tr _ _ _ hwa' hwn))
      clear hwn hwa'
      go_wp2_with fail
      exact ⟨⟨k + 1, by omega, by go_num, HB2⟩, by simp only [intOf]; omega⟩
    · obtain rfl : k = n := by omega
      go_wp2_with fail
      go_ret
      exact ⟨rfl, hb.out⟩
end Go.Proofs.YtfhhcgldikmejaaGreatDoor
/- The first proposer says again that it waits: the law's walk. Conditions: those named in each theorem. -/
namespace Go.Proofs.YtfhhcgldikmejaaGreatDoor
open Go Go.RowKit Go.Gv Go.Proofs

theorem mod_yes {n : Nat} (h : n % 10 = 0) : ((n : Int) % 10 == 0) = true := by
  rw [beq_iff_eq]; omega
theorem mod_no {n : Nat} (h : n % 10 ≠ 0) : ((n : Int) % 10 == 0) = false := by
  rw [beq_eq_false_iff_ne]; omega
theorem wrap1 {n : Nat} (h : n ≤ 1000) : IntKind.i64.wrap ((n : Int) + 1) = ((n + 1 : Nat) : Int) := by
  rw [IntWalk.i64_in _ (by omega)]; rfl
set_option maxRecDepth 100000 in
set_option maxHeartbeats 16000000 in
theorem againP_any (id ticks : Int) (w : World) (hi1 : -9223372036854775808 ≤ id) (hi2 : id ≤ 9223372036854775807) (ht1 : -9223372036854775808 ≤ ticks) (ht2 : ticks ≤ 9223372036854775807) (hq : within id 4 = 0) :
    Calls Tryz.prog 4 #[.int .i64 id, .int .i64 ticks] w fun e w' => e = .returned (.bool true) ∧ Bel w w' := by
  obtain ⟨r1, hr1', hlt1⟩ := within_nat ticks 25 (by omega)
  have HW1 := Lib.hid (fun w => within_is ticks 25 r1 w (by exact_mod_cast hr1') (by omega) ht1 ht2)
  have HW2 := Lib.hid (fun w => within_is id 4 0 w hq (by omega) hi1 hi2)
  clear hr1' hq ht1 ht2 hi1 hi2
  have c1 : get? GConf (w.alloc (.cells (GConf.enc ⟨1, 1⟩).toArray 24)) ⟨w.heap.size, 0, none⟩ = some ⟨1, 1⟩ := get?_new _ _
  have HB1 := Lib.hid ((Bel.refl w).alloc (.cells (GConf.enc ⟨1, 1⟩).toArray 24))
  go_enter Tryz.func4, Tryz.ntmps4
  go_wp2_with fail
  refine (HW2.out _).mono ?_
  rintro _ w0' ⟨rfl, hw⟩
  obtain rfl : _ = w0' := hw.symm
  clear hw
  go_wp2_with fail
  refine (startP_any ⟨1, 1⟩ 0 1 _ (by decide) rfl (by omega) rfl (by omega) (by omega)).mono ?_
  rintro _ w1 ⟨B, rfl, r, hr, -, -⟩
  generalize w.alloc (.cells (GConf.enc ⟨1, 1⟩).toArray 24) = wS at HB1 c1 hr ⊢
  have HR1 := Lib.hid (show RepIs wS w1 B (askN r 0) from hr)
  clear hr c1
  go_wp2_with fail
  refine (HW1.out _).mono ?_
  rintro _ w1' ⟨rfl, hw⟩
  obtain rfl : w1 = w1' := hw.symm
  clear hw
  obtain ⟨tk, htk⟩ : ∃ tk, 1 + r1 = tk := ⟨_, rfl⟩
  have ek : IntKind.i64.wrap (1 + (r1 : Int)) = (tk : Int) := by rw [IntWalk.i64_in _ (by omega)]; omega
  have HTK := Lib.hid (show tk ≤ 25 by omega)
  clear htk hlt1
  go_wp2_with fail
  clear ek
  go_loopw [9] (fun iv wr => ∃ k n : Nat, n = k + 1 ∧ k ≤ tk ∧ iv = .int .i64 (n : Int) ∧ Hid (RepIs wS wr B (askN r k))) (fun iv _ => tk + 1 - (intOf iv).toNat)
  case atStart => exact ⟨0, 1, rfl, Nat.zero_le _, rfl, HR1⟩
  case round =>
    obtain ⟨k, n, hn, hk, rfl, hr⟩ := hrel
    have HN := Lib.hid hn
    clear hn
    by_cases hlt : n ≤ tk
    · have hlt2 : (n : Int) ≤ (tk : Int) := by omega
      have hw1 := wrap1 (n := n) (by have := HTK.out; omega)
      by_cases hm : n % 10 = 0
      · have hmy := mod_yes hm
        go_wp2_with fail
        refine (doAskYes_any wS B r k wr hr.out (by have := HTK.out; omega) (by rw [← HN.out]; exact hm)).mono ?_
        rintro _ w2 ⟨ho, rfl, hr2, hown⟩
        rw [show toAll 0 (closeM 0 1) 4 = [sent 0 1 (closeM 0 1), sent 0 2 (closeM 0 1), sent 0 3 (closeM 0 1)] from rfl] at hown
        obtain ⟨g, cap, rfl, hcap, hg, -⟩ := told_first hown
        have k0 := GMsg.at_kind hg
        simp only [Addr.add_lit, Nat.zero_add] at k0
        change w2.cell? ⟨g, 0, none⟩ = some (.int .i64 5) at k0
        have HR2 := Lib.hid hr2
        clear hr2 hown hg hr hm
        go_wp2_with fail
        go_roundw
        case rel => exact ⟨n, n + 1, rfl, hlt, rfl, by have := HR2; rw [← HN.out] at this; exact this⟩
        case measure => simp [intOf] <;> omega
      · have hmn := mod_no hm
        go_wp2_with fail
        refine (doAskNo_any wS B r k wr hr.out (by have := HTK.out; omega) (by rw [← HN.out]; exact hm)).mono ?_
        rintro _ w2 ⟨ho, rfl, hr2, hown⟩
        have hl0 := told_none hown
        have HR2 := Lib.hid hr2
        obtain ⟨a1, n1, c1⟩ := ho
        have hl0 : n1 = 0 := hl0
        subst hl0
        clear hr2 hown hr hm
        go_wp2_with fail
        go_roundw
        case rel => exact ⟨n, n + 1, rfl, hlt, rfl, by have := HR2; rw [← HN.out] at this; exact this⟩
        case measure => simp [intOf] <;> omega
    · have hlt2 : ¬ (n : Int) ≤ (tk : Int) := by omega
      obtain rfl : k = tk := by have := HN.out; omega
      have g4 : IntKind.u64.wrap (k : Int) = (k : Int) := IntWalk.u64_in _ (by have := HTK.out; omega)
      go_wp2_with fail
      refine (repNow_any wS B (askN r k) wr hr.out).mono ?_
      rintro _ w3 ⟨rfl, hw⟩
      obtain rfl : wr = w3 := hw.symm
      clear hw
      rw [show (askN r k).now = (k : Int) from rfl]
      go_wp2_with fail
      refine (wakes_any wr).mono ?_
      rintro _ w4 ⟨rfl, hb⟩
      have HB4 := Lib.hid (HB1.out.trans (hr.out.bel.trans hb))
      clear hb
      go_wp2_with fail
      go_ret
      exact ⟨rfl, HB4.out⟩
end Go.Proofs.YtfhhcgldikmejaaGreatDoor
/- A replica that waits votes, and says its vote again: the law's walk. Conditions: those named in each theorem. -/
namespace Go.Proofs.YtfhhcgldikmejaaGreatDoor
open Go Go.RowKit Go.Gv Go.Proofs

set_option maxRecDepth 100000 in
set_option maxHeartbeats 16000000 in
theorem againO_any (id ticks : Int) (w : World) (hi1 : -9223372036854775808 ≤ id) (hi2 : id ≤ 9223372036854775807) (ht1 : -9223372036854775808 ≤ ticks) (ht2 : ticks ≤ 9223372036854775807) (qi : Nat) (hq : within id 4 = (qi : Int)) (hq1 : 1 ≤ qi) (hq2 : qi < 4) :
    Calls Tryz.prog 4 #[.int .i64 id, .int .i64 ticks] w fun e w' => e = .returned (.bool true) ∧ Bel w w' := by
  obtain ⟨r1, hr1', hlt1⟩ := within_nat ticks 25 (by omega)
  have HW1 := Lib.hid (fun w => within_is ticks 25 r1 w (by exact_mod_cast hr1') (by omega) ht1 ht2)
  have HW2 := Lib.hid (fun w => within_is id 4 qi w hq (by omega) hi1 hi2)
  clear hr1' hq ht1 ht2 hi1 hi2
  have c1 : get? GConf (w.alloc (.cells (GConf.enc ⟨1, 1⟩).toArray 24)) ⟨w.heap.size, 0, none⟩ = some ⟨1, 1⟩ := get?_new _ _
  have HB1 := Lib.hid ((Bel.refl w).alloc (.cells (GConf.enc ⟨1, 1⟩).toArray 24))
  go_enter Tryz.func4, Tryz.ntmps4
  go_wp2_with fail
  refine (HW2.out _).mono ?_
  rintro _ w0' ⟨rfl, hw⟩
  obtain rfl : _ = w0' := hw.symm
  clear hw
  go_wp2_with fail
  refine (startO_any ⟨1, 1⟩ qi 1 _ (by unfold mayR validB inB; simp; omega) (by omega) (by omega) rfl (by omega) (by omega)).mono ?_
  rintro _ w1 ⟨B, rfl, r, hr, hF, hB20⟩
  generalize w.alloc (.cells (GConf.enc ⟨1, 1⟩).toArray 24) = wS at HB1 c1 hr ⊢
  have HR1 := Lib.hid (show RepIs wS w1 B (waitN qi r 0) from hr)
  have HF := Lib.hid hF; have HB20 := Lib.hid hB20
  have hid0 : ((qi : Int) == 0) = false := by rw [beq_eq_false_iff_ne]; omega
  clear hr c1 hF hB20
  go_wp2_with fail
  refine (HW1.out _).mono ?_
  rintro _ w1' ⟨rfl, hw⟩
  obtain rfl : w1 = w1' := hw.symm
  clear hw
  obtain ⟨tk, htk⟩ : ∃ tk, 1 + r1 = tk := ⟨_, rfl⟩
  have ek : IntKind.i64.wrap (1 + (r1 : Int)) = (tk : Int) := by rw [IntWalk.i64_in _ (by omega)]; omega
  have HTK := Lib.hid (show tk ≤ 25 by omega)
  clear htk hlt1
  go_wp2_with fail
  clear ek
  go_loopw [9] (fun iv wr => ∃ k n : Nat, n = k + 1 ∧ k ≤ tk ∧ iv = .int .i64 (n : Int) ∧ ((k < 10 ∧ Hid (RepIs wS wr B (waitN qi r k))) ∨ (10 ≤ k ∧ ∃ o p, Hid (RepIs wS wr B (votedN B qi r o p k))))) (fun iv _ => tk + 1 - (intOf iv).toNat)
  case atStart => exact ⟨0, 1, rfl, Nat.zero_le _, rfl, .inl ⟨by omega, HR1⟩⟩
  case round =>
    obtain ⟨k, n, hn, hk, rfl, hr⟩ := hrel
    have HN := Lib.hid hn
    clear hn
    by_cases hlt : n ≤ tk
    · have hlt2 : (n : Int) ≤ (tk : Int) := by omega
      have hw1 := wrap1 (n := n) (by have := HTK.out; omega)
      rcases hr with ⟨hk9, hr⟩ | ⟨hk10, o, p, hr⟩
      · by_cases h9 : k = 9
        · subst h9
          have hn10 : n = 10 := HN.out
          subst hn10
          go_wp2_with fail
          refine (doDue_any wS B qi r wr hr.out ⟨by omega, by omega⟩ HF.out HB20.out).mono ?_
          rintro _ w2 ⟨ho, rfl, ⟨o, p, hr2⟩, hown⟩
          obtain ⟨ta, tb, tc, ht3⟩ := toAll3 qi (voteM (vV qi)) ⟨by omega, by omega⟩
          have HPL := Lib.hid (show ∀ m ∈ [sent qi ta (voteM (vV qi)), sent qi tb (voteM (vV qi)), sent qi tc (voteM (vV qi))], PlainM m from fun m hm => by
            simp only [List.mem_cons, List.not_mem_nil, or_false] at hm
            rcases hm with rfl | rfl | rfl
            · exact plain_sent (voteM_plain _) _ _
            · exact plain_sent (voteM_plain _) _ _
            · exact plain_sent (voteM_plain _) _ _)
          rw [ht3] at hown
          obtain ⟨g, cap, rfl, hcap, hg, hsl⟩ := told_first (l := [sent qi tb (voteM (vV qi)), sent qi tc (voteM (vV qi)), sent qi ta (voteM (vV qi)), sent qi tb (voteM (vV qi)), sent qi tc (voteM (vV qi))]) hown
          simp only [List.length_cons, List.length_nil, Nat.zero_add] at hcap hsl
          have hs1 := hsl.take (k := 3) (by omega)
          obtain ⟨ad, hade, hs2⟩ := hsl.drop (k := 3) (by omega)
          injection hade with hade
          subst hade
          simp only [List.take_succ_cons, List.take_zero] at hs1
          simp only [List.drop_succ_cons, List.drop_zero, Addr.add_lit, Nat.zero_add, show Enc.n GMsg = 295 from rfl] at hs2
          have HS1 := Lib.hid hs1; have HS2 := Lib.hid hs2; have HG := Lib.hid hg
          have hc3 : ¬ cap = 3 := by omega
          have hc6 : (6 : Int) ≤ (cap : Int) := by omega
          have HR2 := Lib.hid hr2
          clear hr2 hown hg hr hs1 hs2 hsl ht3
          go_wp2_with fail
          have q0 := GMsg.at_kind HG.out
          have q1 := GVote.at_hash (GMsg.at_vote HG.out)
          simp only [Addr.add_lit, Nat.zero_add, Nat.reduceAdd] at q0 q1
          have Q0 := Lib.hid (show w2.cell? ⟨g, 0, none⟩ = some (.int .i64 8) from q0)
          change get? GHash w2 _ = some (default : GHash) at q1
          have Q1 := Lib.hid q1
          have hc3i : (3 : Int) ≤ (cap : Int) := by omega
          clear q0 q1 hw1 hid0
          refine wp_region_G GB [] GB.rf (by kernel_rfl) ?_
          refine wpG_looks 0 28 [0, 1, 2, 3, 4, 5, 6, 7, 8, 9, 10, 11, 12, 13, 14, 15, 16, 17, 18, 19, 20, 21, 22, 23, 24, 25, 26] rfl GB.rf GB.tr (by kernel_rfl) (fun _ _ _ _ hd h => And.intro (hd ▸ And.left h) (And.right h)) rfl (by kernel_rfl) ?_
          intro ι W hne CW
          have CB := Lib.hid (show ∀ z, Bel w2 (W z) from fun z => GB.undrew (CW.out z))
          have k0 : ∀ z, (W z).cell? ⟨g, 0, none⟩ = some (.int .i64 8) := fun z => GB.cell (CB.out z) Q0.out
          have k1 := fun z => GB.get (CB.out z) Q1.out
          iterate 24 (refine wpLooksG_step (fun K hK => ?_); go_simp; refine hK _ ?_; clear hK K)
          refine wpLooksG_step (fun K hK => ?_)
          go_simp
          refine ⟨_, fun z => sameMsgs_any _ _ 3 _ _ _ (W z) (HS1.out.stepB (CB.out z)) (HS2.out.stepB (CB.out z)) HPL.out (by omega), hK _ ?_⟩
          clear hK K
          repeat (refine wpLooksG_step (fun K hK => ?_); go_simp; refine hK _ ?_; clear hK K)
          refine wpLooksG_nil ?_
          clear k0 k1 CB CW hne W ι
          refine wpG_end (by kernel_rfl) (fun wb hwb => ?_) _
          have HRB := Lib.hid (HR2.out.step (GB.undrew hwb))
          have hw1 := wrap1 (n := 10) (by omega)
          clear hwb
          go_wp2_with fail
          go_roundw
          case rel => exact ⟨10, 11, rfl, hlt, rfl, .inr ⟨by omega, o, p, HRB⟩⟩
          case measure => simp [intOf] <;> omega
        · have hm : n % 10 ≠ 0 := by have := HN.out; omega
          have hmn := mod_no hm
          have hn10 : ((n : Int) == 10) = false := by rw [beq_eq_false_iff_ne]; omega
          go_wp2_with fail
          refine (doWaitNo_any wS B qi r k wr hr.out (by omega)).mono ?_
          rintro _ w2 ⟨ho, rfl, hr2, hown⟩
          have hl0 := told_none hown
          have HR2 := Lib.hid hr2
          obtain ⟨a1, n1, c1⟩ := ho
          have hl0 : n1 = 0 := hl0
          subst hl0
          clear hr2 hown hr hm
          go_wp2_with fail
          go_roundw
          case rel => exact ⟨n, n + 1, rfl, hlt, rfl, .inl ⟨by have := HN.out; omega, by have := HR2; rw [← HN.out] at this; exact this⟩⟩
          case measure => simp [intOf] <;> omega
      · have hn10 : ((n : Int) == 10) = false := by rw [beq_eq_false_iff_ne]; have := HN.out; omega
        by_cases hm : n % 10 = 0
        · have hmy := mod_yes hm
          go_wp2_with fail
          refine (doVotedYes_any wS B qi r o p k wr hr.out (by have := HTK.out; omega) (by rw [← HN.out]; exact hm)).mono ?_
          rintro _ w2 ⟨ho, rfl, hr2, hown⟩
          obtain ⟨ta, tb, tc, ht3⟩ := toAll3 qi (voteM (vV qi)) ⟨by omega, by omega⟩
          rw [ht3] at hown
          obtain ⟨g, cap, rfl, hcap, hg, -⟩ := told_first hown
          have k0 := GMsg.at_kind hg
          simp only [Addr.add_lit, Nat.zero_add] at k0
          change w2.cell? ⟨g, 0, none⟩ = some (.int .i64 8) at k0
          have HR2 := Lib.hid hr2
          clear hr2 hown hg hr hm ht3
          go_wp2_with fail
          go_roundw
          case rel => exact ⟨n, n + 1, rfl, hlt, rfl, .inr ⟨by have := HN.out; omega, o, p, by have := HR2; rw [← HN.out] at this; exact this⟩⟩
          case measure => simp [intOf] <;> omega
        · have hmn := mod_no hm
          go_wp2_with fail
          refine (doVotedNo_any wS B qi r o p k wr hr.out (by have := HTK.out; omega) (by rw [← HN.out]; exact hm)).mono ?_
          rintro _ w2 ⟨ho, rfl, hr2, hown⟩
          have hl0 := told_none hown
          have HR2 := Lib.hid hr2
          obtain ⟨a1, n1, c1⟩ := ho
          have hl0 : n1 = 0 := hl0
          subst hl0
          clear hr2 hown hr hm
          go_wp2_with fail
          go_roundw
          case rel => exact ⟨n, n + 1, rfl, hlt, rfl, .inr ⟨by have := HN.out; omega, o, p, by have := HR2; rw [← HN.out] at this; exact this⟩⟩
          case measure => simp [intOf] <;> omega
    · have hlt2 : ¬ (n : Int) ≤ (tk : Int) := by omega
      obtain rfl : k = tk := by have := HN.out; omega
      have g4 : IntKind.u64.wrap (k : Int) = (k : Int) := IntWalk.u64_in _ (by have := HTK.out; omega)
      have hfin : ∀ x : RSt, x.now = (k : Int) → RepIs wS wr B x → Calls Tryz.prog 15 #[.pointer (some ⟨B 0, 0, none⟩)] wr fun e w' => e = .returned (.int .u64 (k : Int)) ∧ w' = wr := fun x hx h => by
        have := repNow_any wS B x wr h
        rw [hx] at this
        exact this
      have hnow : Calls Tryz.prog 15 #[.pointer (some ⟨B 0, 0, none⟩)] wr fun e w' => e = .returned (.int .u64 (k : Int)) ∧ w' = wr := by
        rcases hr with ⟨_, h⟩ | ⟨_, o, p, h⟩
        · exact hfin _ rfl h.out
        · exact hfin _ rfl h.out
      have hbw : Bel wS wr := by
        rcases hr with ⟨_, h⟩ | ⟨_, o, p, h⟩
        · exact h.out.bel
        · exact h.out.bel
      have HNOW := Lib.hid hnow; have HBW := Lib.hid hbw
      clear hr hfin hnow hbw
      go_wp2_with fail
      refine HNOW.out.mono ?_
      rintro _ w3 ⟨rfl, hw⟩
      obtain rfl : wr = w3 := hw.symm
      clear hw
      go_wp2_with fail
      refine (wakes_any wr).mono ?_
      rintro _ w4 ⟨rfl, hb⟩
      have HB4 := Lib.hid (HB1.out.trans (HBW.out.trans hb))
      clear hb
      go_wp2_with fail
      go_ret
      exact ⟨rfl, HB4.out⟩
end Go.Proofs.YtfhhcgldikmejaaGreatDoor
/- What it said of its round a replica says again: the law's walk. Conditions: those named in each theorem. -/
namespace Go.Proofs.YtfhhcgldikmejaaGreatDoor
open Go Go.RowKit Go.Gv Go.Proofs

theorem again_law (id ticks : Int) (w : World) (hi1 : -9223372036854775808 ≤ id) (hi2 : id ≤ 9223372036854775807) (ht1 : -9223372036854775808 ≤ ticks) (ht2 : ticks ≤ 9223372036854775807) :
    Calls Tryz.prog 4 #[.int .i64 id, .int .i64 ticks] w fun e w' => e = .returned (.bool true) ∧ Bel w w' := by
  obtain ⟨qi, hq, hlt⟩ := within_nat id 4 (by omega)
  by_cases h0 : qi = 0
  · exact againP_any id ticks w hi1 hi2 ht1 ht2 (by rw [h0] at hq; exact_mod_cast hq)
  · exact againO_any id ticks w hi1 hi2 ht1 ht2 qi (by exact_mod_cast hq) (by omega) hlt
end Go.Proofs.YtfhhcgldikmejaaGreatDoor
/- Arguments that came in read as Lean values; the frame of a law that returns true. Conditions: those named in each theorem. -/
namespace Go.Gv
open Go Go.RowKit

/-- What an argument's cells read as, for a type whose values have an encoding. -/
def Opens (P : Program) (W : World) (t : TypeId) (α : Type) [Enc α] (Ok : α → Prop) : Prop :=
  ∀ (H : Type) (enc : TypeId × Value → H) (fuel : Nat) (cs : List Value) (x : DataW H × List MemPlace), DataW.trod enc P W 0 (fun _ => true) true fuel t cs = some x → ∃ y : α, cs = Enc.enc y ∧ Ok y

def FitI (k : IntKind) (n : Int) : Prop := (Lit.int k n).wf = true
theorem FitI.i64 {n : Int} (h : FitI .i64 n) : -9223372036854775808 ≤ n ∧ n ≤ 9223372036854775807 := by
  have h := (Lit.wf_int_iff _ _).1 h
  have e1 : IntKind.i64.min = -9223372036854775808 := rfl
  have e2 : IntKind.i64.max = 9223372036854775807 := rfl
  omega
theorem FitI.u64 {n : Int} (h : FitI .u64 n) : 0 ≤ n ∧ n ≤ 18446744073709551615 := by
  have h := (Lit.wf_int_iff _ _).1 h
  have e1 : IntKind.u64.min = 0 := rfl
  have e2 : IntKind.u64.max = 18446744073709551615 := rfl
  omega
theorem FitI.u8 {n : Int} (h : FitI .u8 n) : 0 ≤ n ∧ n ≤ 255 := by
  have h := (Lit.wf_int_iff _ _).1 h
  have e1 : IntKind.u8.min = 0 := rfl
  have e2 : IntKind.u8.max = 255 := rfl
  omega

section
variable {P : Program} {W : World} {t e : TypeId}
theorem opens_i64 (ht : P.underlying t = some (.int .i64)) : Opens P W t I64 (fun x => FitI .i64 x.v) := fun H enc fuel cs x h => by
  obtain ⟨n, rfl, _, hw⟩ := DataW.trod_int ht h
  exact ⟨⟨n⟩, rfl, hw⟩
theorem opens_u64 (ht : P.underlying t = some (.int .u64)) : Opens P W t U64 (fun x => FitI .u64 x.v) := fun H enc fuel cs x h => by
  obtain ⟨n, rfl, _, hw⟩ := DataW.trod_int ht h
  exact ⟨⟨n⟩, rfl, hw⟩
theorem opens_bool (ht : P.underlying t = some .bool) : Opens P W t BoolV (fun _ => True) := fun H enc fuel cs x h => by
  obtain ⟨b, rfl, _⟩ := DataW.trod_bool ht h
  exact ⟨⟨b⟩, rfl, trivial⟩
theorem opens_string (ht : P.underlying t = some .string) : Opens P W t StrV (fun x => x.v.size ≤ maxLen) := fun H enc fuel cs x h => by
  obtain ⟨s, rfl, _, hs⟩ := DataW.trod_string ht h
  exact ⟨⟨s⟩, rfl, hs⟩
theorem u8_of {n : Int} (h : FitI .u8 n) : ∃ b : UInt8, Value.int .u8 n = encU8 b := by
  have := FitI.u8 h
  refine ⟨UInt8.ofNat n.toNat, ?_⟩
  unfold encU8
  congr 1
  rw [UInt8.toNat_ofNat']
  omega
theorem opens_u8 (ht : P.underlying t = some (.int .u8)) : Opens P W t U8 (fun _ => True) := fun H enc fuel cs x h => by
  obtain ⟨n, rfl, _, hw⟩ := DataW.trod_int ht h
  obtain ⟨b, hb⟩ := u8_of hw
  exact ⟨⟨b⟩, by rw [hb]; rfl, trivial⟩
theorem bytes_of : ∀ (cs : List Value), (∀ v ∈ cs, ∃ b : UInt8, v = encU8 b) → ∃ l : List UInt8, cs = l.map encU8
  | [], _ => ⟨[], rfl⟩
  | v :: cs, h => by
    obtain ⟨b, rfl⟩ := h v (by simp)
    obtain ⟨l, rfl⟩ := bytes_of cs fun v hv => h v (by simp [hv])
    exact ⟨b :: l, rfl⟩
theorem opens_hash {t8 : TypeId} (ht : P.underlying t = some (.array 32 t8)) (hs : P.cellsOf t = 32) (h8 : P.underlying t8 = some (.int .u8)) (hs8 : P.cellsOf t8 = 1) : Opens P W t GHash (fun _ => True) := fun H enc fuel cs x h => by
  obtain ⟨xs, m, _, _, hl, hxl, hx⟩ := DataW.trod_array ht h
  rw [hs] at hl
  obtain ⟨l, hl'⟩ := bytes_of cs fun v hv => by
    obtain ⟨i, hi, rfl⟩ := List.mem_iff_getElem.1 hv
    have h1 := hx i (by omega)
    rw [hs8, Nat.mul_one, List.getElem?_eq_getElem (by omega), List.drop_eq_getElem_cons hi] at h1
    obtain ⟨n, e, _, hw⟩ := DataW.trod_int h8 h1
    injection e with e _
    rw [e]; exact u8_of hw
  subst hl'
  exact ⟨⟨l, by simpa using hl⟩, rfl, trivial⟩
/-- A slice's own cells, its elements read as values of α. -/
def SlOk (W : World) (α : Type) [Enc α] (Ok : α → Prop) (h : Hdr) : Prop := ∃ xs : List α, Sl α W W.heap.size h.a h.len xs ∧ (∀ x ∈ xs, Ok x) ∧ h.len ≤ h.cap ∧ h.cap ≤ maxLen
theorem opens_slice {α : Type} [Enc α] {Ok : α → Prop} (ht : P.underlying t = some (.slice e)) (hc : P.cellsOf e = Enc.n α) (he : Opens P W e α Ok) : Opens P W t Hdr (SlOk W α Ok) := fun H enc fuel cs x h => by
  rcases DataW.trod_slice ht h with ⟨rfl, _⟩ | ⟨a, len, cap, elems, rest, n, _, rfl, _, _, hl, hm, hlen, hel, hsp⟩
  · exact ⟨⟨none, 0, 0⟩, rfl, [], Sl.nil, by simp, by simp, by simp⟩
  · rw [hc] at hel
    have key : ∀ k, k < len → ∃ y : α, get? α W (a.add (k * Enc.n α)) = some y ∧ Ok y := by
      intro k hk
      have h1 := hel k hk
      rw [List.getElem?_eq_getElem (by omega)] at h1
      obtain ⟨cs', h2, h3⟩ := Option.bind_eq_some_iff.1 h1
      obtain ⟨_, h4, h5⟩ := World.cells?_some h2
      obtain ⟨y, rfl, hok⟩ := he H enc _ _ _ h3
      refine ⟨y, get?_iff.2 fun j v hj => ?_, hok⟩
      have hj' : j < Enc.n α := by rw [← h4]; exact (List.getElem?_eq_some_iff.1 hj).1
      rw [h5 j hj', hj]
    have hxs : ∃ xs : List α, xs.length = len ∧ ∀ k y, xs[k]? = some y → get? α W (a.add (k * Enc.n α)) = some y ∧ Ok y := by
      clear h hl hm hlen hel hsp
      induction len with
      | zero => exact ⟨[], rfl, by simp⟩
      | succ m ih =>
        obtain ⟨xs, h1, h2⟩ := ih fun k hk => key k (by omega)
        obtain ⟨y, hy⟩ := key m (by omega)
        refine ⟨xs ++ [y], by simp [h1], fun k z hz => ?_⟩
        by_cases hkm : k < m
        · rw [List.getElem?_append_left (by omega)] at hz; exact h2 k z hz
        · rw [List.getElem?_append_right (by omega)] at hz
          have : k = m := by
            have := (List.getElem?_eq_some_iff.1 hz).1
            simp at this; omega
          subst this
          simp [h1] at hz
          subst hz; exact hy
    obtain ⟨xs, hx1, hx2⟩ := hxs
    refine ⟨⟨some a, len, cap⟩, rfl, xs, ⟨hx1, fun h0 => ⟨a, rfl, ?_, fun k y hy => (hx2 k y hy).1⟩⟩, ?_, hl, hm⟩
    · have := get?_lt (hx2 0 (xs[0]'(by simp only at h0; omega)) (List.getElem?_eq_getElem _)).1
      rwa [add_block] at this
    · intro y hy
      obtain ⟨k, hk, rfl⟩ := List.mem_iff_getElem.1 hy
      exact (hx2 k _ (List.getElem?_eq_getElem hk)).2
theorem drop_split (l : List Value) (o s : Nat) : l.drop o = (l.drop o).take s ++ l.drop (o + s) := by
  rw [← List.drop_drop, List.take_append_drop]
theorem open_fields {fs : Array Field} {H : Type} {enc : TypeId × Value → H} {fuel : Nat} {cs : List Value} {x : DataW H × List MemPlace} (ht : P.underlying t = some (.struct fs)) (h : DataW.trod enc P W 0 (fun _ => true) true fuel t cs = some x) :
    cs.length = P.cellsOf t ∧ ∃ n, ∀ (i : Nat) (f : Field), fs[i]? = some f → ∃ y, DataW.trod enc P W 0 (fun _ => true) true n f.type ((cs.drop f.offset).take (P.cellsOf f.type)) = some y := by
  obtain ⟨xs, n, _, _, h1, h2, h3⟩ := DataW.trod_struct ht h
  refine ⟨h1, n, fun i f hf => ⟨xs[i]'(by rw [h2]; exact (Array.getElem?_eq_some_iff.1 hf).1), ?_⟩⟩
  rw [h3 i f hf]
  exact List.getElem?_eq_getElem _
theorem open_fieldT {H : Type} {enc : TypeId × Value → H} {fuel : Nat} {cs : List Value} {x : DataW H × List MemPlace} (ht : P.underlying t = some (.struct (P.fieldsOf t))) (h : DataW.trod enc P W 0 (fun _ => true) true fuel t cs = some x) :
    cs.length = P.cellsOf t ∧ ∃ n, ∀ (i : Nat) (ft : TypeId) (off : Nat), (fieldTO P t)[i]? = some (ft, off) → ∃ y, DataW.trod enc P W 0 (fun _ => true) true n ft ((cs.drop off).take (P.cellsOf ft)) = some y := by
  obtain ⟨h1, n, h2⟩ := open_fields ht h
  refine ⟨h1, n, fun i ft off hf => ?_⟩
  unfold fieldTO at hf
  simp only [List.getElem?_map, Array.getElem?_toList, Option.map_eq_some_iff, Prod.mk.injEq] at hf
  obtain ⟨f, h3, rfl, rfl⟩ := hf
  exact h2 i f h3
theorem open_hdr {α : Type} [Enc α] {Ok : α → Prop} {H : Type} {enc : TypeId × Value → H} {v : Value} {d : DataW H} {ps : List MemPlace} (ho : Opens P W t α Ok) (h : DataW.Trod enc P W 0 (fun _ => true) true t v d ps) : ∃ y : α, v.cells.toList = Enc.enc y ∧ Ok y := by
  obtain ⟨fuel, h⟩ := h
  exact ho H enc fuel _ _ h

section
variable {H : Type} {enc : TypeId × Value → H} {v : Value} {d : DataW H} {ps : List MemPlace} {r : Reach} {base : Nat}
theorem arg_slice {Ok : Hdr → Prop} (ht : P.underlying t = some (.slice e)) (ho : Opens P W t Hdr Ok) (hv : Value.okWide P W r base t v) (h : DataW.Trod enc P W 0 (fun _ => true) true t v d ps) : ∃ (A : Option Addr) (n c : Nat), v = .slice A n c ∧ Ok ⟨A, n, c⟩ := by
  obtain ⟨a, len, cap, rfl⟩ := WideShapes.okWide_slice ht hv
  obtain ⟨y, e, hy⟩ := open_hdr ho h
  have e' : Value.slice a len cap = .slice y.a y.len y.cap := by simpa [Value.cells, Enc.enc, Hdr.val] using e
  injection e' with h1 h2 h3
  subst h1; subst h2; subst h3
  exact ⟨_, _, _, rfl, hy⟩
theorem arg_int {k : IntKind} (ht : P.underlying t = some (.int k)) (hv : Value.okWide P W r base t v) (h : DataW.Trod enc P W 0 (fun _ => true) true t v d ps) : ∃ n, v = .int k n ∧ FitI k n := by
  obtain ⟨n, rfl⟩ := WideShapes.okWide_int ht hv
  obtain ⟨fuel, h⟩ := h
  obtain ⟨m, e, _, hw⟩ := DataW.trod_int ht h
  have e' : Value.int k n = .int k m := by simpa [Value.cells] using e
  injection e' with _ e'; subst e'
  exact ⟨n, rfl, hw⟩
theorem arg_bool (ht : P.underlying t = some .bool) (hv : Value.okWide P W r base t v) : ∃ b, v = .bool b := WideShapes.okWide_bool ht hv
theorem arg_agg {α : Type} [Enc α] {Ok : α → Prop} {fs : Array Field} (ht : P.underlying t = some (.struct fs)) (ho : Opens P W t α Ok) (hv : Value.okWide P W r base t v) (h : DataW.Trod enc P W 0 (fun _ => true) true t v d ps) : ∃ y : α, v = .agg (Enc.enc y).toArray ∧ Ok y := by
  obtain ⟨cs, rfl, _⟩ := WideShapes.okWide_struct ht hv
  obtain ⟨y, e, hy⟩ := open_hdr ho h
  have e' : cs.toList = Enc.enc y := by simpa [Value.cells] using e
  exact ⟨y, by rw [← e'], hy⟩
end

/-! ### The frame of a law that returns true and leaves what was there -/
theorem trodAll_below {H : Type} {enc : TypeId × Value → H} {W' : World} (hl : laidOutB P = true) (hb : Below W.heap.size W W') : ∀ {ts : List TypeId} {vs : List Value} {ds : List (DataW H)} {ps : List MemPlace}, (ts.all fun t => P.readableRec t && decide (t < P.types.size)) = true →
    DataW.TrodAll enc P W 0 (fun _ => true) true ts vs ds ps → (∀ x ∈ ps, x.block < W.heap.size) → DataW.TrodAll enc P W' 0 (fun b => decide (b < W.heap.size)) true ts vs ds ps
  | [], [], [], ps, _, h, _ => h
  | t :: ts, v :: vs, d :: ds, ps, hr, ⟨p, q, h1, h2, hp⟩, hlt => by
    simp only [List.all_cons, Bool.and_eq_true, decide_eq_true_eq] at hr
    subst hp
    exact ⟨p, q, Below.trod hl hr.1.1 hr.1.2 h1 hb (fun x hx => hlt x (by simp [hx])), trodAll_below hl hb hr.2 h2 (fun x hx => hlt x (by simp [hx])), rfl⟩
  | [], _ :: _, _, _, _, h, _ => h.elim
  | [], [], _ :: _, _, _, h, _ => h.elim
  | _ :: _, [], _, _, _, h, _ => h.elim
  | _ :: _, _ :: _, [], _, _, h, _ => h.elim
theorem law_post {H : Type} {enc : TypeId × Value → H} {f : Func} {s : ChangeSpec} {W' : World} {args : Array Value} {ds : List (DataW H)} {before : List MemPlace} {tb : TypeId}
    (hl : laidOutB P = true) (hr : (f.params.toList.all fun t => P.readableRec t && decide (t < P.types.size)) = true) (hf : f.resultTypes = #[tb]) (htb : P.underlying tb = some .bool)
    (hW : DataW.Whole enc P f.params.toList s.vars false W args.toList ds [] before) (hv : s.vars = []) (hs : s.fn H (ds ++ []) = { results := [.lit (.bool true)], args := ds }) (hb : Below W.heap.size W W') :
    s.post enc P f false true false false W args (.bool true) W' := by
  have hW' := hW
  obtain ⟨p, q, hA, hV, rfl, _, _⟩ := hW
  rw [hv] at hV
  obtain ⟨_, rfl⟩ := ChangeShapes.trodVars_none hV
  refine ⟨ds, [], _, [] ++ [], p, [], hW', ?_, ?_, ?_, hb.frame _, fun h => by cases h⟩
  · rw [hs, hf]
    exact ChangeShapes.trodAll_mk1 (shut_bool htb true)
  · rw [hs]
    exact trodAll_below hl hb hr hA fun x hx => by simpa using hW'.lt x (by simp [hx])
  · rw [hs, hv]; rfl
end
end Go.Gv
/- What the arguments of this seat read as. Conditions: those named in each theorem. -/
namespace Go.Proofs.YtfhhcgldikmejaaGreatDoor
open Go Go.RowKit Go.Gv

theorem cz33 : Tryz.prog.cellsOf 33 = 2 := by kernel_rfl
theorem cz3 : Tryz.prog.cellsOf 3 = 1 := by kernel_rfl
def ok33 (_W : World) (x : GName) : Prop := FitI .i64 x.client ∧ FitI .i64 x.seq
theorem op33 (W : World) : Opens Tryz.prog W 33 GName (ok33 W) := fun H enc fuel cs x h => by
  obtain ⟨hl, n, hf⟩ := open_fieldT uu33 h
  rw [cz33] at hl
  obtain ⟨y0, h0⟩ := hf 0 3 0 (by rw [fl33]; rfl)
  obtain ⟨n0, e0, _, k0⟩ := DataW.trod_int uk3 h0
  rw [cz3] at e0
  have s0 : cs.drop 0 = [.int .i64 n0] ++ cs.drop 1 := by rw [← e0]; exact drop_split cs 0 1
  obtain ⟨y1, h1⟩ := hf 1 3 1 (by rw [fl33]; rfl)
  obtain ⟨n1, e1, _, k1⟩ := DataW.trod_int uk3 h1
  rw [cz3] at e1
  have s1 : cs.drop 1 = [.int .i64 n1] ++ cs.drop 2 := by rw [← e1]; exact drop_split cs 1 1
  have hz : cs.drop 2 = [] := List.drop_eq_nil_of_le (by omega)
  refine ⟨⟨n0, n1⟩, ?_, k0, k1⟩
  have hh : cs.drop 0 = [.int .i64 n0] ++ ([.int .i64 n1]) := by rw [s0, s1, hz, List.append_nil]
  exact hh
theorem cz61 : Tryz.prog.cellsOf 61 = 1 := by kernel_rfl
theorem cz5 : Tryz.prog.cellsOf 5 = 1 := by kernel_rfl
theorem op5 (W : World) : Opens Tryz.prog W 5 U8 (fun _ => True) := opens_u8 (by kernel_rfl)
theorem op61 (W : World) : Opens Tryz.prog W 61 Hdr (SlOk W U8 (fun _ => True)) := opens_slice (e := 5) (by kernel_rfl) (cz5.trans rfl) (op5 W)
theorem op3 (W : World) : Opens Tryz.prog W 3 I64 (fun x => FitI .i64 x.v) := opens_i64 (by kernel_rfl)
end Go.Proofs.YtfhhcgldikmejaaGreatDoor
/- Facts that the frames of all laws of this seat share. Conditions: none. -/
namespace Go.Proofs.YtfhhcgldikmejaaGreatDoor
open Go Go.RowKit Go.Gv
theorem ownK : ownKnob Tryz.prog.godebug = none := by kernel_rfl
theorem laidK : laidOutB Tryz.prog = true := by kernel_rfl
end Go.Proofs.YtfhhcgldikmejaaGreatDoor
/- What the frames of this seat's laws share: the listed variables, the world of the witness, the wrap that hands the world's shape on; no function of this seat starts a goroutine. Conditions: those named in each theorem. -/
namespace Go.Proofs.YtfhhcgldikmejaaGreatDoor
open Go Go.RowKit Go.Gv Go.ChangeShapes Go.WideShapes Go.ChangeAt

/-- The wrap of a law with listed variables: the contract is handed what they hold, and the world's shape. -/
theorem returns_laid {H : Type} {enc : TypeId × Value → H} {a : Assume} {C : Checked} {os : Os} {f : FuncId} {fn : Func} {s : ChangeSpec} {conds : List PathCond} {apart fresh handsOn again : Bool} {laid : List (String × DataW Unit)}
    (own : ownKnob C.prog.godebug = none) (started : os.Started) (noInit : C.prog.inits.idxOf? f = none) (hfn : C.prog.funcs[f]? = some fn)
    (witness : ∃ (w : World) (tape : Tape) (i : Input), w.os = os ∧ (w.forCall tape i).Shaped C.prog ∧ i.vars = [] ∧ Input.okWide C.prog (w.forCall tape i) .any w.heap.size f i ∧
      ((s.pre enc C.prog fn conds apart (w.forCall tape i).memory i.args ∧ laidMetH C.prog laid (w.forCall tape i).memory) ∧ sizedMet enc C.prog fn (OpenSpec.ofChange s) apart (w.forCall tape i).memory i.args) ∧ a.holds C.prog (lone (Frame.enter C.prog f i.args .normal) [] (w.forCall tape i)))
    (contract : ∀ (W : World) (base : Nat) (args : Array Value) (ds gs : List (DataW H)) (before : List MemPlace),
      (∀ (j : Nat) t v, fn.params[j]? = some t → args[j]? = some v → Value.okWide C.prog W .any base t v) →
      DataW.Whole enc C.prog fn.params.toList s.vars apart W args.toList ds gs before → laidMetH C.prog laid W → W.ShapedOpen C.prog →
      Calls C.prog f args W fun e W' => ∃ v, e = .returned v ∧ s.post enc C.prog fn apart fresh handsOn again W args v W') :
    ReturnsInHanded a C os f .any (fun w args => (s.pre enc C.prog fn conds apart w args ∧ laidMetH C.prog laid w) ∧ sizedMet enc C.prog fn (OpenSpec.ofChange s) apart w args) (s.post enc C.prog fn apart fresh handsOn again) := by
  refine returnsInHanded_of_calls own started noInit witness ?_
  intro w tape i _ hsh _ hok hpre _
  obtain ⟨_, _, _, fn', hfn', _, _, _, _, hval⟩ := hok
  have e : fn' = fn := Option.some.inj (hfn'.symm.trans hfn)
  subst e
  obtain ⟨⟨⟨ds, gs, before, hw, _⟩, hx⟩, _⟩ := hpre
  have hw' := DataW.Whole.of_heap (w' := w.forCall tape i) (by rfl) hw
  refine (contract (w.forCall tape i) w.heap.size i.args ds gs before hval hw' (hx.of_heap (by rfl)) hsh).mono fun e W' ⟨v, he, hp⟩ => ?_
  subst he
  exact ChangeSpec.post_blind hp

/-- The variables that each row of this seat lists. -/
def laidL : List (String × DataW Unit) := [("math/bits.deBruijn32tab", Rows.laid_math_bits_deBruijn32tab), ("math/bits.deBruijn64tab", Rows.laid_math_bits_deBruijn64tab), ("internal/strconv.uint64pow10", Rows.laid_internal_strconv_uint64pow10), ("unicode/utf8.acceptRanges", Rows.laid_unicode_utf8_acceptRanges), ("unicode/utf8.first", Rows.laid_unicode_utf8_first)]
theorem laid_plain : (laidL.all fun x => x.2.handleName?.isNone) = true := by kernel_rfl
theorem wit_fits (os : Os) : (World.holding Tryz.prog os ⟨#[], #[], []⟩).layFits Tryz.prog laidL [] = true := by kernel_rfl
theorem wit_ifaces (os : Os) : (World.holding Tryz.prog os ⟨#[], #[], []⟩).layIfaces Tryz.prog laidL (World.laidAll Tryz.prog os laidL) = true := by kernel_rfl
theorem wit_laid (os : Os) (args : Array Value) : laidMetH Tryz.prog laidL ((World.laidAll Tryz.prog os laidL).forCall (fun _ _ => 0) ⟨#[], args, []⟩).memory := by
  rw [MakeChecks.laidMetH_plain _ _ _ laid_plain]
  exact laidMet_laidAll _ (wit_fits os) (wit_ifaces os)
theorem goes_all : (Tryz.prog.funcs.all fun f => !f.goes) = true := by kernel_rfl
theorem goes_none {P : Program} (h : (P.funcs.all fun f => !f.goes) = true) (f : FuncId) : P.goes f = false := by
  have h1 : ∀ g : Func, g ∈ P.funcs → g.goes = false := fun g hg => by
    have := Array.all_eq_true_iff_forall_mem.1 h g hg
    simpa using this
  unfold Program.goes
  have h2 : P.funcs.any Func.goes = false := by
    rw [Array.any_eq_false]
    intro i hi
    simp [h1 _ (Array.getElem_mem hi)]
  rw [h2, Bool.and_false, Bool.or_false, List.any_eq_false]
  intro g _
  cases hq : P.funcs[g]? with
  | none => simp
  | some x => simp [h1 x (Array.mem_of_getElem? hq)]
theorem goesBy_none {P : Program} {c : OpenClaim} (h : (P.funcs.all fun f => !f.goes) = true) (hs : c.start = .entering) : false = c.goesBy P := by
  unfold OpenClaim.goesBy Program.goesAt Program.goesFrom
  rw [hs]
  cases P.funcNamed c.func with
  | none => rfl
  | some f => simp [goes_none h f]
end Go.Proofs.YtfhhcgldikmejaaGreatDoor
