/- A commitment is answered with a stamp: the law's walk. Conditions: those named in each theorem. -/
import Derived.Test.YtfhhcgldikmejaaGreatDoorP8
import Derived.Test.YtfhhcgldikmejaaGreatDoorP9
import Derived.Test.YtfhhcgldikmejaaGreatDoorP6
/- A commitment is answered with a stamp: the law's walk. Conditions: those named in each theorem. -/
namespace Go.Proofs.YtfhhcgldikmejaaGreatDoor
open Go Go.RowKit Go.Gv Go.Proofs

theorem cutB_any (A : Option Addr) (n c : Nat) (q : Nat) (xs : List U8) (w : World) (B : Nat) (hx : Sl U8 w B A n xs) (hn : n ≤ c) (hc : c ≤ maxLen) (hq : q * 1 ≤ 140737488355328) :
    Calls Tryz.prog 16 #[.slice A n c, .int .i64 q] w fun e w' => ∃ v, e = .returned v ∧ OwnS w' w.heap.size 5 v (xs.take q) ∧ Below w.heap.size w w' := by
  unfold maxLen at hc
  have H := Lib.hid hx; clear hx
  have e0 : xs.take (min n q) = xs.take q := by
    have := H.out.1
    rw [← List.take_take, List.take_of_length_le (i := n) (by simp; omega)]
  obtain ⟨v', w', hrun, ho, hg, _⟩ := gAppend_S (P := Tryz.prog) ei61 (OwnS.nil (α := U8) w w.heap.size 5) (c := c) (H.out.take (Nat.min_le_left n q)) (by unfold maxLen; simp; omega) (by simp; omega) (Nat.le_refl _) 61
  have hb := Gv.Below.appS (Below.refl w.heap.size w) hg (OwnS.nil (α := U8) w w.heap.size 5) (Nat.le_refl _) (Nat.le_refl _)
  rw [List.nil_append, e0] at ho
  have HO := Lib.hid ho; have HB := Lib.hid hb; clear ho hg hb e0
  go_enter Tryz.func16, Tryz.ntmps16
  go_wp2
  go_ret
  exact ⟨v', rfl, HO.out, HB.out⟩
theorem slK {R : Nat → Prop} {w w' : World} {A : Option Addr} {n : Nat} {xs : List U8} (h : Sl U8 w w.heap.size A n xs) (hc : Chg (fun k => ¬ R k) w w') (hR : ∀ ad, A = some ad → ad.block < w.heap.size → R ad.block) : Sl U8 w' w'.heap.size A n xs :=
  Sl.chg hc h (fun hn ad e => fun hr => by
    obtain ⟨ad', e', hlt, _⟩ := h.2 hn
    rw [e] at e'; injection e' with e'; subst e'
    exact hr (hR ad e hlt))
theorem rightB_keep {b : MBook} {k k' : GBookSigned} {mk : Int} (h : rightB b k mk = true) : rightB (signB b k') k mk = true := by
  unfold rightB at h ⊢
  unfold signB
  by_cases h0 : (mget b k').getD 0 = 0
  · rw [if_pos h0]
    have hne : k ≠ k' := by
      intro e
      subst e
      rw [h0] at h
      simp at h
    have e2 : mget (mset b k' ((b.length : Int) + 1)) k = mget b k := mget_mset_other _ _ hne
    rw [e2]; exact h
  · rw [if_neg h0]; exact h
theorem sl_one {w : World} {base : Nat} {hd : Hdr} {m : GMsg} (ho : OwnS w base 70 hd.val [m]) : ∃ (b c : Nat), hd = ⟨some ⟨b, 0, none⟩, 1, c⟩ ∧ get? GMsg w ⟨b, 0, none⟩ = some m ∧ base ≤ b ∧ hd.val.ownBlock = some b := by
  obtain ⟨A, cc, hv, hsl, hc1, hc2, hA⟩ := ho.shape
  obtain ⟨a1, n1, c1⟩ := hd
  unfold Hdr.val at hv
  injection hv with v1 v2 v3
  simp only [List.length_cons, List.length_nil, Nat.zero_add] at v1 v2 v3
  subst v1 v2 v3
  obtain ⟨ad, y0, hAe, _, hx0, q0⟩ := hsl.at_ (k := 0) (by simp)
  simp only [List.getElem?_cons_zero, Option.some.injEq] at hx0
  obtain ⟨hle, had, _⟩ := hA ad hAe
  obtain ⟨bl, hbl⟩ : ∃ bl, ad.block = bl := ⟨_, rfl⟩
  rw [hbl] at had hle
  subst had hAe
  rw [← hx0] at q0
  simp only [Addr.add_lit, Nat.zero_mul, Nat.add_zero] at q0
  refine ⟨bl, c1, rfl, q0, hle, ?_⟩
  rcases ho.2 with ⟨e, e2⟩ | ⟨g, cap, cur, e, _⟩
  · simp at e2
  · have e3 : (Hdr.val ⟨some ⟨bl, 0, none⟩, 1, c1⟩) = .slice (some ⟨bl, 0, none⟩) 1 c1 := rfl
    rw [e3] at e ⊢
    injection e with e4 e5 e6
    rfl
theorem sl_of {w : World} {b : Nat} {m : GMsg} (g : get? GMsg w ⟨b, 0, none⟩ = some m) : Sl GMsg w w.heap.size (some ⟨b, 0, none⟩) 1 [m] := by
  refine ⟨rfl, fun _ => ⟨_, rfl, get?_lt g, fun k y hk => ?_⟩⟩
  have hk0 : k = 0 := by
    have := (List.getElem?_eq_some_iff.1 hk).1
    have : k < 1 := this
    omega
  subst hk0
  have : m = y := by simpa using hk
  subst this
  exact g
theorem own_cells {α : Type} [Enc α] {w : World} {base : Nat} {e : TypeId} {v : Value} {xs : List α} {k : Nat} (h : OwnS w base e v xs) (hk : v.ownBlock = some k) : ∃ cur, w.heap[k]? = some (.cells cur e (0, 0)) := by
  rcases h.2 with ⟨rfl, h0⟩ | ⟨g, cap, cur, rfl, hb, hh, _⟩
  · cases hk
  · injection hk with hk
    subst hk
    exact ⟨cur, hh⟩
theorem commit_mark (c : GCommit) (v : Int) : GCommit.enc { c with sig := ⟨c.sig.by_, v⟩ } = (GCommit.enc c).set 36 (.int .i64 v) := by
  have key : ∀ (l : List Value) (a b d : Value), l.length = 35 → (l ++ [a, b]).set 36 d = l ++ [a, d] := by
    intro l a b d h
    rw [List.set_append_right _ _ (by omega), h]
    rfl
  have e1 : ∀ s : GSig, GCommit.enc { c with sig := s } = (c.name.enc ++ (c.hash.enc ++ [Value.int .i64 c.len])) ++ [Value.int .i64 s.by_, Value.int .i64 s.mark] := by
    intro s
    simp [GCommit.enc, GSig.enc]
  have e2 : GCommit.enc c = (c.name.enc ++ (c.hash.enc ++ [Value.int .i64 c.len])) ++ [Value.int .i64 c.sig.by_, Value.int .i64 c.sig.mark] := e1 c.sig
  rw [e1, e2, key _ _ _ _ (by simp [GName.enc_len, GHash.enc_len])]
theorem msg_mark (c : GCommit) (v : Int) : Enc.enc (msgC { c with sig := ⟨c.sig.by_, v⟩ } 2) = (Enc.enc (msgC c 2)).set 39 (.int .i64 v) := by
  have key : ∀ (l r : List Value) (a b d u : Value), l.length = 37 → (a :: b :: d :: (l ++ r)).set 39 u = a :: b :: d :: (l.set 36 u ++ r) := by
    intro l r a b d u h
    show a :: b :: d :: (l ++ r).set 36 u = _
    rw [List.set_append_left _ _ (by omega)]
  show GMsg.enc _ = (GMsg.enc _).set 39 _
  have h : GMsg.enc (msgC { c with sig := ⟨c.sig.by_, v⟩ } 2) = Value.int .i64 1 :: Value.int .i64 (1000 + c.name.client) :: Value.int .i64 2 :: (GCommit.enc { c with sig := ⟨c.sig.by_, v⟩ } ++ (GMsg.enc (msgC default 2)).drop 40) := rfl
  have h' : GMsg.enc (msgC c 2) = Value.int .i64 1 :: Value.int .i64 (1000 + c.name.client) :: Value.int .i64 2 :: (GCommit.enc c ++ (GMsg.enc (msgC default 2)).drop 40) := rfl
  rw [h, h', key _ _ _ _ _ _ (GCommit.enc_len c), commit_mark]
theorem rightB_off {b : MBook} {k : GBookSigned} {mk : Int} (h : rightB b k mk = true) : rightB b k (mk + 5) = false := by
  unfold rightB at h ⊢
  simp only [Bool.and_eq_true, decide_eq_true_eq] at h
  rw [h.2]
  have h3 : ¬ mk = mk + 5 := by omega
  simp [h3]
theorem mark_nil (n : GName) (O : GHash) (m : Nat) : (madeC n O m []).sig.mark = 1 := by
  have e : (madeC n O m []).sig.mark = markOf [] (keyC n O m) := rfl
  rw [e]
  unfold markOf
  rw [mget_nil]
  rfl
theorem stampsTimers {c : GConf} {id : Int} {b : MBook} (t : GReplicaTimer) (ht : t ∈ (waiting (fresh c id b)).timers) : t = ⟨10, ⟨1, 0⟩⟩ := by
  simpa [waiting, timed, fresh] using ht
set_option maxRecDepth 100000 in
set_option maxHeartbeats 16000000 in
theorem stamps_any (n0 : GName) (A1 A2 : Option Addr) (l1 c1 l2 c2 : Nat) (xs1 xs2 : List U8) (ticks : Int) (w : World) (ha1 : -9223372036854775808 ≤ n0.client) (ha2 : n0.client ≤ 9223372036854775807) (hb1 : -9223372036854775808 ≤ n0.seq) (hb2 : n0.seq ≤ 9223372036854775807) (ht1 : -9223372036854775808 ≤ ticks) (ht2 : ticks ≤ 9223372036854775807)
    (hx1 : Sl U8 w w.heap.size A1 l1 xs1) (hx2 : Sl U8 w w.heap.size A2 l2 xs2) (hl1 : l1 ≤ c1 ∧ c1 ≤ maxLen) (hl2 : l2 ≤ c2 ∧ c2 ≤ maxLen) :
    Calls Tryz.prog 5 #[n0.val, .slice A1 l1 c1, .slice A2 l2 c2, .int .i64 ticks] w fun e w' => e = .returned (.bool true) ∧ Bel w w' := by
  obtain ⟨nc, hnc, hncl⟩ := within_nat n0.client 3 (by omega)
  obtain ⟨ns, hns, hnsl⟩ := within_nat n0.seq 9 (by omega)
  obtain ⟨r1, hr1, hrl⟩ := within_nat ticks 5 (by omega)
  have HW1 := Lib.hid (fun w => within_is n0.client 3 nc w (by exact_mod_cast hnc) (by omega) ha1 ha2)
  have HW2 := Lib.hid (fun w => within_is n0.seq 9 ns w (by exact_mod_cast hns) (by omega) hb1 hb2)
  have HW3 := Lib.hid (fun w => within_is ticks 5 r1 w (by exact_mod_cast hr1) (by omega) ht1 ht2)
  have HX1 := Lib.hid hx1; have HX2 := Lib.hid hx2; have HL1 := Lib.hid hl1; have HL2 := Lib.hid hl2
  clear hnc hns hr1 ha1 ha2 hb1 hb2 ht1 ht2 hx1 hx2 hl1 hl2
  have k4 : get? GName ((w.alloc (.cells (GName.enc n0).toArray 33)).alloc (.cells (GConf.enc ⟨1, 3⟩).toArray 24)) ⟨w.heap.size, 0, none⟩ = some n0 := get?_alloc _ (get?_new _ _)
  have k9 : get? GConf ((w.alloc (.cells (GName.enc n0).toArray 33)).alloc (.cells (GConf.enc ⟨1, 3⟩).toArray 24)) ⟨w.heap.size + 1, 0, none⟩ = some ⟨1, 3⟩ := by
    have := get?_new (w := w.alloc (.cells (GName.enc n0).toArray 33)) 24 (⟨1, 3⟩ : GConf)
    rwa [World.size_alloc] at this
  have f4 : blkFree ((w.alloc (.cells (GName.enc n0).toArray 33)).alloc (.cells (GConf.enc ⟨1, 3⟩).toArray 24)) w.heap.size = true := by
    rw [blkFree_past _ _ (by simp)]; exact blkFree_new _ _ rfl
  have HB := Lib.hid (((Bel.refl w).alloc (.cells (GName.enc n0).toArray 33)).alloc (.cells (GConf.enc ⟨1, 3⟩).toArray 24))
  have HSZ := Lib.hid (show ((w.alloc (.cells (GName.enc n0).toArray 33)).alloc (.cells (GConf.enc ⟨1, 3⟩).toArray 24)).heap.size = w.heap.size + 2 by simp)
  go_enter Tryz.func5, Tryz.ntmps5
  go_wp2_with fail
  refine (start_any ⟨1, 3⟩ 2 1 _ (by decide) (by omega) (by omega) rfl (by omega) (by omega)).mono ?_
  rintro _ w1 ⟨B, rfl, hr⟩
  generalize (w.alloc (.cells (GName.enc n0).toArray 33)).alloc (.cells (GConf.enc ⟨1, 3⟩).toArray 24) = wS at k4 k9 f4 HB HSZ hr ⊢
  obtain ⟨p4, hp4⟩ : ∃ p4, w.heap.size = p4 := ⟨_, rfl⟩
  have HP4 := Lib.hid hp4
  rw [hp4] at k4 k9 f4 HSZ ⊢
  have k4' := GB.get hr.bel k4
  have f4' := gb_free2 hr.bel (get?_lt k4) f4
  have HR1 := Lib.hid (hr.weak HB.out rfl)
  have HKP := Lib.hid (show keepMid w wS w1 p4 = w1.heap[p4]? by unfold keepMid; rw [if_pos ⟨by omega, by have := HSZ.out; omega⟩])
  have HLB := Lib.hid (show ∀ j < 20, wS.heap.size ≤ B j from hr.new)
  clear hr k4 k9 f4
  go_upto_region 5 with fail
  have k11 : (w1.alloc (.cells #[Value.pointer (some { block := B 1, off := 0 })] 26)).cell? ⟨w1.heap.size, 0, none⟩ = some (.pointer (some ⟨B 1, 0, none⟩)) := by
    rw [World.cell?_alloc_new]; rfl
  have hb11 : Bel w1 (w1.alloc (.cells #[Value.pointer (some { block := B 1, off := 0 })] 26)) := (Bel.refl w1).alloc _
  have hz11 : (w1.alloc (.cells #[Value.pointer (some { block := B 1, off := 0 })] 26)).heap.size = w1.heap.size + 1 := by simp
  obtain ⟨p11, hp11⟩ : ∃ p11, w1.heap.size = p11 := ⟨_, rfl⟩
  rw [hp11] at k11 hz11 ⊢
  generalize w1.alloc (.cells #[Value.pointer (some { block := B 1, off := 0 })] 26) = w2 at k11 hb11 hz11 ⊢
  have K4 := Lib.hid (GB.get hb11 k4'); have F4 := Lib.hid (gb_free2 hb11 (get?_lt k4') f4'); have K11 := Lib.hid k11; have HB2 := Lib.hid hb11; have HZ2 := Lib.hid hz11; have HP11 := Lib.hid hp11
  have HLT4 := Lib.hid (show p4 < w1.heap.size from get?_lt k4')
  clear k4' f4' k11 hb11 hz11 hp11
  refine wp_region_G GB [8] GB.rf (by kernel_rfl) ?_
  refine wpG_looks 1 24 [0, 1, 2, 3, 4, 5, 6, 7] rfl GB.rf GB.tr (by kernel_rfl) (fun _ _ _ _ hd h => And.intro (hd ▸ And.left h) (And.right h)) rfl (by kernel_rfl) ?_
  intro ι W9 hne CW
  have t0 := GName.at_client K4.out
  have t1 := GName.at_seq K4.out
  simp only [Addr.add_lit, Nat.zero_add, Nat.add_zero] at t0 t1
  have y0 := fun z => GB.cell (CW.out z) t0
  have y1 := fun z => GB.cell (CW.out z) t1
  have e1 : IntKind.i64.wrap (1 + (ns : Int)) = 1 + (ns : Int) := IntWalk.i64_in _ (by omega)
  refine wpLooksG_step (fun K hK => ?_); go_simp; refine hK _ ?_; clear hK K
  refine wpLooksG_step (fun K hK => ?_); go_simp; refine hK _ ?_; clear hK K
  refine wpLooksG_step (fun K hK => ?_)
  go_simp
  refine ⟨_, fun z => (HW1.out _).mono (fun e w' h => ⟨h.1, h.2 ▸ GB.rf _⟩), hK _ ?_⟩
  clear hK K
  refine wpLooksG_step (fun K hK => ?_); go_simp; refine hK _ ?_; clear hK K
  refine wpLooksG_step (fun K hK => ?_); go_simp; refine hK _ ?_; clear hK K
  refine wpLooksG_step (fun K hK => ?_)
  go_simp
  refine ⟨_, fun z => (HW2.out _).mono (fun e w' h => ⟨h.1, h.2 ▸ GB.rf _⟩), hK _ ?_⟩
  clear hK K
  refine wpLooksG_step (fun K hK => ?_); go_simp; refine hK _ ?_; clear hK K
  refine wpLooksG_step (fun K hK => ?_); go_simp; refine hK _ ?_; clear hK K
  refine wpLooksG_nil ?_
  clear y0 y1 t0 t1 e1 CW hne W9 ι
  refine wpG_force 8 _ rfl (by kernel_rfl) rfl fun wa hwa K hK => ?_
  have hba := GB.undrew hwa
  have k5 := GB.get hba K4.out
  have f5 := gb_free2 hba (get?_lt K4.out) F4.out
  go_simp
  refine hK _ _ (fun h => absurd (by simp) h) ?_
  clear hK K
  obtain ⟨N, hN⟩ : ∃ N : GName, ⟨(nc : Int), 1 + (ns : Int)⟩ = N := ⟨_, rfl⟩
  rw [hN]
  have hcp : Chg (fun k => k = p4) wa (World.putCells wa ⟨p4, 0, none⟩ (GName.enc N)) := chg_put (S := fun k => k = p4) rfl _
  have K6 := Lib.hid (get?_putV N k5)
  have HC := Lib.hid (show Chg (fun k => k = p4 ∨ w1.heap.size ≤ k) w1 (World.putCells wa ⟨p4, 0, none⟩ (GName.enc N)) from ((Chg.of_bel (HB2.out.trans hba) _).tr (hcp.sub (fun k e => .inl e))))
  have hp11' : ¬ p11 = p4 := by have := HLT4.out; have := HP11.out; omega
  have K116 := Lib.hid (hcp.cell (GB.cell hba K11.out) hp11')
  have HNE := Lib.hid (show N.client = nc ∧ N.seq = 1 + (ns : Int) by rw [← hN]; exact ⟨rfl, rfl⟩)
  have HBW := Lib.hid (show Bel w (World.putCells wa ⟨p4, 0, none⟩ (GName.enc N)) from Chg.bel2 HR1.out.bel HC.out (fun k e => e.elim (fun e => by rw [HP4.out, e]; exact Nat.le_refl _) (fun e => by have := Below.size HR1.out.bel; omega)))
  generalize World.putCells wa ⟨p4, 0, none⟩ (GName.enc N) = w3 at K6 HC K116 HBW ⊢
  clear hcp k5 f5 hba hwa K4 F4 K11 HB2 HZ2 hN hp11'
  refine wpG_end (by kernel_rfl) (fun wn hwn => ?_) _
  have K7 := Lib.hid (GB.get hwn K6.out); have HC7 := Lib.hid (HC.out.tr (Chg.of_bel hwn _)); have K117 := Lib.hid (GB.cell hwn K116.out); have HBW7 := Lib.hid (HBW.out.trans hwn)
  clear hwn K6 HC K116 HBW HW1 HW2
  go_wp2_with fail
  have hcut := cutB_any A1 l1 c1 30 xs1 wn wn.heap.size (HX1.out.stepB HBW7.out) HL1.out.1 HL1.out.2 (by omega)
  rw [show ((30 : Nat) : Int) = 30 from rfl] at hcut
  refine hcut.mono ?_
  rintro _ wb ⟨v1, rfl, ho1, hb1⟩
  clear hcut
  obtain ⟨Ap, cp, rfl, hsp, -, -, hap⟩ := ho1.shape
  have HAP := Lib.hid (show ∀ ad, Ap = some ad → wn.heap.size ≤ ad.block from fun ad e => (hap ad e).1)
  clear hap
  obtain ⟨ys1, hys1⟩ : ∃ ys, xs1.take 30 = ys := ⟨_, rfl⟩
  have hyl1 : ys1.length ≤ 30 := by rw [← hys1, List.length_take]; omega
  rw [hys1] at hsp ho1 ⊢
  obtain ⟨m1, hm1⟩ : ∃ m1, ys1.length = m1 := ⟨_, rfl⟩
  rw [hm1] at hsp hyl1 ⊢
  have HSP := Lib.hid hsp; have HB8 := Lib.hid (show Bel wn wb from hb1); have HM1 := Lib.hid hyl1
  clear hsp ho1 hb1 hys1 hyl1 hm1
  go_wp2_with fail
  have hcut := cutB_any A2 l2 c2 30 xs2 wb wb.heap.size (HX2.out.stepB (HBW7.out.trans HB8.out)) HL2.out.1 HL2.out.2 (by omega)
  rw [show ((30 : Nat) : Int) = 30 from rfl] at hcut
  refine hcut.mono ?_
  rintro _ wc ⟨v2, rfl, ho2, hb2⟩
  clear hcut
  have hbs : Bs wb wc v2 (xs2.take 30) := ⟨hb2, ho2⟩
  obtain ⟨zs, hzs⟩ : ∃ zs, xs2.take 30 = zs := ⟨_, rfl⟩
  have hzl : zs.length ≤ 30 := by rw [← hzs, List.length_take]; omega
  rw [hzs] at hbs
  obtain ⟨v6, w6, hrun6, hb6⟩ := (hbs.step ((Bel.refl wc).alloc (.cells #[.int .u8 (1 : Nat)] 5))).app 1 (sl_byte wc 1 (by omega)) (by omega)
  rw [show ((1 : Nat) : Int) = 1 from rfl] at hrun6
  have HBS := Lib.hid hb6; have HZL := Lib.hid hzl
  clear hbs ho2 hb2 hzs hb6 hzl
  go_upto_region 7 with fail
  obtain ⟨Aq, cq, rfl, hsq, -, -, haq⟩ := HBS.out.own.shape
  obtain ⟨mq, hmq⟩ : ∃ mq, (zs ++ [⟨UInt8.ofNat 1⟩] : List U8).length = mq := ⟨_, rfl⟩
  have HAQ := Lib.hid (show ∀ ad, Aq = some ad → wb.heap.size ≤ ad.block from fun ad e => (haq ad e).1)
  rw [hmq] at hsq ⊢
  clear haq
  have hmq2 : mq ≤ 31 := by rw [← hmq, List.length_append]; have := HZL.out; simp; omega
  obtain ⟨ys2, hys2⟩ : ∃ ys, zs ++ [⟨UInt8.ofNat 1⟩] = ys := ⟨_, rfl⟩
  rw [hys2] at hsq
  have HSQ := Lib.hid hsq; have HMQ := Lib.hid hmq2
  have HB9 := Lib.hid (show Bel wn w6 from HB8.out.trans HBS.out.bel)
  have HBB := Lib.hid HBS.out.bel
  clear hsq hmq2 hmq HBS
  have hbk : BookD w6 (w6.alloc (.cells (GRef01Book.enc default).toArray 78)) w6.heap.size ⟨none, 0, 0⟩ [] :=
    ⟨get?_new (w := w6) 78 (default : GRef01Book), blkFree_new _ _ rfl, OwnS.nil _ _ _, (fun e => by cases e), Nat.le_refl _⟩
  have hbk2 := hbk.step ((Bel.refl (w6.alloc (.cells (GRef01Book.enc default).toArray 78))).alloc (.cells #[Value.pointer (some ⟨w6.heap.size, 0, none⟩)] 75))
  have k13 : ((w6.alloc (.cells (GRef01Book.enc default).toArray 78)).alloc (.cells #[Value.pointer (some ⟨w6.heap.size, 0, none⟩)] 75)).cell? ⟨w6.heap.size + 1, 0, none⟩ = some (.pointer (some ⟨w6.heap.size, 0, none⟩)) := by
    have e : w6.heap.size + 1 = (w6.alloc (.cells (GRef01Book.enc default).toArray 78)).heap.size := by simp
    rw [e, World.cell?_alloc_new]; rfl
  have hbw : Bel w6 ((w6.alloc (.cells (GRef01Book.enc default).toArray 78)).alloc (.cells #[Value.pointer (some ⟨w6.heap.size, 0, none⟩)] 75)) := ((Bel.refl w6).alloc _).alloc _
  have hsz : ((w6.alloc (.cells (GRef01Book.enc default).toArray 78)).alloc (.cells #[Value.pointer (some ⟨w6.heap.size, 0, none⟩)] 75)).heap.size = w6.heap.size + 2 := by simp
  clear hbk
  go_upto_region 9 with fail
  obtain ⟨g, hg⟩ : ∃ g, w6.heap.size = g := ⟨_, rfl⟩
  rw [hg] at hbk2 k13 hbw hsz ⊢
  generalize (w6.alloc (.cells (GRef01Book.enc default).toArray 78)).alloc (.cells #[Value.pointer (some ⟨g, 0, none⟩)] 75) = w8 at hbk2 k13 hbw hsz ⊢
  have HBK := Lib.hid hbk2; have K13 := Lib.hid k13; have HBW2 := Lib.hid hbw; have HG := Lib.hid hg; have HSZ8 := Lib.hid hsz
  have HS1 := Lib.hid (show w1.heap.size ≤ g ∧ p4 < w1.heap.size ∧ p11 = w1.heap.size ∧ w.heap.size = p4 ∧ w1.heap.size ≤ w8.heap.size ∧ wn.heap.size ≤ w8.heap.size from by
    have h1 := HC7.out.size; have h2 := Below.size HB9.out; have h3 := Below.size HBW2.out
    exact ⟨by omega, HLT4.out, HP11.out.symm, HP4.out, by omega, by omega⟩)
  clear hbk2 k13 hbw hsz hg
  have hr8 := HR1.out.law (S := fun k => k = p4 ∨ w1.heap.size ≤ k) rfl (HC7.out.tr (Chg.of_bel (HB9.out.trans HBW2.out) _)) (by have := HS1.out; rintro k (e | e) <;> omega) (by
    rintro k (e | e)
    · left
      show (keepMid w wS w1 k).isSome = true
      rw [e, HKP.out, Array.getElem?_eq_getElem HS1.out.2.1]; rfl
    · exact .inr e)
  obtain ⟨X1, hX1⟩ : ∃ X1 : RSt, ({ (waiting (fresh ⟨1, 3⟩ 2 [])) with kept := keepNew (keepMid w wS w1) w1 w8 } : RSt) = X1 := ⟨_, rfl⟩
  have hr8' : RepIs w w8 B X1 := by rw [← hX1]; exact hr8
  have HX1E := Lib.hid hX1
  have HKE := Lib.hid (show Keeps X1 w8 (fun k => k = p4 ∨ (w1.heap.size ≤ k ∧ k < w8.heap.size)) from by
    rintro k (e | ⟨e1, e2⟩)
    · subst e
      refine ⟨?_, by have := HS1.out; omega⟩
      rw [← hX1]
      refine keepNew_at (.inl ?_)
      rw [HKP.out, Array.getElem?_eq_getElem HS1.out.2.1]; rfl
    · refine ⟨?_, e2⟩
      rw [← hX1]
      exact keepNew_at (.inr e1))
  have HR8 := Lib.hid hr8'
  obtain ⟨tk, htk⟩ : ∃ tk, 1 + r1 = tk := ⟨_, rfl⟩
  have HTK := Lib.hid (show 1 ≤ tk ∧ tk ≤ 5 by omega)
  have ek : IntKind.i64.wrap (1 + (r1 : Int)) = (tk : Int) := by rw [IntWalk.i64_in _ (by omega)]; omega
  clear hr8 hr8' hX1
  go_wp2_with fail
  refine (HW3.out _).mono ?_
  rintro _ w8' ⟨rfl, hw⟩
  obtain rfl : w8 = w8' := hw.symm
  clear hw
  go_wp2_with fail
  refine (doTicks_any w B X1 tk default w8 HR8.out (by rw [← HX1E.out]; rfl) (by rw [← HX1E.out]; rfl) (by rw [← HX1E.out]; rfl) rfl (by have := HTK.out; omega) (by rw [← HX1E.out]; show (0 : Int) ≤ 0; omega) (by rw [← HX1E.out]; show (0 : Int) ≤ _; omega) (by rw [← HX1E.out]; exact fun t ht => by rw [stampsTimers t ht]; show (0 : Int) + tk < 10; have := HTK.out; omega) (by rw [← HX1E.out]; intro k h1 h2; show ((0 : Int) + k) % 10 ≠ 0; have := HTK.out; omega) (by rw [← HX1E.out]; show (1 : Nat) ≤ _; omega)).mono ?_
  rintro _ w9 ⟨rfl, hr⟩
  obtain ⟨X2, hX2⟩ : ∃ X2 : RSt, tickedN X1 tk = X2 := ⟨_, rfl⟩
  rw [hX2] at hr
  have hk2 : X2.kept = X1.kept := by rw [← hX2]; rfl
  have HC9 := Lib.hid (HKE.out.chg HR8.out.bel hr (fun k o e => by rw [hk2]; exact e) (.inr (by have h1 := HS1.out; have h2 := HSZ8.out; omega)) (by have h1 := HS1.out; have h2 := HSZ8.out; omega))
  have HKE9 := Lib.hid (HKE.out.go hr (fun k o e => by rw [hk2]; exact e)).1
  have HR9 := Lib.hid hr; have HX2E := Lib.hid hX2
  clear hr hk2 hX2 ek htk hrl
  have hB8 : Bel wn w8 := HB9.out.trans HBW2.out
  have HR4 := Lib.hid (show ∀ P : Nat → Prop, (∀ k, (k = p4 ∨ (w1.heap.size ≤ k ∧ k < w8.heap.size)) → P k) → P p4 ∧ P p11 ∧ P g ∧ P (g + 1) from fun P h => by
    have h1 := HS1.out; have h2 := HSZ8.out
    exact ⟨h _ (.inl rfl), h _ (.inr (by omega)), h _ (.inr (by omega)), h _ (.inr (by omega))⟩)
  have HRR := Lib.hid (HR4.out (fun k => ¬ ¬ (k = p4 ∨ (w1.heap.size ≤ k ∧ k < w8.heap.size))) (fun k hk e => e hk))
  have HAS := Lib.hid (HR4.out (fun k => Has X2 w9 k) HKE9.out)
  have K49 := Lib.hid (HC9.out.get (GB.get hB8 K7.out) HRR.out.1)
  have K119 := Lib.hid (HC9.out.cell (GB.cell hB8 K117.out) HRR.out.2.1)
  have K139 := Lib.hid (HC9.out.cell K13.out HRR.out.2.2.2)
  have HBK9 := Lib.hid (HBK.out.chg HC9.out HRR.out.2.2.1 (fun k e => nomatch e))
  have HS9 := Lib.hid (show w1.heap.size ≤ wn.heap.size ∧ wn.heap.size ≤ wb.heap.size ∧ p11 < wn.heap.size from ⟨HC7.out.size, Below.size HB8.out, World.block_lt_of_cell? _ _ K117.out⟩)
  have HSP9 := Lib.hid (slK (HSP.out.stepB (HBB.out.trans HBW2.out)) HC9.out (fun ad e hlt => .inr ⟨by have h1 := HAP.out ad e; have h2 := HS9.out; omega, hlt⟩))
  have HSQ9 := Lib.hid (slK (HSQ.out.stepB HBW2.out) HC9.out (fun ad e hlt => .inr ⟨by have h1 := HAQ.out ad e; have h2 := HS9.out; omega, hlt⟩))
  have HBKB := Lib.hid (show BookIs w9 (B 1) (B 2) [] by have := HR9.out.book; rw [← HX2E.out, ← HX1E.out] at this; exact this)
  have hkne : ∀ k j, j < 20 → Has X2 w9 k → k ≠ B j := fun k j hj hh => by obtain ⟨o, e⟩ := hh.some; exact HR9.out.kne e j hj
  have HM1K := Lib.hid (make1_any w6 g (B 1) (B 2) (g + 1) p4 p11 ⟨none, 0, 0⟩ [] N [] Ap m1 cp ys1 w9 HBK9.out HBKB.out K139.out K49.out K119.out
    (by
      rintro k (e | e)
      · subst e
        have h1 := HS1.out; have h2 := HS9.out; have h3 := Below.size HB9.out; have h4 := HG.out
        exact ⟨hkne k 1 (by omega) HAS.out.2.2.1, hkne k 2 (by omega) HAS.out.2.2.1, by omega, by omega⟩
      · cases e) ⟨hkne p4 2 (by omega) HAS.out.1, hkne p11 2 (by omega) HAS.out.2.1⟩ HSP9.out (by have := HM1.out; omega) (by rw [HNE.out.1]; omega) (by rw [HNE.out.1]; omega) (by rw [HNE.out.2]; omega) (by show (0 : Nat) ≤ _; omega) (by show (0 : Nat) ≤ _; omega))
  clear hB8 hkne
  go_wp2_with fail
  refine HM1K.out.mono ?_
  rintro _ wA ⟨ho5, L5, rfl, hbd, hll, hbkA, hch, hoo⟩
  clear HM1K
  obtain ⟨cm, hcm⟩ : ∃ cm, madeC N (ofL N default ys1) m1 [] = cm := ⟨_, rfl⟩
  rw [hcm]
  have k15 := get?_new (w := wA) 70 (default : GMsg)
  have f15 : blkFree (wA.alloc (.cells (GMsg.enc default).toArray 70)) wA.heap.size = true := blkFree_new _ _ rfl
  change get? GMsg (wA.alloc (.cells (GMsg.enc default).toArray 70)) _ = _ at k15
  go_wp2_with fail
  have k15b : get? GMsg (wA.alloc (.cells (GMsg.enc (msgC cm 2)).toArray 70)) ⟨wA.heap.size, 0, none⟩ = some (msgC cm 2) := get?_new (w := wA) 70 (msgC cm 2)
  have f15b : blkFree (wA.alloc (.cells (GMsg.enc (msgC cm 2)).toArray 70)) wA.heap.size = true := blkFree_new _ _ rfl
  have hbA : Bel wA (wA.alloc (.cells (GMsg.enc (msgC cm 2)).toArray 70)) := (Bel.refl wA).alloc _
  have hzA : (wA.alloc (.cells (GMsg.enc (msgC cm 2)).toArray 70)).heap.size = wA.heap.size + 1 := by simp
  obtain ⟨p15, hp15⟩ : ∃ p15, wA.heap.size = p15 := ⟨_, rfl⟩
  rw [hp15] at k15b f15b hzA ⊢
  generalize wA.alloc (.cells (GMsg.enc (msgC cm 2)).toArray 70) = w10 at k15b f15b hbA hzA ⊢
  have hc10 : Chg (fun k => k = g ∨ k = B 2) w9 w10 := (hch.sub (fun k e => e.elim (fun e => e.elim .inl (fun e => nomatch e)) .inr)).tr (Chg.of_bel hbA _)
  have hr10 := HR9.out.lawBook (S := fun k => k = g) (b := signB [] (keyC N (ofL N default ys1) m1)) (by rw [← HX2E.out, ← HX1E.out]; rfl) hc10 (hbkA.step hbA) (by rintro k e; have := HS1.out; have e : k = g := e; omega) (by
    rintro k e
    have e : k = g := e
    obtain ⟨o, e2⟩ := HAS.out.2.2.1.some
    left; rw [e, e2]; rfl)
  obtain ⟨X3, hX3⟩ : ∃ X3 : RSt, ({ X2 with book := signB [] (keyC N (ofL N default ys1) m1), kept := keepNew X2.kept w9 w10 } : RSt) = X3 := ⟨_, rfl⟩
  rw [hX3] at hr10
  have HKE10 := Lib.hid (HKE9.out.law (y := X3) hc10.size (by rw [← hX3]))
  have hsz10 : p15 < w10.heap.size ∧ w9.heap.size ≤ p15 := ⟨by omega, by have := hch.size; omega⟩
  have HX3E := Lib.hid hX3; have HR10 := Lib.hid hr10; have K15 := Lib.hid k15b; have F15 := Lib.hid f15b; have HS10 := Lib.hid hsz10; have HC10 := Lib.hid hc10
  have HBKA := Lib.hid (hbd.step hbA); have HZ10 := Lib.hid hzA; have HLL5 := Lib.hid hll
  have HOO5 := Lib.hid (show ∀ k, ho5.val.ownBlock = some k → w9.heap.size ≤ k ∧ k < w10.heap.size ∧ k < p15 from fun k e => ⟨(hoo k e).elim (fun e => nomatch e) id, by have := (hbd.own.lt k e).2; omega, by have := (hbd.own.lt k e).2; omega⟩)
  have HCM := Lib.hid hcm
  clear k15 f15 k15b f15b hbA hzA hp15 hc10 hr10 hX3 hsz10 hbd hll hbkA hch hoo hcm
  have hcn : cm.name = N := by rw [← HCM.out]; rfl
  have hch : cm.hash = ofL N default ys1 := by rw [← HCM.out]; rfl
  have hcl : cm.len = m1 := by rw [← HCM.out]; rfl
  have hcs : cm.sig.by_ = 1000 + cm.name.client := by rw [← HCM.out]; rfl
  have hct : commitText cm = commitText ⟨N, ofL N default ys1, m1, default⟩ := by rw [← HCM.out]; rfl
  have hok : OkCommit ⟨1, 3⟩ cm := by
    have h1 := HNE.out.1; have h2 := HNE.out.2
    refine ⟨?_, ?_, ?_, ?_, ?_, ?_, ?_⟩
    · rw [hcn, h1]; omega
    · rw [hcn, h1]; show (nc : Int) < 3; omega
    · rw [hcn, h1]; omega
    · rw [hcn, h2]; omega
    · rw [hcn, h2]; omega
    · rw [hcl]; omega
    · rw [hcl]; have := HM1.out; omega
  have hrt : rightB X3.book ⟨cm.sig.by_, strB (commitText cm)⟩ cm.sig.mark = true := by
    rw [← HX3E.out]
    show rightB (signB [] (keyC N (ofL N default ys1) m1)) _ _ = true
    have e1 : (⟨cm.sig.by_, strB (commitText cm)⟩ : GBookSigned) = keyC N (ofL N default ys1) m1 := by rw [hcs, hct, hcn]; rfl
    have e2 : cm.sig.mark = markOf [] (keyC N (ofL N default ys1) m1) := by rw [← HCM.out]; rfl
    rw [e1, e2]
    exact rightB_sign [] _ (fun k => by rw [mget_nil]; decide)
  have hcalm : CalmS X3 tk := by
    rw [← HX3E.out, ← HX2E.out, ← HX1E.out]
    exact ⟨rfl, rfl, rfl, rfl, rfl, by show (0 : Int) + tk = tk; omega, HTK.out.1, by have := HTK.out; omega, (show (signB ([] : MBook) (keyC N (ofL N default ys1) m1)).length ≤ 1000 from Nat.le_trans (sign_len [] _) (by show (0 : Nat) + 1 ≤ _; omega)), rfl, rfl, rfl⟩
  have HOK := Lib.hid hok; have HRT := Lib.hid hrt; have HCS := Lib.hid hcs; have HCN := Lib.hid hcn; have HCH := Lib.hid hch; have HCA := Lib.hid hcalm
  clear hcn hch hcl hcs hct hok hrt hcalm
  have x15 := K15.out
  go_wp2_with fail
  refine (doGiveS_any w B X3 tk tk cm w10 HR10.out HCA.out (by rw [HCA.out.c]; exact HOK.out) HCS.out HRT.out (by rw [← HX3E.out, ← HX2E.out, ← HX1E.out]; exact mget_nil _) (by rw [← HX3E.out, ← HX2E.out, ← HX1E.out]; rfl) (by rw [HCA.out.now]; have := HTK.out; omega)).mono ?_
  rintro _ w11 ⟨hd1, K1, rfl, hr11, ho11, hka, hkb⟩
  obtain ⟨b1, cb1, rfl, g1, hb1le, hown1⟩ := sl_one ho11
  obtain ⟨Y1, hY1⟩ : ∃ Y1, stampY 2 cm tk (markOf X3.book (keyS 2 cm tk)) = Y1 := ⟨_, rfl⟩
  rw [hY1] at g1
  obtain ⟨X4, hX4⟩ : ∃ X4 : RSt, ({ gave X3 cm tk with ho := nilH, out := [], kept := K1 } : RSt) = X4 := ⟨_, rfl⟩
  rw [hX4] at hr11
  have hk4 : X4.kept = K1 := by rw [← hX4]
  have hgo := HKE10.out.go hr11 (fun k o e => by rw [hk4]; exact hkb k o e)
  have HMN := Lib.hid (show ∀ k o, X3.kept k = some o → X4.kept k = some o from fun k o e => by rw [hk4]; exact hkb k o e)
  have HHB1 := Lib.hid (show Has X4 w11 b1 from ⟨by rw [hk4]; exact hka b1 hown1, get?_lt g1⟩)
  have HKE11 := Lib.hid hgo.1; have HEQ11 := Lib.hid hgo.2
  have HNB1 := Lib.hid (show ∀ k, (k = g ∨ ho5.val.ownBlock = some k) → ¬ b1 = k from fun k e e2 => by
    subst e2
    obtain ⟨cur, hcur⟩ := own_cells ho11 hown1
    rcases e with e | e
    · have h1 := GRef01Book.at_l HBKA.out.at_
      have h2 := GMsg.at_kind g1
      simp only [Addr.add_lit, Nat.add_zero] at h1 h2
      have h3 := World.cell?_of_block (w := w10) (w' := w11) (a := ⟨g, 0, none⟩) (hgo.2 g (.inl (.inr (by have h4 := HS1.out; have h5 := HSZ8.out; omega))))
      rw [h1, ← e, h2] at h3
      cases h3
    · obtain ⟨cur2, hcur2⟩ := own_cells HBKA.out.own e
      have h3 := hgo.2 b1 (.inr ⟨(HOO5.out b1 e).1, (HOO5.out b1 e).2.1⟩)
      rw [hcur, hcur2] at h3
      injection h3 with h3
      injection h3 with h3 h4
      exact absurd h4 (by decide))
  have HR11 := Lib.hid hr11; have HX4E := Lib.hid hX4; have G1 := Lib.hid g1; have HY1E := Lib.hid hY1
  clear hr11 ho11 hka hkb g1 hb1le hown1 hY1 hX4 hk4 hgo x15
  go_wp2_with fail
  refine (doTicks_any w B X4 3 default w11 HR11.out (by rw [← HX4E.out, ← HX3E.out, ← HX2E.out, ← HX1E.out]; rfl) (by rw [← HX4E.out]) (by rw [← HX4E.out]) rfl (by omega) (by rw [← HX4E.out]; show (0 : Int) ≤ X3.now; rw [HCA.out.now]; omega) (by rw [← HX4E.out]; show X3.now ≤ _; rw [HCA.out.now]; have := HTK.out; omega) (by rw [← HX4E.out]; show ∀ t ∈ X3.timers, X3.now + 3 < t.due; rw [HCA.out.tm, HCA.out.now]; intro t ht; obtain rfl : t = ⟨10, ⟨1, 0⟩⟩ := (by simpa using ht); have := HTK.out; show (tk : Int) + 3 < 10; omega) (by rw [← HX4E.out]; show ∀ k : Nat, 1 ≤ k → k ≤ 3 → (X3.now + k) % 10 ≠ 0; rw [HCA.out.now]; intro k h1 h2; have := HTK.out; omega) (by rw [← HX4E.out]; show X3.timers.length ≤ _; rw [HCA.out.tm]; show (1 : Nat) ≤ _; omega)).mono ?_
  rintro _ w12 ⟨rfl, hr12⟩
  obtain ⟨X5, hX5⟩ : ∃ X5 : RSt, tickedN X4 3 = X5 := ⟨_, rfl⟩
  rw [hX5] at hr12
  have hk5 : X5.kept = X4.kept := by rw [← hX5]; rfl
  have hgo := HKE11.out.go hr12 (fun k o e => by rw [hk5]; exact e)
  have hgb := HHB1.out.go hr12 (congrFun hk5 b1)
  have HMN5 := Lib.hid (show ∀ k o, X3.kept k = some o → X5.kept k = some o from fun k o e => by rw [hk5]; exact HMN.out k o e)
  have HKE12 := Lib.hid hgo.1; have HEQ12 := Lib.hid (show ∀ k, ((k = p4 ∨ (w1.heap.size ≤ k ∧ k < w8.heap.size)) ∨ (w9.heap.size ≤ k ∧ k < w10.heap.size)) → w12.heap[k]? = w10.heap[k]? from fun k hk => (hgo.2 k hk).trans (HEQ11.out k hk))
  have HHB12 := Lib.hid hgb.1; have G12 := Lib.hid ((get?_keep (a := ⟨b1, 0, none⟩) hgb.2).trans G1.out)
  have HR12 := Lib.hid hr12; have HX5E := Lib.hid hX5
  clear hr12 hX5 hk5 hgo hgb
  have hR15 : ((p15 = p4 ∨ (w1.heap.size ≤ p15 ∧ p15 < w8.heap.size)) ∨ (w9.heap.size ≤ p15 ∧ p15 < w10.heap.size)) := .inr ⟨HS10.out.2, HS10.out.1⟩
  have HR15 := Lib.hid hR15
  have x15 := (get?_keep (a := ⟨p15, 0, none⟩) (HEQ12.out p15 hR15)).trans K15.out
  have hcalm5 : CalmS X5 (tk + 3) := by
    have hc := HCA.out
    rw [← HX5E.out, ← HX4E.out]
    exact ⟨hc.st, rfl, rfl, hc.c, hc.id, by show X3.now + ((3 : Nat) : Int) = ((tk + 3 : Nat) : Int); rw [hc.now]; push_cast; rfl, by omega, by have := HTK.out; omega, Nat.le_trans (sign_len _ _) (by have h1 : X3.book.length ≤ 1 := (by rw [← HX3E.out]; exact sign_len [] _); omega), hc.pv, hc.fl, hc.tm⟩
  have hrt5 : rightB X5.book ⟨cm.sig.by_, strB (commitText cm)⟩ cm.sig.mark = true := by
    rw [← HX5E.out, ← HX4E.out]
    exact rightB_keep HRT.out
  have hst5 : mget X5.stamps cm.name = some Y1 := by
    rw [← HX5E.out, ← HX4E.out]
    show mget (X3.stamps ++ [(cm.name, stampY X3.id cm tk (markOf X3.book (keyS X3.id cm tk)))]) cm.name = some Y1
    rw [HCA.out.id, HY1E.out, show X3.stamps = [] by rw [← HX3E.out, ← HX2E.out, ← HX1E.out]; rfl]
    simp [mget]
  have hyh : Y1.hash = cm.hash := by rw [← HY1E.out]; rfl
  have HC5 := Lib.hid hcalm5; have HRT5 := Lib.hid hrt5; have HST5 := Lib.hid hst5; have HYH := Lib.hid hyh
  clear hR15 hcalm5 hrt5 hst5 hyh
  go_wp2_with fail
  refine (doAgainS_any w B X5 (tk + 3) cm Y1 w12 HR12.out HC5.out (by rw [HC5.out.c]; exact HOK.out) HCS.out HRT5.out HST5.out HYH.out).mono ?_
  rintro _ w13 ⟨hd2, K2, rfl, hr13, ho13, hka, hkb⟩
  obtain ⟨b2, cb2, rfl, g2, hb2le, hown2⟩ := sl_one ho13
  obtain ⟨X6, hX6⟩ : ∃ X6 : RSt, ({ X5 with ho := nilH, out := [], kept := K2 } : RSt) = X6 := ⟨_, rfl⟩
  rw [hX6] at hr13
  have hk6 : X6.kept = K2 := by rw [← hX6]
  have hgo := HKE12.out.go hr13 (fun k o e => by rw [hk6]; exact hkb k o e)
  have hgb : Has X6 w13 b1 ∧ w13.heap[b1]? = w12.heap[b1]? := by
    have h1 := Keeps.go (x := X5) (w := w12) (R := fun k => k = b1) (y := X6) (w' := w13) (fun k e => by have e : k = b1 := e; rw [e]; exact HHB12.out) hr13 (fun k o e => by rw [hk6]; exact hkb k o e)
    exact ⟨h1.1 b1 rfl, h1.2 b1 rfl⟩
  have HMN6 := Lib.hid (show ∀ k o, X3.kept k = some o → X6.kept k = some o from fun k o e => by rw [hk6]; exact hkb k o (HMN5.out k o e))
  have HC13 := Lib.hid (HKE10.out.chg HR10.out.bel hr13 HMN6.out (.inr (by have h1 := HS10.out; have h2 := HZ10.out; omega)) (by have h1 := HS10.out; omega))
  have HKE13 := Lib.hid hgo.1; have HEQ13 := Lib.hid (show ∀ k, ((k = p4 ∨ (w1.heap.size ≤ k ∧ k < w8.heap.size)) ∨ (w9.heap.size ≤ k ∧ k < w10.heap.size)) → w13.heap[k]? = w10.heap[k]? from fun k hk => (hgo.2 k hk).trans (HEQ12.out k hk))
  have HHB13 := Lib.hid hgb.1; have G13 := Lib.hid ((get?_keep (a := ⟨b1, 0, none⟩) hgb.2).trans G12.out)
  have HR13 := Lib.hid hr13; have HX6E := Lib.hid hX6; have G2 := Lib.hid g2
  have X15 := Lib.hid ((get?_keep (a := ⟨p15, 0, none⟩) (HEQ13.out p15 HR15.out)).trans K15.out)
  clear hr13 ho13 hka hkb g2 hb2le hown2 hX6 hk6 hgo hgb x15
  have hpl : PlainM (sent 2 (1000 + cm.name.client) (stampMsg Y1)) := plain_sent (plain_stampMsg Y1) _ _
  have HPL := Lib.hid hpl
  clear hpl
  go_upto_region 14 with fail
  go_cut [102] (fun bv wx => bv = .bool false ∧ Hid (Bel w13 wx))
  case first =>
    refine wp_region_G GB [] GB.rf (by kernel_rfl) ?_
    refine wpG_looks 0 40 [0, 1, 2, 3, 4, 5, 6, 7, 8, 9, 10, 11, 12, 13, 14, 15, 16, 17, 18, 19, 20, 21, 22, 23, 24, 25, 26, 27, 28, 29, 30, 31] rfl GB.rf GB.tr (by kernel_rfl) (fun _ _ _ _ hd h => And.intro (hd ▸ And.left h) (And.right h)) rfl (by kernel_rfl) ?_
    intro ι W9 hne CW
    have t0 := GMsg.at_kind G13.out
    have t1 := GMsg.at_from_ G13.out
    have t2 := GMsg.at_to G13.out
    have t3 := GMsg.at_from_ X15.out
    simp only [Addr.add_lit, Nat.zero_add, Nat.add_zero] at t0 t1 t2 t3
    change w13.cell? ⟨b1, 0, none⟩ = some (.int .i64 2) at t0
    change w13.cell? ⟨b1, 1, none⟩ = some (.int .i64 2) at t1
    change w13.cell? ⟨b1, 2, none⟩ = some (.int .i64 (1000 + cm.name.client)) at t2
    change w13.cell? ⟨p15, 1, none⟩ = some (.int .i64 (1000 + cm.name.client)) at t3
    have y0 := fun z => GB.cell (CW.out z) t0
    have y1 := fun z => GB.cell (CW.out z) t1
    have y2 := fun z => GB.cell (CW.out z) t2
    have y3 := fun z => GB.cell (CW.out z) t3
    have HG1 := Lib.hid (fun z => GB.get (CW.out z) G13.out); have HG2 := Lib.hid (fun z => GB.get (CW.out z) G2.out)
    clear t0 t1 t2 t3
    iterate 29 (refine wpLooksG_step (fun K hK => ?_); go_simp; refine hK _ ?_; clear hK K)
    refine wpLooksG_step (fun K hK => ?_)
    go_simp
    refine ⟨_, fun z => (sameMsgs_any (some ⟨b1, 0, none⟩) (some ⟨b2, 0, none⟩) 1 cb1 cb2 [sent 2 (1000 + cm.name.client) (stampMsg Y1)] (W9 z) (sl_of (HG1.out z)) (sl_of (HG2.out z)) (fun m hm => by
      have e : m = sent 2 (1000 + cm.name.client) (stampMsg Y1) := by simpa using hm
      rw [e]; exact HPL.out) (by omega)).mono (fun e w' h => ⟨h.1, h.2⟩), hK _ ?_⟩
    clear hK K
    repeat (refine wpLooksG_step (fun K hK => ?_); go_simp; refine hK _ ?_; clear hK K)
    refine wpLooksG_nil ?_
    clear y0 y1 y2 y3 HG1 HG2 CW hne W9 ι
    refine wpG_end (by kernel_rfl) (fun wz hwz => ?_) _
    have HZZ := Lib.hid (GB.undrew hwz)
    clear hwz
    go_wp2_with fail
    go_meet
    exact ⟨rfl, HZZ⟩
  case rest =>
    obtain ⟨rfl, hcf⟩ := hcut
    rename World => w14
    have HB14 := Lib.hid (show Bel w13 w14 from hcf.out)
    clear hcf
    go_upto_region 16 with fail
    have hkn : ∀ k, (k = p4 ∨ (w1.heap.size ≤ k ∧ k < w8.heap.size)) → k ≠ B 2 := fun k hk => by obtain ⟨o, e⟩ := (HKE9.out k hk).some; exact HR9.out.kne e 2 (by omega)
    have HLTS := Lib.hid (show w6.heap.size = g ∧ w8.heap.size = g + 2 ∧ w1.heap.size ≤ wn.heap.size ∧ wn.heap.size ≤ wb.heap.size ∧ wb.heap.size ≤ g ∧ p4 < w1.heap.size ∧ p11 = w1.heap.size ∧ p11 < wn.heap.size from by
      have h1 := HG.out; have h2 := HSZ8.out; have h3 := HS9.out; have h4 := HS1.out; have h5 := Below.size HBB.out
      exact ⟨h1, h2, h3.1, h3.2.1, by omega, h4.2.1, h4.2.2.1, h3.2.2⟩)
    have n4 : ¬ (p4 = g ∨ p4 = B 2) := fun e => e.elim (fun e => by have := HLTS.out; omega) (hkn p4 (.inl rfl))
    have n11 : ¬ (p11 = g ∨ p11 = B 2) := fun e => e.elim (fun e => by have := HLTS.out; omega) (hkn p11 (.inr (by have := HLTS.out; omega)))
    have n13 : ¬ (g + 1 = g ∨ g + 1 = B 2) := fun e => e.elim (fun e => by omega) (hkn (g + 1) (.inr (by have := HLTS.out; omega)))
    have r4 : ¬ ¬ ((p4 = p4 ∨ (w1.heap.size ≤ p4 ∧ p4 < w8.heap.size)) ∨ (w9.heap.size ≤ p4 ∧ p4 < w10.heap.size)) := fun e => e (.inl (.inl rfl))
    have r11 : ¬ ¬ ((p11 = p4 ∨ (w1.heap.size ≤ p11 ∧ p11 < w8.heap.size)) ∨ (w9.heap.size ≤ p11 ∧ p11 < w10.heap.size)) := fun e => e (.inl (.inr (by have := HLTS.out; omega)))
    have r13 : ¬ ¬ ((g + 1 = p4 ∨ (w1.heap.size ≤ g + 1 ∧ g + 1 < w8.heap.size)) ∨ (w9.heap.size ≤ g + 1 ∧ g + 1 < w10.heap.size)) := fun e => e (.inl (.inr (by have := HLTS.out; omega)))
    have rg : ¬ ¬ ((g = p4 ∨ (w1.heap.size ≤ g ∧ g < w8.heap.size)) ∨ (w9.heap.size ≤ g ∧ g < w10.heap.size)) := fun e => e (.inl (.inr (by have := HLTS.out; omega)))
    have K414 := Lib.hid (GB.get HB14.out (HC13.out.get (HC10.out.get K49.out n4) r4))
    have K1114 := Lib.hid (GB.cell HB14.out (HC13.out.cell (HC10.out.cell K119.out n11) r11))
    have K1314 := Lib.hid (GB.cell HB14.out (HC13.out.cell (HC10.out.cell K139.out n13) r13))
    have HBK14 := Lib.hid ((HBKA.out.chg HC13.out rg (fun k e hr => hr (.inr ⟨(HOO5.out k e).1, (HOO5.out k e).2.1⟩))).step HB14.out)
    have HSQ10 := Lib.hid (Sl.chg HC10.out HSQ9.out (fun hn ad e => by
      have h0 := HAQ.out ad e
      have h1 : ad.block < w6.heap.size := by
        obtain ⟨ad', e', hlt, _⟩ := HSQ.out.2 hn
        rw [e] at e'; injection e' with e'; subst e'; exact hlt
      have h2 := HLTS.out
      exact fun e2 => e2.elim (fun e2 => by omega) (hkn ad.block (.inr (by omega)))))
    have HSQ14 := Lib.hid ((Sl.chg HC13.out HSQ10.out (fun hn ad e hr => by
      have h0 := HAQ.out ad e
      have h1 : ad.block < w6.heap.size := by
        obtain ⟨ad', e', hlt, _⟩ := HSQ.out.2 hn
        rw [e] at e'; injection e' with e'; subst e'; exact hlt
      have h2 := HLTS.out
      exact hr (.inl (.inr (by omega))))).stepB HB14.out)
    have HBKI := Lib.hid (HR13.out.book.step HB14.out)
    have hkx : ∀ k, ((k = p4 ∨ (w1.heap.size ≤ k ∧ k < w8.heap.size)) ∨ (w9.heap.size ≤ k ∧ k < w10.heap.size)) → ∀ j < 20, k ≠ B j := fun k hk j hj => by obtain ⟨o, e⟩ := (HKE13.out k hk).some; exact HR13.out.kne e j hj
    have HKX := Lib.hid hkx
    have HS5 := Lib.hid (show ∀ k, (k = g ∨ ho5.val.ownBlock = some k) → ((k = p4 ∨ (w1.heap.size ≤ k ∧ k < w8.heap.size)) ∨ (w9.heap.size ≤ k ∧ k < w10.heap.size)) ∧ k ≠ p4 ∧ k ≠ p11 from fun k e => by
      have h := HLTS.out
      have h9 := HC9.out.size
      rcases e with e | e
      · exact ⟨.inl (.inr (by omega)), by omega, by omega⟩
      · have h2 := HOO5.out k e
        exact ⟨.inr ⟨h2.1, h2.2.1⟩, by omega, by omega⟩)
    have HCALL := Lib.hid (fun (wq : World) (hq : Bel w14 wq) => make1_any w6 g (B 1) (B 2) (g + 1) p4 p11 ho5 L5 N X6.book Aq mq cq ys2 wq (HBK14.out.step hq) (HBKI.out.step hq) (GB.cell hq K1314.out) (GB.get hq K414.out) (GB.cell hq K1114.out)
      (fun k e => ⟨HKX.out k (HS5.out k e).1 1 (by omega), HKX.out k (HS5.out k e).1 2 (by omega), (HS5.out k e).2.1, (HS5.out k e).2.2⟩)
      ⟨HKX.out p4 (.inl (.inl rfl)) 2 (by omega), HKX.out p11 (.inl (.inr (by have := HLTS.out; omega))) 2 (by omega)⟩ (HSQ14.out.stepB hq) (by have := HMQ.out; omega) (by rw [HNE.out.1]; omega) (by rw [HNE.out.1]; omega) (by rw [HNE.out.2]; omega) (by have := HLL5.out; simp only [List.length_nil] at this; omega)
      (by rw [← HX6E.out, ← HX5E.out, ← HX4E.out]; exact Nat.le_trans (sign_len _ _) (by have := HCA.out.bl; omega)))
    have X1514 := Lib.hid (GB.get HB14.out X15.out)
    clear hkn n4 n11 n13 r4 r11 r13 rg hkx
    obtain ⟨c2, hc2⟩ : ∃ c2, madeC N (ofL N default ys2) mq X6.book = c2 := ⟨_, rfl⟩
    have HC2 := Lib.hid hc2
    clear hc2
    have HBl0 := Lib.hid (Bel.refl w14)
    have HLB1 := Lib.hid (show (∀ p, w14.heap.size ≤ p → ¬ B 1 = p) ∧ (∀ p, w14.heap.size ≤ p → ¬ B 2 = p) from ⟨fun p h e => by have := (HR13.out.step HB14.out).lt 1 (by omega); omega, fun p h e => by have := (HR13.out.step HB14.out).lt 2 (by omega); omega⟩)
    have HSN := Lib.hid (show ∀ p, w14.heap.size ≤ p → ¬ ((p = g ∨ ho5.val.ownBlock = some p) ∨ p = B 2) from fun p h e => by
      have h1 := (HR13.out.step HB14.out).lt 2 (by omega)
      have h2 : ∀ k, (k = g ∨ ho5.val.ownBlock = some k) → k < w14.heap.size := fun k e => by
        have h3 := (HKE13.out k (HS5.out k e).1).2
        have h4 := Below.size HB14.out
        omega
      exact e.elim (fun e => by have := h2 p e; omega) (fun e => by omega))
    have HN15 := Lib.hid (show ¬ (((p15 = g ∨ ho5.val.ownBlock = some p15) ∨ p15 = B 2) ∨ w14.heap.size ≤ p15) from fun e => by
      have h1 := HLTS.out; have h2 := HS10.out; have h9 := HC9.out.size
      have h3 : p15 < w14.heap.size := get?_lt X1514.out
      rcases e with ((e | e) | e) | e
      · omega
      · have := (HOO5.out p15 e).2.2; omega
      · exact HKX.out p15 HR15.out 2 (by omega) e
      · omega)
    have HLB2 := Lib.hid (show B 1 < w14.heap.size ∧ B 2 < w14.heap.size from ⟨(HR13.out.step HB14.out).lt 1 (by omega), (HR13.out.step HB14.out).lt 2 (by omega)⟩)
    go_cut [18, 19, 20] (fun va vb vc wx => ∃ pa pb pc : Nat, va = .pointer (some ⟨pa, 0, none⟩) ∧ vb = .pointer (some ⟨pb, 0, none⟩) ∧ vc = .pointer (some ⟨pc, 0, none⟩) ∧ Hid (St3 w14 wx (fun k => (k = g ∨ ho5.val.ownBlock = some k) ∨ k = B 2) pa pb pc (msgC cm 2) (msgC c2 2) (msgC cm 2) (B 1) (B 2) (signB X6.book (keyC N (ofL N default ys2) mq))))
    case first => as_aux_lemma =>
      refine wp_region_H GB (Chg (fun k => ((k = g ∨ ho5.val.ownBlock = some k) ∨ k = B 2) ∨ w14.heap.size ≤ k)) [3, 8, 9, 10] [] GB.rf (by kernel_rfl) ?_
      refine wpH_looks 7 24 [0, 1, 2, 4] rfl GB.rf GB.tr (Chg.refl _) (fun _ _ _ => Chg.tr) (fun _ _ h => Chg.of_bel h _) (by kernel_rfl) (fun _ _ _ _ hd h => And.intro (hd ▸ And.left h) (And.right h)) rfl (by kernel_rfl) ?_
      intro ι W9 hne CW
      have y0 := fun z => (CW.out z).get X1514.out HN15.out
      repeat (refine wpLooksG_step (fun K hK => ?_); go_simp; refine hK _ ?_; clear hK K)
      refine wpLooksG_nil ?_
      clear y0 CW hne W9 ι
      refine wpH_list [3, 5, 6, 7] (by simp) (by kernel_rfl) ?_
      intro t ht
      simp only [List.mem_cons, List.not_mem_nil, or_false] at ht
      rcases ht with rfl | rfl | rfl | rfl
      · refine ⟨_, rfl, rfl, fun wi0_0 hi0_0 K hK => ?_⟩
        go_simp
        have hb0 : Bel w14 wi0_0 := GB.undrew hi0_0
        refine (HCALL.out wi0_0 (HBl0.out.trans hb0)).mono ?_
        rintro _ wu0 ⟨ho6, L6, rfl, -, -, hbk0, hch0, -⟩
        rw [HC2.out]
        refine hK _ _ (fun h => absurd (by simp) h) (fun _ => hch0.sub (fun k e => .inl e)) ?_
        have HT0 := Lib.hid ((Chg.of_bel (HBl0.out.trans hb0) (fun k => (k = g ∨ ho5.val.ownBlock = some k) ∨ k = B 2)).tr hch0)
        have HK0 := Lib.hid hbk0
        clear hK K hbk0 hch0 hb0 hi0_0
        refine wpH_list [5, 6, 7] (by simp) (by kernel_rfl) ?_
        intro t ht
        simp only [List.mem_cons, List.not_mem_nil, or_false] at ht
        rcases ht with rfl | rfl | rfl
        · refine ⟨_, rfl, rfl, fun wi1_1 hi1_1 K hK => ?_⟩
          go_simp
          have hb1 : Bel wu0 wi1_1 := hi1_1
          refine hK _ _ (fun _ => GB.al _ _) (fun _ => Chg.of_bel (GB.al _ _) _) ?_
          have hn1 := AlM.new (w0 := w14) (w := wi1_1) (Nat.le_trans HT0.out.size (Below.size hb1))
          have hx1 : Bel wu0 (wi1_1.alloc (.cells (GMsg.enc default).toArray 70)) := (Bel.trans hb1 ((Bel.refl wi1_1).alloc _))
          have hl1 : wu0.heap.size ≤ wi1_1.heap.size := Below.size hb1
          obtain ⟨pa1, hp1⟩ : ∃ p, wi1_1.heap.size = p := ⟨_, rfl⟩
          rw [hp1] at hn1 hl1 ⊢
          change wpH _ _ _ _ _ _ _ _ _ _ _ (wi1_1.alloc (.cells (GMsg.enc default).toArray 70))
          generalize wi1_1.alloc (.cells (GMsg.enc default).toArray 70) = wv1 at hn1 hx1 ⊢
          have HT1 := Lib.hid (HT0.out.tr (Chg.of_bel hx1 _)); have HK1 := Lib.hid (HK0.out.step hx1)
          have HAa1 := Lib.hid hn1
          clear hK K hb1 hn1 hx1 hl1 hp1 hi1_1
          refine wpH_list [6, 7] (by simp) (by kernel_rfl) ?_
          intro t ht
          simp only [List.mem_cons, List.not_mem_nil, or_false] at ht
          rcases ht with rfl | rfl
          · refine ⟨_, rfl, rfl, fun wi2_2 hi2_2 K hK => ?_⟩
            go_simp
            have hb2 : Bel wv1 wi2_2 := hi2_2
            refine hK _ _ (fun _ => GB.al _ _) (fun _ => Chg.of_bel (GB.al _ _) _) ?_
            have hn2 := AlM.new (w0 := w14) (w := wi2_2) (Nat.le_trans HT1.out.size (Below.size hb2))
            have hx2 : Bel wv1 (wi2_2.alloc (.cells (GMsg.enc default).toArray 70)) := (Bel.trans hb2 ((Bel.refl wi2_2).alloc _))
            have hl2 : wv1.heap.size ≤ wi2_2.heap.size := Below.size hb2
            obtain ⟨pb2, hp2⟩ : ∃ p, wi2_2.heap.size = p := ⟨_, rfl⟩
            rw [hp2] at hn2 hl2 ⊢
            change wpH _ _ _ _ _ _ _ _ _ _ _ (wi2_2.alloc (.cells (GMsg.enc default).toArray 70))
            generalize wi2_2.alloc (.cells (GMsg.enc default).toArray 70) = wv2 at hn2 hx2 ⊢
            have HT2 := Lib.hid (HT1.out.tr (Chg.of_bel hx2 _)); have HK2 := Lib.hid (HK1.out.step hx2)
            have HAb2 := Lib.hid hn2
            have HAa2 := Lib.hid (HAa1.out.step hx2); have HDab2 := Lib.hid (show ¬ pa1 = pb2 from fun e => by have := HAa1.out.lt; omega)
            clear hK K hb2 hn2 hx2 hl2 hp2 hi2_2
            refine wpH_force 7 _ rfl (by kernel_rfl) rfl fun wi3_3 hi3_3 K hK => ?_
            go_simp
            have hb3 : Bel wv2 wi3_3 := hi3_3
            refine hK _ _ (fun _ => GB.al _ _) (fun _ => Chg.of_bel (GB.al _ _) _) ?_
            have hn3 := AlM.new (w0 := w14) (w := wi3_3) (Nat.le_trans HT2.out.size (Below.size hb3))
            have hx3 : Bel wv2 (wi3_3.alloc (.cells (GMsg.enc default).toArray 70)) := (Bel.trans hb3 ((Bel.refl wi3_3).alloc _))
            have hl3 : wv2.heap.size ≤ wi3_3.heap.size := Below.size hb3
            obtain ⟨pc3, hp3⟩ : ∃ p, wi3_3.heap.size = p := ⟨_, rfl⟩
            rw [hp3] at hn3 hl3 ⊢
            change wpH _ _ _ _ _ _ _ _ _ _ _ (wi3_3.alloc (.cells (GMsg.enc default).toArray 70))
            generalize wi3_3.alloc (.cells (GMsg.enc default).toArray 70) = wv3 at hn3 hx3 ⊢
            have HT3 := Lib.hid (HT2.out.tr (Chg.of_bel hx3 _)); have HK3 := Lib.hid (HK2.out.step hx3)
            have HAc3 := Lib.hid hn3
            have HAb3 := Lib.hid (HAb2.out.step hx3); have HDbc3 := Lib.hid (show ¬ pb2 = pc3 from fun e => by have := HAb2.out.lt; omega)
            have HAa3 := Lib.hid (HAa2.out.step hx3); have HDac3 := Lib.hid (show ¬ pa1 = pc3 from fun e => by have := HAa2.out.lt; omega)
            clear hK K hb3 hn3 hx3 hl3 hp3 hi3_3
            have HS := Lib.hid (show St3 w14 wv3 (fun k => (k = g ∨ ho5.val.ownBlock = some k) ∨ k = B 2) pa1 pb2 pc3 default default default (B 1) (B 2) (signB X6.book (keyC N (ofL N default ys2) mq)) from ⟨HAa3.out, HAb3.out, HAc3.out, HT3.out.sub (fun k e => .inl e), HK3.out, HDab2.out, HDac3.out, HDbc3.out, HLB2.out.1, HLB2.out.2⟩)
            refine wpH_force 8 _ rfl (by kernel_rfl) rfl fun ws hs K hK => ?_
            have hq := HS.out.step hs
            have kq := hq.a.k
            have fq := hq.a.f
            go_simp
            refine hK _ _ (fun h => absurd (by simp) h) (fun _ => hq.chA _) ?_
            replace HS := Lib.hid (hq.putA (msgC cm 2))
            generalize World.putCells ws ⟨pa1, 0, none⟩ (GMsg.enc (msgC cm 2)) = wp4 at HS ⊢
            clear hK K kq fq hq hs
            refine wpH_force 9 _ rfl (by kernel_rfl) rfl fun ws hs K hK => ?_
            have hq := HS.out.step hs
            have kq := hq.b.k
            have fq := hq.b.f
            go_simp
            refine hK _ _ (fun h => absurd (by simp) h) (fun _ => hq.chB _) ?_
            replace HS := Lib.hid (hq.putB (msgC c2 2))
            generalize World.putCells ws ⟨pb2, 0, none⟩ (GMsg.enc (msgC c2 2)) = wp5 at HS ⊢
            clear hK K kq fq hq hs
            refine wpH_force 10 _ rfl (by kernel_rfl) rfl fun ws hs K hK => ?_
            have hq := HS.out.step hs
            have kq := hq.c.k
            have fq := hq.c.f
            go_simp
            refine hK _ _ (fun h => absurd (by simp) h) (fun _ => hq.chC _) ?_
            replace HS := Lib.hid (hq.putC (msgC cm 2))
            generalize World.putCells ws ⟨pc3, 0, none⟩ (GMsg.enc (msgC cm 2)) = wp6 at HS ⊢
            clear hK K kq fq hq hs
            refine wpH_end (by kernel_rfl) (fun wn hwn => ?_) _
            have HF := Lib.hid (HS.out.step hwn)
            clear hwn HS
            go_wp2_with fail
            go_meet
            exact ⟨_, _, _, rfl, rfl, rfl, HF⟩
          · refine ⟨_, rfl, rfl, fun wi2_7 hi2_7 K hK => ?_⟩
            go_simp
            have hb7 : Bel wv1 wi2_7 := hi2_7
            refine hK _ _ (fun _ => GB.al _ _) (fun _ => Chg.of_bel (GB.al _ _) _) ?_
            have hn7 := AlM.new (w0 := w14) (w := wi2_7) (Nat.le_trans HT1.out.size (Below.size hb7))
            have hx7 : Bel wv1 (wi2_7.alloc (.cells (GMsg.enc default).toArray 70)) := (Bel.trans hb7 ((Bel.refl wi2_7).alloc _))
            have hl7 : wv1.heap.size ≤ wi2_7.heap.size := Below.size hb7
            obtain ⟨pc7, hp7⟩ : ∃ p, wi2_7.heap.size = p := ⟨_, rfl⟩
            rw [hp7] at hn7 hl7 ⊢
            change wpH _ _ _ _ _ _ _ _ _ _ _ (wi2_7.alloc (.cells (GMsg.enc default).toArray 70))
            generalize wi2_7.alloc (.cells (GMsg.enc default).toArray 70) = wv7 at hn7 hx7 ⊢
            have HT7 := Lib.hid (HT1.out.tr (Chg.of_bel hx7 _)); have HK7 := Lib.hid (HK1.out.step hx7)
            have HAc7 := Lib.hid hn7
            have HAa7 := Lib.hid (HAa1.out.step hx7); have HDac7 := Lib.hid (show ¬ pa1 = pc7 from fun e => by have := HAa1.out.lt; omega)
            clear hK K hb7 hn7 hx7 hl7 hp7 hi2_7
            refine wpH_force 6 _ rfl (by kernel_rfl) rfl fun wi3_8 hi3_8 K hK => ?_
            go_simp
            have hb8 : Bel wv7 wi3_8 := hi3_8
            refine hK _ _ (fun _ => GB.al _ _) (fun _ => Chg.of_bel (GB.al _ _) _) ?_
            have hn8 := AlM.new (w0 := w14) (w := wi3_8) (Nat.le_trans HT7.out.size (Below.size hb8))
            have hx8 : Bel wv7 (wi3_8.alloc (.cells (GMsg.enc default).toArray 70)) := (Bel.trans hb8 ((Bel.refl wi3_8).alloc _))
            have hl8 : wv7.heap.size ≤ wi3_8.heap.size := Below.size hb8
            obtain ⟨pb8, hp8⟩ : ∃ p, wi3_8.heap.size = p := ⟨_, rfl⟩
            rw [hp8] at hn8 hl8 ⊢
            change wpH _ _ _ _ _ _ _ _ _ _ _ (wi3_8.alloc (.cells (GMsg.enc default).toArray 70))
            generalize wi3_8.alloc (.cells (GMsg.enc default).toArray 70) = wv8 at hn8 hx8 ⊢
            have HT8 := Lib.hid (HT7.out.tr (Chg.of_bel hx8 _)); have HK8 := Lib.hid (HK7.out.step hx8)
            have HAb8 := Lib.hid hn8
            have HAc8 := Lib.hid (HAc7.out.step hx8); have HDcb8 := Lib.hid (show ¬ pc7 = pb8 from fun e => by have := HAc7.out.lt; omega)
            have HAa8 := Lib.hid (HAa7.out.step hx8); have HDab8 := Lib.hid (show ¬ pa1 = pb8 from fun e => by have := HAa7.out.lt; omega)
            clear hK K hb8 hn8 hx8 hl8 hp8 hi3_8
            have HS := Lib.hid (show St3 w14 wv8 (fun k => (k = g ∨ ho5.val.ownBlock = some k) ∨ k = B 2) pa1 pb8 pc7 default default default (B 1) (B 2) (signB X6.book (keyC N (ofL N default ys2) mq)) from ⟨HAa8.out, HAb8.out, HAc8.out, HT8.out.sub (fun k e => .inl e), HK8.out, HDab8.out, HDac7.out, (fun e => HDcb8.out e.symm), HLB2.out.1, HLB2.out.2⟩)
            refine wpH_force 8 _ rfl (by kernel_rfl) rfl fun ws hs K hK => ?_
            have hq := HS.out.step hs
            have kq := hq.a.k
            have fq := hq.a.f
            go_simp
            refine hK _ _ (fun h => absurd (by simp) h) (fun _ => hq.chA _) ?_
            replace HS := Lib.hid (hq.putA (msgC cm 2))
            generalize World.putCells ws ⟨pa1, 0, none⟩ (GMsg.enc (msgC cm 2)) = wp9 at HS ⊢
            clear hK K kq fq hq hs
            refine wpH_force 9 _ rfl (by kernel_rfl) rfl fun ws hs K hK => ?_
            have hq := HS.out.step hs
            have kq := hq.b.k
            have fq := hq.b.f
            go_simp
            refine hK _ _ (fun h => absurd (by simp) h) (fun _ => hq.chB _) ?_
            replace HS := Lib.hid (hq.putB (msgC c2 2))
            generalize World.putCells ws ⟨pb8, 0, none⟩ (GMsg.enc (msgC c2 2)) = wp10 at HS ⊢
            clear hK K kq fq hq hs
            refine wpH_force 10 _ rfl (by kernel_rfl) rfl fun ws hs K hK => ?_
            have hq := HS.out.step hs
            have kq := hq.c.k
            have fq := hq.c.f
            go_simp
            refine hK _ _ (fun h => absurd (by simp) h) (fun _ => hq.chC _) ?_
            replace HS := Lib.hid (hq.putC (msgC cm 2))
            generalize World.putCells ws ⟨pc7, 0, none⟩ (GMsg.enc (msgC cm 2)) = wp11 at HS ⊢
            clear hK K kq fq hq hs
            refine wpH_end (by kernel_rfl) (fun wn hwn => ?_) _
            have HF := Lib.hid (HS.out.step hwn)
            clear hwn HS
            go_wp2_with fail
            go_meet
            exact ⟨_, _, _, rfl, rfl, rfl, HF⟩
        · refine ⟨_, rfl, rfl, fun wi1_12 hi1_12 K hK => ?_⟩
          go_simp
          have hb12 : Bel wu0 wi1_12 := hi1_12
          refine hK _ _ (fun _ => GB.al _ _) (fun _ => Chg.of_bel (GB.al _ _) _) ?_
          have hn12 := AlM.new (w0 := w14) (w := wi1_12) (Nat.le_trans HT0.out.size (Below.size hb12))
          have hx12 : Bel wu0 (wi1_12.alloc (.cells (GMsg.enc default).toArray 70)) := (Bel.trans hb12 ((Bel.refl wi1_12).alloc _))
          have hl12 : wu0.heap.size ≤ wi1_12.heap.size := Below.size hb12
          obtain ⟨pb12, hp12⟩ : ∃ p, wi1_12.heap.size = p := ⟨_, rfl⟩
          rw [hp12] at hn12 hl12 ⊢
          change wpH _ _ _ _ _ _ _ _ _ _ _ (wi1_12.alloc (.cells (GMsg.enc default).toArray 70))
          generalize wi1_12.alloc (.cells (GMsg.enc default).toArray 70) = wv12 at hn12 hx12 ⊢
          have HT12 := Lib.hid (HT0.out.tr (Chg.of_bel hx12 _)); have HK12 := Lib.hid (HK0.out.step hx12)
          have HAb12 := Lib.hid hn12
          clear hK K hb12 hn12 hx12 hl12 hp12 hi1_12
          refine wpH_list [5, 7] (by simp) (by kernel_rfl) ?_
          intro t ht
          simp only [List.mem_cons, List.not_mem_nil, or_false] at ht
          rcases ht with rfl | rfl
          · refine ⟨_, rfl, rfl, fun wi2_13 hi2_13 K hK => ?_⟩
            go_simp
            have hb13 : Bel wv12 wi2_13 := hi2_13
            refine hK _ _ (fun _ => GB.al _ _) (fun _ => Chg.of_bel (GB.al _ _) _) ?_
            have hn13 := AlM.new (w0 := w14) (w := wi2_13) (Nat.le_trans HT12.out.size (Below.size hb13))
            have hx13 : Bel wv12 (wi2_13.alloc (.cells (GMsg.enc default).toArray 70)) := (Bel.trans hb13 ((Bel.refl wi2_13).alloc _))
            have hl13 : wv12.heap.size ≤ wi2_13.heap.size := Below.size hb13
            obtain ⟨pa13, hp13⟩ : ∃ p, wi2_13.heap.size = p := ⟨_, rfl⟩
            rw [hp13] at hn13 hl13 ⊢
            change wpH _ _ _ _ _ _ _ _ _ _ _ (wi2_13.alloc (.cells (GMsg.enc default).toArray 70))
            generalize wi2_13.alloc (.cells (GMsg.enc default).toArray 70) = wv13 at hn13 hx13 ⊢
            have HT13 := Lib.hid (HT12.out.tr (Chg.of_bel hx13 _)); have HK13 := Lib.hid (HK12.out.step hx13)
            have HAa13 := Lib.hid hn13
            have HAb13 := Lib.hid (HAb12.out.step hx13); have HDba13 := Lib.hid (show ¬ pb12 = pa13 from fun e => by have := HAb12.out.lt; omega)
            clear hK K hb13 hn13 hx13 hl13 hp13 hi2_13
            refine wpH_force 7 _ rfl (by kernel_rfl) rfl fun wi3_14 hi3_14 K hK => ?_
            go_simp
            have hb14 : Bel wv13 wi3_14 := hi3_14
            refine hK _ _ (fun _ => GB.al _ _) (fun _ => Chg.of_bel (GB.al _ _) _) ?_
            have hn14 := AlM.new (w0 := w14) (w := wi3_14) (Nat.le_trans HT13.out.size (Below.size hb14))
            have hx14 : Bel wv13 (wi3_14.alloc (.cells (GMsg.enc default).toArray 70)) := (Bel.trans hb14 ((Bel.refl wi3_14).alloc _))
            have hl14 : wv13.heap.size ≤ wi3_14.heap.size := Below.size hb14
            obtain ⟨pc14, hp14⟩ : ∃ p, wi3_14.heap.size = p := ⟨_, rfl⟩
            rw [hp14] at hn14 hl14 ⊢
            change wpH _ _ _ _ _ _ _ _ _ _ _ (wi3_14.alloc (.cells (GMsg.enc default).toArray 70))
            generalize wi3_14.alloc (.cells (GMsg.enc default).toArray 70) = wv14 at hn14 hx14 ⊢
            have HT14 := Lib.hid (HT13.out.tr (Chg.of_bel hx14 _)); have HK14 := Lib.hid (HK13.out.step hx14)
            have HAc14 := Lib.hid hn14
            have HAa14 := Lib.hid (HAa13.out.step hx14); have HDac14 := Lib.hid (show ¬ pa13 = pc14 from fun e => by have := HAa13.out.lt; omega)
            have HAb14 := Lib.hid (HAb13.out.step hx14); have HDbc14 := Lib.hid (show ¬ pb12 = pc14 from fun e => by have := HAb13.out.lt; omega)
            clear hK K hb14 hn14 hx14 hl14 hp14 hi3_14
            have HS := Lib.hid (show St3 w14 wv14 (fun k => (k = g ∨ ho5.val.ownBlock = some k) ∨ k = B 2) pa13 pb12 pc14 default default default (B 1) (B 2) (signB X6.book (keyC N (ofL N default ys2) mq)) from ⟨HAa14.out, HAb14.out, HAc14.out, HT14.out.sub (fun k e => .inl e), HK14.out, (fun e => HDba13.out e.symm), HDac14.out, HDbc14.out, HLB2.out.1, HLB2.out.2⟩)
            refine wpH_force 8 _ rfl (by kernel_rfl) rfl fun ws hs K hK => ?_
            have hq := HS.out.step hs
            have kq := hq.a.k
            have fq := hq.a.f
            go_simp
            refine hK _ _ (fun h => absurd (by simp) h) (fun _ => hq.chA _) ?_
            replace HS := Lib.hid (hq.putA (msgC cm 2))
            generalize World.putCells ws ⟨pa13, 0, none⟩ (GMsg.enc (msgC cm 2)) = wp15 at HS ⊢
            clear hK K kq fq hq hs
            refine wpH_force 9 _ rfl (by kernel_rfl) rfl fun ws hs K hK => ?_
            have hq := HS.out.step hs
            have kq := hq.b.k
            have fq := hq.b.f
            go_simp
            refine hK _ _ (fun h => absurd (by simp) h) (fun _ => hq.chB _) ?_
            replace HS := Lib.hid (hq.putB (msgC c2 2))
            generalize World.putCells ws ⟨pb12, 0, none⟩ (GMsg.enc (msgC c2 2)) = wp16 at HS ⊢
            clear hK K kq fq hq hs
            refine wpH_force 10 _ rfl (by kernel_rfl) rfl fun ws hs K hK => ?_
            have hq := HS.out.step hs
            have kq := hq.c.k
            have fq := hq.c.f
            go_simp
            refine hK _ _ (fun h => absurd (by simp) h) (fun _ => hq.chC _) ?_
            replace HS := Lib.hid (hq.putC (msgC cm 2))
            generalize World.putCells ws ⟨pc14, 0, none⟩ (GMsg.enc (msgC cm 2)) = wp17 at HS ⊢
            clear hK K kq fq hq hs
            refine wpH_end (by kernel_rfl) (fun wn hwn => ?_) _
            have HF := Lib.hid (HS.out.step hwn)
            clear hwn HS
            go_wp2_with fail
            go_meet
            exact ⟨_, _, _, rfl, rfl, rfl, HF⟩
          · refine ⟨_, rfl, rfl, fun wi2_18 hi2_18 K hK => ?_⟩
            go_simp
            have hb18 : Bel wv12 wi2_18 := hi2_18
            refine hK _ _ (fun _ => GB.al _ _) (fun _ => Chg.of_bel (GB.al _ _) _) ?_
            have hn18 := AlM.new (w0 := w14) (w := wi2_18) (Nat.le_trans HT12.out.size (Below.size hb18))
            have hx18 : Bel wv12 (wi2_18.alloc (.cells (GMsg.enc default).toArray 70)) := (Bel.trans hb18 ((Bel.refl wi2_18).alloc _))
            have hl18 : wv12.heap.size ≤ wi2_18.heap.size := Below.size hb18
            obtain ⟨pc18, hp18⟩ : ∃ p, wi2_18.heap.size = p := ⟨_, rfl⟩
            rw [hp18] at hn18 hl18 ⊢
            change wpH _ _ _ _ _ _ _ _ _ _ _ (wi2_18.alloc (.cells (GMsg.enc default).toArray 70))
            generalize wi2_18.alloc (.cells (GMsg.enc default).toArray 70) = wv18 at hn18 hx18 ⊢
            have HT18 := Lib.hid (HT12.out.tr (Chg.of_bel hx18 _)); have HK18 := Lib.hid (HK12.out.step hx18)
            have HAc18 := Lib.hid hn18
            have HAb18 := Lib.hid (HAb12.out.step hx18); have HDbc18 := Lib.hid (show ¬ pb12 = pc18 from fun e => by have := HAb12.out.lt; omega)
            clear hK K hb18 hn18 hx18 hl18 hp18 hi2_18
            refine wpH_force 5 _ rfl (by kernel_rfl) rfl fun wi3_19 hi3_19 K hK => ?_
            go_simp
            have hb19 : Bel wv18 wi3_19 := hi3_19
            refine hK _ _ (fun _ => GB.al _ _) (fun _ => Chg.of_bel (GB.al _ _) _) ?_
            have hn19 := AlM.new (w0 := w14) (w := wi3_19) (Nat.le_trans HT18.out.size (Below.size hb19))
            have hx19 : Bel wv18 (wi3_19.alloc (.cells (GMsg.enc default).toArray 70)) := (Bel.trans hb19 ((Bel.refl wi3_19).alloc _))
            have hl19 : wv18.heap.size ≤ wi3_19.heap.size := Below.size hb19
            obtain ⟨pa19, hp19⟩ : ∃ p, wi3_19.heap.size = p := ⟨_, rfl⟩
            rw [hp19] at hn19 hl19 ⊢
            change wpH _ _ _ _ _ _ _ _ _ _ _ (wi3_19.alloc (.cells (GMsg.enc default).toArray 70))
            generalize wi3_19.alloc (.cells (GMsg.enc default).toArray 70) = wv19 at hn19 hx19 ⊢
            have HT19 := Lib.hid (HT18.out.tr (Chg.of_bel hx19 _)); have HK19 := Lib.hid (HK18.out.step hx19)
            have HAa19 := Lib.hid hn19
            have HAc19 := Lib.hid (HAc18.out.step hx19); have HDca19 := Lib.hid (show ¬ pc18 = pa19 from fun e => by have := HAc18.out.lt; omega)
            have HAb19 := Lib.hid (HAb18.out.step hx19); have HDba19 := Lib.hid (show ¬ pb12 = pa19 from fun e => by have := HAb18.out.lt; omega)
            clear hK K hb19 hn19 hx19 hl19 hp19 hi3_19
            have HS := Lib.hid (show St3 w14 wv19 (fun k => (k = g ∨ ho5.val.ownBlock = some k) ∨ k = B 2) pa19 pb12 pc18 default default default (B 1) (B 2) (signB X6.book (keyC N (ofL N default ys2) mq)) from ⟨HAa19.out, HAb19.out, HAc19.out, HT19.out.sub (fun k e => .inl e), HK19.out, (fun e => HDba19.out e.symm), (fun e => HDca19.out e.symm), HDbc18.out, HLB2.out.1, HLB2.out.2⟩)
            refine wpH_force 8 _ rfl (by kernel_rfl) rfl fun ws hs K hK => ?_
            have hq := HS.out.step hs
            have kq := hq.a.k
            have fq := hq.a.f
            go_simp
            refine hK _ _ (fun h => absurd (by simp) h) (fun _ => hq.chA _) ?_
            replace HS := Lib.hid (hq.putA (msgC cm 2))
            generalize World.putCells ws ⟨pa19, 0, none⟩ (GMsg.enc (msgC cm 2)) = wp20 at HS ⊢
            clear hK K kq fq hq hs
            refine wpH_force 9 _ rfl (by kernel_rfl) rfl fun ws hs K hK => ?_
            have hq := HS.out.step hs
            have kq := hq.b.k
            have fq := hq.b.f
            go_simp
            refine hK _ _ (fun h => absurd (by simp) h) (fun _ => hq.chB _) ?_
            replace HS := Lib.hid (hq.putB (msgC c2 2))
            generalize World.putCells ws ⟨pb12, 0, none⟩ (GMsg.enc (msgC c2 2)) = wp21 at HS ⊢
            clear hK K kq fq hq hs
            refine wpH_force 10 _ rfl (by kernel_rfl) rfl fun ws hs K hK => ?_
            have hq := HS.out.step hs
            have kq := hq.c.k
            have fq := hq.c.f
            go_simp
            refine hK _ _ (fun h => absurd (by simp) h) (fun _ => hq.chC _) ?_
            replace HS := Lib.hid (hq.putC (msgC cm 2))
            generalize World.putCells ws ⟨pc18, 0, none⟩ (GMsg.enc (msgC cm 2)) = wp22 at HS ⊢
            clear hK K kq fq hq hs
            refine wpH_end (by kernel_rfl) (fun wn hwn => ?_) _
            have HF := Lib.hid (HS.out.step hwn)
            clear hwn HS
            go_wp2_with fail
            go_meet
            exact ⟨_, _, _, rfl, rfl, rfl, HF⟩
        · refine ⟨_, rfl, rfl, fun wi1_23 hi1_23 K hK => ?_⟩
          go_simp
          have hb23 : Bel wu0 wi1_23 := hi1_23
          refine hK _ _ (fun _ => GB.al _ _) (fun _ => Chg.of_bel (GB.al _ _) _) ?_
          have hn23 := AlM.new (w0 := w14) (w := wi1_23) (Nat.le_trans HT0.out.size (Below.size hb23))
          have hx23 : Bel wu0 (wi1_23.alloc (.cells (GMsg.enc default).toArray 70)) := (Bel.trans hb23 ((Bel.refl wi1_23).alloc _))
          have hl23 : wu0.heap.size ≤ wi1_23.heap.size := Below.size hb23
          obtain ⟨pc23, hp23⟩ : ∃ p, wi1_23.heap.size = p := ⟨_, rfl⟩
          rw [hp23] at hn23 hl23 ⊢
          change wpH _ _ _ _ _ _ _ _ _ _ _ (wi1_23.alloc (.cells (GMsg.enc default).toArray 70))
          generalize wi1_23.alloc (.cells (GMsg.enc default).toArray 70) = wv23 at hn23 hx23 ⊢
          have HT23 := Lib.hid (HT0.out.tr (Chg.of_bel hx23 _)); have HK23 := Lib.hid (HK0.out.step hx23)
          have HAc23 := Lib.hid hn23
          clear hK K hb23 hn23 hx23 hl23 hp23 hi1_23
          refine wpH_list [5, 6] (by simp) (by kernel_rfl) ?_
          intro t ht
          simp only [List.mem_cons, List.not_mem_nil, or_false] at ht
          rcases ht with rfl | rfl
          · refine ⟨_, rfl, rfl, fun wi2_24 hi2_24 K hK => ?_⟩
            go_simp
            have hb24 : Bel wv23 wi2_24 := hi2_24
            refine hK _ _ (fun _ => GB.al _ _) (fun _ => Chg.of_bel (GB.al _ _) _) ?_
            have hn24 := AlM.new (w0 := w14) (w := wi2_24) (Nat.le_trans HT23.out.size (Below.size hb24))
            have hx24 : Bel wv23 (wi2_24.alloc (.cells (GMsg.enc default).toArray 70)) := (Bel.trans hb24 ((Bel.refl wi2_24).alloc _))
            have hl24 : wv23.heap.size ≤ wi2_24.heap.size := Below.size hb24
            obtain ⟨pa24, hp24⟩ : ∃ p, wi2_24.heap.size = p := ⟨_, rfl⟩
            rw [hp24] at hn24 hl24 ⊢
            change wpH _ _ _ _ _ _ _ _ _ _ _ (wi2_24.alloc (.cells (GMsg.enc default).toArray 70))
            generalize wi2_24.alloc (.cells (GMsg.enc default).toArray 70) = wv24 at hn24 hx24 ⊢
            have HT24 := Lib.hid (HT23.out.tr (Chg.of_bel hx24 _)); have HK24 := Lib.hid (HK23.out.step hx24)
            have HAa24 := Lib.hid hn24
            have HAc24 := Lib.hid (HAc23.out.step hx24); have HDca24 := Lib.hid (show ¬ pc23 = pa24 from fun e => by have := HAc23.out.lt; omega)
            clear hK K hb24 hn24 hx24 hl24 hp24 hi2_24
            refine wpH_force 6 _ rfl (by kernel_rfl) rfl fun wi3_25 hi3_25 K hK => ?_
            go_simp
            have hb25 : Bel wv24 wi3_25 := hi3_25
            refine hK _ _ (fun _ => GB.al _ _) (fun _ => Chg.of_bel (GB.al _ _) _) ?_
            have hn25 := AlM.new (w0 := w14) (w := wi3_25) (Nat.le_trans HT24.out.size (Below.size hb25))
            have hx25 : Bel wv24 (wi3_25.alloc (.cells (GMsg.enc default).toArray 70)) := (Bel.trans hb25 ((Bel.refl wi3_25).alloc _))
            have hl25 : wv24.heap.size ≤ wi3_25.heap.size := Below.size hb25
            obtain ⟨pb25, hp25⟩ : ∃ p, wi3_25.heap.size = p := ⟨_, rfl⟩
            rw [hp25] at hn25 hl25 ⊢
            change wpH _ _ _ _ _ _ _ _ _ _ _ (wi3_25.alloc (.cells (GMsg.enc default).toArray 70))
            generalize wi3_25.alloc (.cells (GMsg.enc default).toArray 70) = wv25 at hn25 hx25 ⊢
            have HT25 := Lib.hid (HT24.out.tr (Chg.of_bel hx25 _)); have HK25 := Lib.hid (HK24.out.step hx25)
            have HAb25 := Lib.hid hn25
            have HAa25 := Lib.hid (HAa24.out.step hx25); have HDab25 := Lib.hid (show ¬ pa24 = pb25 from fun e => by have := HAa24.out.lt; omega)
            have HAc25 := Lib.hid (HAc24.out.step hx25); have HDcb25 := Lib.hid (show ¬ pc23 = pb25 from fun e => by have := HAc24.out.lt; omega)
            clear hK K hb25 hn25 hx25 hl25 hp25 hi3_25
            have HS := Lib.hid (show St3 w14 wv25 (fun k => (k = g ∨ ho5.val.ownBlock = some k) ∨ k = B 2) pa24 pb25 pc23 default default default (B 1) (B 2) (signB X6.book (keyC N (ofL N default ys2) mq)) from ⟨HAa25.out, HAb25.out, HAc25.out, HT25.out.sub (fun k e => .inl e), HK25.out, HDab25.out, (fun e => HDca24.out e.symm), (fun e => HDcb25.out e.symm), HLB2.out.1, HLB2.out.2⟩)
            refine wpH_force 8 _ rfl (by kernel_rfl) rfl fun ws hs K hK => ?_
            have hq := HS.out.step hs
            have kq := hq.a.k
            have fq := hq.a.f
            go_simp
            refine hK _ _ (fun h => absurd (by simp) h) (fun _ => hq.chA _) ?_
            replace HS := Lib.hid (hq.putA (msgC cm 2))
            generalize World.putCells ws ⟨pa24, 0, none⟩ (GMsg.enc (msgC cm 2)) = wp26 at HS ⊢
            clear hK K kq fq hq hs
            refine wpH_force 9 _ rfl (by kernel_rfl) rfl fun ws hs K hK => ?_
            have hq := HS.out.step hs
            have kq := hq.b.k
            have fq := hq.b.f
            go_simp
            refine hK _ _ (fun h => absurd (by simp) h) (fun _ => hq.chB _) ?_
            replace HS := Lib.hid (hq.putB (msgC c2 2))
            generalize World.putCells ws ⟨pb25, 0, none⟩ (GMsg.enc (msgC c2 2)) = wp27 at HS ⊢
            clear hK K kq fq hq hs
            refine wpH_force 10 _ rfl (by kernel_rfl) rfl fun ws hs K hK => ?_
            have hq := HS.out.step hs
            have kq := hq.c.k
            have fq := hq.c.f
            go_simp
            refine hK _ _ (fun h => absurd (by simp) h) (fun _ => hq.chC _) ?_
            replace HS := Lib.hid (hq.putC (msgC cm 2))
            generalize World.putCells ws ⟨pc23, 0, none⟩ (GMsg.enc (msgC cm 2)) = wp28 at HS ⊢
            clear hK K kq fq hq hs
            refine wpH_end (by kernel_rfl) (fun wn hwn => ?_) _
            have HF := Lib.hid (HS.out.step hwn)
            clear hwn HS
            go_wp2_with fail
            go_meet
            exact ⟨_, _, _, rfl, rfl, rfl, HF⟩
          · refine ⟨_, rfl, rfl, fun wi2_29 hi2_29 K hK => ?_⟩
            go_simp
            have hb29 : Bel wv23 wi2_29 := hi2_29
            refine hK _ _ (fun _ => GB.al _ _) (fun _ => Chg.of_bel (GB.al _ _) _) ?_
            have hn29 := AlM.new (w0 := w14) (w := wi2_29) (Nat.le_trans HT23.out.size (Below.size hb29))
            have hx29 : Bel wv23 (wi2_29.alloc (.cells (GMsg.enc default).toArray 70)) := (Bel.trans hb29 ((Bel.refl wi2_29).alloc _))
            have hl29 : wv23.heap.size ≤ wi2_29.heap.size := Below.size hb29
            obtain ⟨pb29, hp29⟩ : ∃ p, wi2_29.heap.size = p := ⟨_, rfl⟩
            rw [hp29] at hn29 hl29 ⊢
            change wpH _ _ _ _ _ _ _ _ _ _ _ (wi2_29.alloc (.cells (GMsg.enc default).toArray 70))
            generalize wi2_29.alloc (.cells (GMsg.enc default).toArray 70) = wv29 at hn29 hx29 ⊢
            have HT29 := Lib.hid (HT23.out.tr (Chg.of_bel hx29 _)); have HK29 := Lib.hid (HK23.out.step hx29)
            have HAb29 := Lib.hid hn29
            have HAc29 := Lib.hid (HAc23.out.step hx29); have HDcb29 := Lib.hid (show ¬ pc23 = pb29 from fun e => by have := HAc23.out.lt; omega)
            clear hK K hb29 hn29 hx29 hl29 hp29 hi2_29
            refine wpH_force 5 _ rfl (by kernel_rfl) rfl fun wi3_30 hi3_30 K hK => ?_
            go_simp
            have hb30 : Bel wv29 wi3_30 := hi3_30
            refine hK _ _ (fun _ => GB.al _ _) (fun _ => Chg.of_bel (GB.al _ _) _) ?_
            have hn30 := AlM.new (w0 := w14) (w := wi3_30) (Nat.le_trans HT29.out.size (Below.size hb30))
            have hx30 : Bel wv29 (wi3_30.alloc (.cells (GMsg.enc default).toArray 70)) := (Bel.trans hb30 ((Bel.refl wi3_30).alloc _))
            have hl30 : wv29.heap.size ≤ wi3_30.heap.size := Below.size hb30
            obtain ⟨pa30, hp30⟩ : ∃ p, wi3_30.heap.size = p := ⟨_, rfl⟩
            rw [hp30] at hn30 hl30 ⊢
            change wpH _ _ _ _ _ _ _ _ _ _ _ (wi3_30.alloc (.cells (GMsg.enc default).toArray 70))
            generalize wi3_30.alloc (.cells (GMsg.enc default).toArray 70) = wv30 at hn30 hx30 ⊢
            have HT30 := Lib.hid (HT29.out.tr (Chg.of_bel hx30 _)); have HK30 := Lib.hid (HK29.out.step hx30)
            have HAa30 := Lib.hid hn30
            have HAb30 := Lib.hid (HAb29.out.step hx30); have HDba30 := Lib.hid (show ¬ pb29 = pa30 from fun e => by have := HAb29.out.lt; omega)
            have HAc30 := Lib.hid (HAc29.out.step hx30); have HDca30 := Lib.hid (show ¬ pc23 = pa30 from fun e => by have := HAc29.out.lt; omega)
            clear hK K hb30 hn30 hx30 hl30 hp30 hi3_30
            have HS := Lib.hid (show St3 w14 wv30 (fun k => (k = g ∨ ho5.val.ownBlock = some k) ∨ k = B 2) pa30 pb29 pc23 default default default (B 1) (B 2) (signB X6.book (keyC N (ofL N default ys2) mq)) from ⟨HAa30.out, HAb30.out, HAc30.out, HT30.out.sub (fun k e => .inl e), HK30.out, (fun e => HDba30.out e.symm), (fun e => HDca30.out e.symm), (fun e => HDcb29.out e.symm), HLB2.out.1, HLB2.out.2⟩)
            refine wpH_force 8 _ rfl (by kernel_rfl) rfl fun ws hs K hK => ?_
            have hq := HS.out.step hs
            have kq := hq.a.k
            have fq := hq.a.f
            go_simp
            refine hK _ _ (fun h => absurd (by simp) h) (fun _ => hq.chA _) ?_
            replace HS := Lib.hid (hq.putA (msgC cm 2))
            generalize World.putCells ws ⟨pa30, 0, none⟩ (GMsg.enc (msgC cm 2)) = wp31 at HS ⊢
            clear hK K kq fq hq hs
            refine wpH_force 9 _ rfl (by kernel_rfl) rfl fun ws hs K hK => ?_
            have hq := HS.out.step hs
            have kq := hq.b.k
            have fq := hq.b.f
            go_simp
            refine hK _ _ (fun h => absurd (by simp) h) (fun _ => hq.chB _) ?_
            replace HS := Lib.hid (hq.putB (msgC c2 2))
            generalize World.putCells ws ⟨pb29, 0, none⟩ (GMsg.enc (msgC c2 2)) = wp32 at HS ⊢
            clear hK K kq fq hq hs
            refine wpH_force 10 _ rfl (by kernel_rfl) rfl fun ws hs K hK => ?_
            have hq := HS.out.step hs
            have kq := hq.c.k
            have fq := hq.c.f
            go_simp
            refine hK _ _ (fun h => absurd (by simp) h) (fun _ => hq.chC _) ?_
            replace HS := Lib.hid (hq.putC (msgC cm 2))
            generalize World.putCells ws ⟨pc23, 0, none⟩ (GMsg.enc (msgC cm 2)) = wp33 at HS ⊢
            clear hK K kq fq hq hs
            refine wpH_end (by kernel_rfl) (fun wn hwn => ?_) _
            have HF := Lib.hid (HS.out.step hwn)
            clear hwn HS
            go_wp2_with fail
            go_meet
            exact ⟨_, _, _, rfl, rfl, rfl, HF⟩
      · refine ⟨_, rfl, rfl, fun wi0_34 hi0_34 K hK => ?_⟩
        go_simp
        have hb34 : Bel w14 wi0_34 := GB.undrew hi0_34
        refine hK _ _ (fun _ => GB.al _ _) (fun _ => Chg.of_bel (GB.al _ _) _) ?_
        have hn34 := AlM.new (w0 := w14) (w := wi0_34) (Nat.le_trans (Below.size HBl0.out) (Below.size hb34))
        have hx34 : Bel w14 (wi0_34.alloc (.cells (GMsg.enc default).toArray 70)) := (Bel.trans hb34 ((Bel.refl wi0_34).alloc _))
        have hl34 : w14.heap.size ≤ wi0_34.heap.size := Below.size hb34
        obtain ⟨pa34, hp34⟩ : ∃ p, wi0_34.heap.size = p := ⟨_, rfl⟩
        rw [hp34] at hn34 hl34 ⊢
        change wpH _ _ _ _ _ _ _ _ _ _ _ (wi0_34.alloc (.cells (GMsg.enc default).toArray 70))
        generalize wi0_34.alloc (.cells (GMsg.enc default).toArray 70) = wv34 at hn34 hx34 ⊢
        have HBl34 := Lib.hid (HBl0.out.trans hx34)
        have HAa34 := Lib.hid hn34
        clear hK K hb34 hn34 hx34 hl34 hp34 hi0_34
        refine wpH_list [3, 6, 7] (by simp) (by kernel_rfl) ?_
        intro t ht
        simp only [List.mem_cons, List.not_mem_nil, or_false] at ht
        rcases ht with rfl | rfl | rfl
        · refine ⟨_, rfl, rfl, fun wi1_35 hi1_35 K hK => ?_⟩
          go_simp
          have hb35 : Bel wv34 wi1_35 := hi1_35
          refine (HCALL.out wi1_35 (HBl34.out.trans hb35)).mono ?_
          rintro _ wu35 ⟨ho6, L6, rfl, -, -, hbk35, hch35, -⟩
          rw [HC2.out]
          refine hK _ _ (fun h => absurd (by simp) h) (fun _ => hch35.sub (fun k e => .inl e)) ?_
          have HT35 := Lib.hid ((Chg.of_bel (HBl34.out.trans hb35) (fun k => (k = g ∨ ho5.val.ownBlock = some k) ∨ k = B 2)).tr hch35)
          have HK35 := Lib.hid hbk35
          have HAa35 := Lib.hid ((HAa34.out.step hb35).chg hch35 (HSN.out pa34 HAa34.out.ge))
          clear hK K hbk35 hch35 hb35 hi1_35
          refine wpH_list [6, 7] (by simp) (by kernel_rfl) ?_
          intro t ht
          simp only [List.mem_cons, List.not_mem_nil, or_false] at ht
          rcases ht with rfl | rfl
          · refine ⟨_, rfl, rfl, fun wi2_36 hi2_36 K hK => ?_⟩
            go_simp
            have hb36 : Bel wu35 wi2_36 := hi2_36
            refine hK _ _ (fun _ => GB.al _ _) (fun _ => Chg.of_bel (GB.al _ _) _) ?_
            have hn36 := AlM.new (w0 := w14) (w := wi2_36) (Nat.le_trans HT35.out.size (Below.size hb36))
            have hx36 : Bel wu35 (wi2_36.alloc (.cells (GMsg.enc default).toArray 70)) := (Bel.trans hb36 ((Bel.refl wi2_36).alloc _))
            have hl36 : wu35.heap.size ≤ wi2_36.heap.size := Below.size hb36
            obtain ⟨pb36, hp36⟩ : ∃ p, wi2_36.heap.size = p := ⟨_, rfl⟩
            rw [hp36] at hn36 hl36 ⊢
            change wpH _ _ _ _ _ _ _ _ _ _ _ (wi2_36.alloc (.cells (GMsg.enc default).toArray 70))
            generalize wi2_36.alloc (.cells (GMsg.enc default).toArray 70) = wv36 at hn36 hx36 ⊢
            have HT36 := Lib.hid (HT35.out.tr (Chg.of_bel hx36 _)); have HK36 := Lib.hid (HK35.out.step hx36)
            have HAb36 := Lib.hid hn36
            have HAa36 := Lib.hid (HAa35.out.step hx36); have HDab36 := Lib.hid (show ¬ pa34 = pb36 from fun e => by have := HAa35.out.lt; omega)
            clear hK K hb36 hn36 hx36 hl36 hp36 hi2_36
            refine wpH_force 7 _ rfl (by kernel_rfl) rfl fun wi3_37 hi3_37 K hK => ?_
            go_simp
            have hb37 : Bel wv36 wi3_37 := hi3_37
            refine hK _ _ (fun _ => GB.al _ _) (fun _ => Chg.of_bel (GB.al _ _) _) ?_
            have hn37 := AlM.new (w0 := w14) (w := wi3_37) (Nat.le_trans HT36.out.size (Below.size hb37))
            have hx37 : Bel wv36 (wi3_37.alloc (.cells (GMsg.enc default).toArray 70)) := (Bel.trans hb37 ((Bel.refl wi3_37).alloc _))
            have hl37 : wv36.heap.size ≤ wi3_37.heap.size := Below.size hb37
            obtain ⟨pc37, hp37⟩ : ∃ p, wi3_37.heap.size = p := ⟨_, rfl⟩
            rw [hp37] at hn37 hl37 ⊢
            change wpH _ _ _ _ _ _ _ _ _ _ _ (wi3_37.alloc (.cells (GMsg.enc default).toArray 70))
            generalize wi3_37.alloc (.cells (GMsg.enc default).toArray 70) = wv37 at hn37 hx37 ⊢
            have HT37 := Lib.hid (HT36.out.tr (Chg.of_bel hx37 _)); have HK37 := Lib.hid (HK36.out.step hx37)
            have HAc37 := Lib.hid hn37
            have HAb37 := Lib.hid (HAb36.out.step hx37); have HDbc37 := Lib.hid (show ¬ pb36 = pc37 from fun e => by have := HAb36.out.lt; omega)
            have HAa37 := Lib.hid (HAa36.out.step hx37); have HDac37 := Lib.hid (show ¬ pa34 = pc37 from fun e => by have := HAa36.out.lt; omega)
            clear hK K hb37 hn37 hx37 hl37 hp37 hi3_37
            have HS := Lib.hid (show St3 w14 wv37 (fun k => (k = g ∨ ho5.val.ownBlock = some k) ∨ k = B 2) pa34 pb36 pc37 default default default (B 1) (B 2) (signB X6.book (keyC N (ofL N default ys2) mq)) from ⟨HAa37.out, HAb37.out, HAc37.out, HT37.out.sub (fun k e => .inl e), HK37.out, HDab36.out, HDac37.out, HDbc37.out, HLB2.out.1, HLB2.out.2⟩)
            refine wpH_force 8 _ rfl (by kernel_rfl) rfl fun ws hs K hK => ?_
            have hq := HS.out.step hs
            have kq := hq.a.k
            have fq := hq.a.f
            go_simp
            refine hK _ _ (fun h => absurd (by simp) h) (fun _ => hq.chA _) ?_
            replace HS := Lib.hid (hq.putA (msgC cm 2))
            generalize World.putCells ws ⟨pa34, 0, none⟩ (GMsg.enc (msgC cm 2)) = wp38 at HS ⊢
            clear hK K kq fq hq hs
            refine wpH_force 9 _ rfl (by kernel_rfl) rfl fun ws hs K hK => ?_
            have hq := HS.out.step hs
            have kq := hq.b.k
            have fq := hq.b.f
            go_simp
            refine hK _ _ (fun h => absurd (by simp) h) (fun _ => hq.chB _) ?_
            replace HS := Lib.hid (hq.putB (msgC c2 2))
            generalize World.putCells ws ⟨pb36, 0, none⟩ (GMsg.enc (msgC c2 2)) = wp39 at HS ⊢
            clear hK K kq fq hq hs
            refine wpH_force 10 _ rfl (by kernel_rfl) rfl fun ws hs K hK => ?_
            have hq := HS.out.step hs
            have kq := hq.c.k
            have fq := hq.c.f
            go_simp
            refine hK _ _ (fun h => absurd (by simp) h) (fun _ => hq.chC _) ?_
            replace HS := Lib.hid (hq.putC (msgC cm 2))
            generalize World.putCells ws ⟨pc37, 0, none⟩ (GMsg.enc (msgC cm 2)) = wp40 at HS ⊢
            clear hK K kq fq hq hs
            refine wpH_end (by kernel_rfl) (fun wn hwn => ?_) _
            have HF := Lib.hid (HS.out.step hwn)
            clear hwn HS
            go_wp2_with fail
            go_meet
            exact ⟨_, _, _, rfl, rfl, rfl, HF⟩
          · refine ⟨_, rfl, rfl, fun wi2_41 hi2_41 K hK => ?_⟩
            go_simp
            have hb41 : Bel wu35 wi2_41 := hi2_41
            refine hK _ _ (fun _ => GB.al _ _) (fun _ => Chg.of_bel (GB.al _ _) _) ?_
            have hn41 := AlM.new (w0 := w14) (w := wi2_41) (Nat.le_trans HT35.out.size (Below.size hb41))
            have hx41 : Bel wu35 (wi2_41.alloc (.cells (GMsg.enc default).toArray 70)) := (Bel.trans hb41 ((Bel.refl wi2_41).alloc _))
            have hl41 : wu35.heap.size ≤ wi2_41.heap.size := Below.size hb41
            obtain ⟨pc41, hp41⟩ : ∃ p, wi2_41.heap.size = p := ⟨_, rfl⟩
            rw [hp41] at hn41 hl41 ⊢
            change wpH _ _ _ _ _ _ _ _ _ _ _ (wi2_41.alloc (.cells (GMsg.enc default).toArray 70))
            generalize wi2_41.alloc (.cells (GMsg.enc default).toArray 70) = wv41 at hn41 hx41 ⊢
            have HT41 := Lib.hid (HT35.out.tr (Chg.of_bel hx41 _)); have HK41 := Lib.hid (HK35.out.step hx41)
            have HAc41 := Lib.hid hn41
            have HAa41 := Lib.hid (HAa35.out.step hx41); have HDac41 := Lib.hid (show ¬ pa34 = pc41 from fun e => by have := HAa35.out.lt; omega)
            clear hK K hb41 hn41 hx41 hl41 hp41 hi2_41
            refine wpH_force 6 _ rfl (by kernel_rfl) rfl fun wi3_42 hi3_42 K hK => ?_
            go_simp
            have hb42 : Bel wv41 wi3_42 := hi3_42
            refine hK _ _ (fun _ => GB.al _ _) (fun _ => Chg.of_bel (GB.al _ _) _) ?_
            have hn42 := AlM.new (w0 := w14) (w := wi3_42) (Nat.le_trans HT41.out.size (Below.size hb42))
            have hx42 : Bel wv41 (wi3_42.alloc (.cells (GMsg.enc default).toArray 70)) := (Bel.trans hb42 ((Bel.refl wi3_42).alloc _))
            have hl42 : wv41.heap.size ≤ wi3_42.heap.size := Below.size hb42
            obtain ⟨pb42, hp42⟩ : ∃ p, wi3_42.heap.size = p := ⟨_, rfl⟩
            rw [hp42] at hn42 hl42 ⊢
            change wpH _ _ _ _ _ _ _ _ _ _ _ (wi3_42.alloc (.cells (GMsg.enc default).toArray 70))
            generalize wi3_42.alloc (.cells (GMsg.enc default).toArray 70) = wv42 at hn42 hx42 ⊢
            have HT42 := Lib.hid (HT41.out.tr (Chg.of_bel hx42 _)); have HK42 := Lib.hid (HK41.out.step hx42)
            have HAb42 := Lib.hid hn42
            have HAc42 := Lib.hid (HAc41.out.step hx42); have HDcb42 := Lib.hid (show ¬ pc41 = pb42 from fun e => by have := HAc41.out.lt; omega)
            have HAa42 := Lib.hid (HAa41.out.step hx42); have HDab42 := Lib.hid (show ¬ pa34 = pb42 from fun e => by have := HAa41.out.lt; omega)
            clear hK K hb42 hn42 hx42 hl42 hp42 hi3_42
            have HS := Lib.hid (show St3 w14 wv42 (fun k => (k = g ∨ ho5.val.ownBlock = some k) ∨ k = B 2) pa34 pb42 pc41 default default default (B 1) (B 2) (signB X6.book (keyC N (ofL N default ys2) mq)) from ⟨HAa42.out, HAb42.out, HAc42.out, HT42.out.sub (fun k e => .inl e), HK42.out, HDab42.out, HDac41.out, (fun e => HDcb42.out e.symm), HLB2.out.1, HLB2.out.2⟩)
            refine wpH_force 8 _ rfl (by kernel_rfl) rfl fun ws hs K hK => ?_
            have hq := HS.out.step hs
            have kq := hq.a.k
            have fq := hq.a.f
            go_simp
            refine hK _ _ (fun h => absurd (by simp) h) (fun _ => hq.chA _) ?_
            replace HS := Lib.hid (hq.putA (msgC cm 2))
            generalize World.putCells ws ⟨pa34, 0, none⟩ (GMsg.enc (msgC cm 2)) = wp43 at HS ⊢
            clear hK K kq fq hq hs
            refine wpH_force 9 _ rfl (by kernel_rfl) rfl fun ws hs K hK => ?_
            have hq := HS.out.step hs
            have kq := hq.b.k
            have fq := hq.b.f
            go_simp
            refine hK _ _ (fun h => absurd (by simp) h) (fun _ => hq.chB _) ?_
            replace HS := Lib.hid (hq.putB (msgC c2 2))
            generalize World.putCells ws ⟨pb42, 0, none⟩ (GMsg.enc (msgC c2 2)) = wp44 at HS ⊢
            clear hK K kq fq hq hs
            refine wpH_force 10 _ rfl (by kernel_rfl) rfl fun ws hs K hK => ?_
            have hq := HS.out.step hs
            have kq := hq.c.k
            have fq := hq.c.f
            go_simp
            refine hK _ _ (fun h => absurd (by simp) h) (fun _ => hq.chC _) ?_
            replace HS := Lib.hid (hq.putC (msgC cm 2))
            generalize World.putCells ws ⟨pc41, 0, none⟩ (GMsg.enc (msgC cm 2)) = wp45 at HS ⊢
            clear hK K kq fq hq hs
            refine wpH_end (by kernel_rfl) (fun wn hwn => ?_) _
            have HF := Lib.hid (HS.out.step hwn)
            clear hwn HS
            go_wp2_with fail
            go_meet
            exact ⟨_, _, _, rfl, rfl, rfl, HF⟩
        · refine ⟨_, rfl, rfl, fun wi1_46 hi1_46 K hK => ?_⟩
          go_simp
          have hb46 : Bel wv34 wi1_46 := hi1_46
          refine hK _ _ (fun _ => GB.al _ _) (fun _ => Chg.of_bel (GB.al _ _) _) ?_
          have hn46 := AlM.new (w0 := w14) (w := wi1_46) (Nat.le_trans (Below.size HBl34.out) (Below.size hb46))
          have hx46 : Bel wv34 (wi1_46.alloc (.cells (GMsg.enc default).toArray 70)) := (Bel.trans hb46 ((Bel.refl wi1_46).alloc _))
          have hl46 : wv34.heap.size ≤ wi1_46.heap.size := Below.size hb46
          obtain ⟨pb46, hp46⟩ : ∃ p, wi1_46.heap.size = p := ⟨_, rfl⟩
          rw [hp46] at hn46 hl46 ⊢
          change wpH _ _ _ _ _ _ _ _ _ _ _ (wi1_46.alloc (.cells (GMsg.enc default).toArray 70))
          generalize wi1_46.alloc (.cells (GMsg.enc default).toArray 70) = wv46 at hn46 hx46 ⊢
          have HBl46 := Lib.hid (HBl34.out.trans hx46)
          have HAb46 := Lib.hid hn46
          have HAa46 := Lib.hid (HAa34.out.step hx46); have HDab46 := Lib.hid (show ¬ pa34 = pb46 from fun e => by have := HAa34.out.lt; omega)
          clear hK K hb46 hn46 hx46 hl46 hp46 hi1_46
          refine wpH_list [3, 7] (by simp) (by kernel_rfl) ?_
          intro t ht
          simp only [List.mem_cons, List.not_mem_nil, or_false] at ht
          rcases ht with rfl | rfl
          · refine ⟨_, rfl, rfl, fun wi2_47 hi2_47 K hK => ?_⟩
            go_simp
            have hb47 : Bel wv46 wi2_47 := hi2_47
            refine (HCALL.out wi2_47 (HBl46.out.trans hb47)).mono ?_
            rintro _ wu47 ⟨ho6, L6, rfl, -, -, hbk47, hch47, -⟩
            rw [HC2.out]
            refine hK _ _ (fun h => absurd (by simp) h) (fun _ => hch47.sub (fun k e => .inl e)) ?_
            have HT47 := Lib.hid ((Chg.of_bel (HBl46.out.trans hb47) (fun k => (k = g ∨ ho5.val.ownBlock = some k) ∨ k = B 2)).tr hch47)
            have HK47 := Lib.hid hbk47
            have HAb47 := Lib.hid ((HAb46.out.step hb47).chg hch47 (HSN.out pb46 HAb46.out.ge))
            have HAa47 := Lib.hid ((HAa46.out.step hb47).chg hch47 (HSN.out pa34 HAa46.out.ge))
            clear hK K hbk47 hch47 hb47 hi2_47
            refine wpH_force 7 _ rfl (by kernel_rfl) rfl fun wi3_48 hi3_48 K hK => ?_
            go_simp
            have hb48 : Bel wu47 wi3_48 := hi3_48
            refine hK _ _ (fun _ => GB.al _ _) (fun _ => Chg.of_bel (GB.al _ _) _) ?_
            have hn48 := AlM.new (w0 := w14) (w := wi3_48) (Nat.le_trans HT47.out.size (Below.size hb48))
            have hx48 : Bel wu47 (wi3_48.alloc (.cells (GMsg.enc default).toArray 70)) := (Bel.trans hb48 ((Bel.refl wi3_48).alloc _))
            have hl48 : wu47.heap.size ≤ wi3_48.heap.size := Below.size hb48
            obtain ⟨pc48, hp48⟩ : ∃ p, wi3_48.heap.size = p := ⟨_, rfl⟩
            rw [hp48] at hn48 hl48 ⊢
            change wpH _ _ _ _ _ _ _ _ _ _ _ (wi3_48.alloc (.cells (GMsg.enc default).toArray 70))
            generalize wi3_48.alloc (.cells (GMsg.enc default).toArray 70) = wv48 at hn48 hx48 ⊢
            have HT48 := Lib.hid (HT47.out.tr (Chg.of_bel hx48 _)); have HK48 := Lib.hid (HK47.out.step hx48)
            have HAc48 := Lib.hid hn48
            have HAb48 := Lib.hid (HAb47.out.step hx48); have HDbc48 := Lib.hid (show ¬ pb46 = pc48 from fun e => by have := HAb47.out.lt; omega)
            have HAa48 := Lib.hid (HAa47.out.step hx48); have HDac48 := Lib.hid (show ¬ pa34 = pc48 from fun e => by have := HAa47.out.lt; omega)
            clear hK K hb48 hn48 hx48 hl48 hp48 hi3_48
            have HS := Lib.hid (show St3 w14 wv48 (fun k => (k = g ∨ ho5.val.ownBlock = some k) ∨ k = B 2) pa34 pb46 pc48 default default default (B 1) (B 2) (signB X6.book (keyC N (ofL N default ys2) mq)) from ⟨HAa48.out, HAb48.out, HAc48.out, HT48.out.sub (fun k e => .inl e), HK48.out, HDab46.out, HDac48.out, HDbc48.out, HLB2.out.1, HLB2.out.2⟩)
            refine wpH_force 8 _ rfl (by kernel_rfl) rfl fun ws hs K hK => ?_
            have hq := HS.out.step hs
            have kq := hq.a.k
            have fq := hq.a.f
            go_simp
            refine hK _ _ (fun h => absurd (by simp) h) (fun _ => hq.chA _) ?_
            replace HS := Lib.hid (hq.putA (msgC cm 2))
            generalize World.putCells ws ⟨pa34, 0, none⟩ (GMsg.enc (msgC cm 2)) = wp49 at HS ⊢
            clear hK K kq fq hq hs
            refine wpH_force 9 _ rfl (by kernel_rfl) rfl fun ws hs K hK => ?_
            have hq := HS.out.step hs
            have kq := hq.b.k
            have fq := hq.b.f
            go_simp
            refine hK _ _ (fun h => absurd (by simp) h) (fun _ => hq.chB _) ?_
            replace HS := Lib.hid (hq.putB (msgC c2 2))
            generalize World.putCells ws ⟨pb46, 0, none⟩ (GMsg.enc (msgC c2 2)) = wp50 at HS ⊢
            clear hK K kq fq hq hs
            refine wpH_force 10 _ rfl (by kernel_rfl) rfl fun ws hs K hK => ?_
            have hq := HS.out.step hs
            have kq := hq.c.k
            have fq := hq.c.f
            go_simp
            refine hK _ _ (fun h => absurd (by simp) h) (fun _ => hq.chC _) ?_
            replace HS := Lib.hid (hq.putC (msgC cm 2))
            generalize World.putCells ws ⟨pc48, 0, none⟩ (GMsg.enc (msgC cm 2)) = wp51 at HS ⊢
            clear hK K kq fq hq hs
            refine wpH_end (by kernel_rfl) (fun wn hwn => ?_) _
            have HF := Lib.hid (HS.out.step hwn)
            clear hwn HS
            go_wp2_with fail
            go_meet
            exact ⟨_, _, _, rfl, rfl, rfl, HF⟩
          · refine ⟨_, rfl, rfl, fun wi2_52 hi2_52 K hK => ?_⟩
            go_simp
            have hb52 : Bel wv46 wi2_52 := hi2_52
            refine hK _ _ (fun _ => GB.al _ _) (fun _ => Chg.of_bel (GB.al _ _) _) ?_
            have hn52 := AlM.new (w0 := w14) (w := wi2_52) (Nat.le_trans (Below.size HBl46.out) (Below.size hb52))
            have hx52 : Bel wv46 (wi2_52.alloc (.cells (GMsg.enc default).toArray 70)) := (Bel.trans hb52 ((Bel.refl wi2_52).alloc _))
            have hl52 : wv46.heap.size ≤ wi2_52.heap.size := Below.size hb52
            obtain ⟨pc52, hp52⟩ : ∃ p, wi2_52.heap.size = p := ⟨_, rfl⟩
            rw [hp52] at hn52 hl52 ⊢
            change wpH _ _ _ _ _ _ _ _ _ _ _ (wi2_52.alloc (.cells (GMsg.enc default).toArray 70))
            generalize wi2_52.alloc (.cells (GMsg.enc default).toArray 70) = wv52 at hn52 hx52 ⊢
            have HBl52 := Lib.hid (HBl46.out.trans hx52)
            have HAc52 := Lib.hid hn52
            have HAb52 := Lib.hid (HAb46.out.step hx52); have HDbc52 := Lib.hid (show ¬ pb46 = pc52 from fun e => by have := HAb46.out.lt; omega)
            have HAa52 := Lib.hid (HAa46.out.step hx52); have HDac52 := Lib.hid (show ¬ pa34 = pc52 from fun e => by have := HAa46.out.lt; omega)
            clear hK K hb52 hn52 hx52 hl52 hp52 hi2_52
            refine wpH_force 3 _ rfl (by kernel_rfl) rfl fun wi3_53 hi3_53 K hK => ?_
            go_simp
            have hb53 : Bel wv52 wi3_53 := hi3_53
            refine (HCALL.out wi3_53 (HBl52.out.trans hb53)).mono ?_
            rintro _ wu53 ⟨ho6, L6, rfl, -, -, hbk53, hch53, -⟩
            rw [HC2.out]
            refine hK _ _ (fun h => absurd (by simp) h) (fun _ => hch53.sub (fun k e => .inl e)) ?_
            have HT53 := Lib.hid ((Chg.of_bel (HBl52.out.trans hb53) (fun k => (k = g ∨ ho5.val.ownBlock = some k) ∨ k = B 2)).tr hch53)
            have HK53 := Lib.hid hbk53
            have HAc53 := Lib.hid ((HAc52.out.step hb53).chg hch53 (HSN.out pc52 HAc52.out.ge))
            have HAb53 := Lib.hid ((HAb52.out.step hb53).chg hch53 (HSN.out pb46 HAb52.out.ge))
            have HAa53 := Lib.hid ((HAa52.out.step hb53).chg hch53 (HSN.out pa34 HAa52.out.ge))
            clear hK K hbk53 hch53 hb53 hi3_53
            have HS := Lib.hid (show St3 w14 wu53 (fun k => (k = g ∨ ho5.val.ownBlock = some k) ∨ k = B 2) pa34 pb46 pc52 default default default (B 1) (B 2) (signB X6.book (keyC N (ofL N default ys2) mq)) from ⟨HAa53.out, HAb53.out, HAc53.out, HT53.out.sub (fun k e => .inl e), HK53.out, HDab46.out, HDac52.out, HDbc52.out, HLB2.out.1, HLB2.out.2⟩)
            refine wpH_force 8 _ rfl (by kernel_rfl) rfl fun ws hs K hK => ?_
            have hq := HS.out.step hs
            have kq := hq.a.k
            have fq := hq.a.f
            go_simp
            refine hK _ _ (fun h => absurd (by simp) h) (fun _ => hq.chA _) ?_
            replace HS := Lib.hid (hq.putA (msgC cm 2))
            generalize World.putCells ws ⟨pa34, 0, none⟩ (GMsg.enc (msgC cm 2)) = wp54 at HS ⊢
            clear hK K kq fq hq hs
            refine wpH_force 9 _ rfl (by kernel_rfl) rfl fun ws hs K hK => ?_
            have hq := HS.out.step hs
            have kq := hq.b.k
            have fq := hq.b.f
            go_simp
            refine hK _ _ (fun h => absurd (by simp) h) (fun _ => hq.chB _) ?_
            replace HS := Lib.hid (hq.putB (msgC c2 2))
            generalize World.putCells ws ⟨pb46, 0, none⟩ (GMsg.enc (msgC c2 2)) = wp55 at HS ⊢
            clear hK K kq fq hq hs
            refine wpH_force 10 _ rfl (by kernel_rfl) rfl fun ws hs K hK => ?_
            have hq := HS.out.step hs
            have kq := hq.c.k
            have fq := hq.c.f
            go_simp
            refine hK _ _ (fun h => absurd (by simp) h) (fun _ => hq.chC _) ?_
            replace HS := Lib.hid (hq.putC (msgC cm 2))
            generalize World.putCells ws ⟨pc52, 0, none⟩ (GMsg.enc (msgC cm 2)) = wp56 at HS ⊢
            clear hK K kq fq hq hs
            refine wpH_end (by kernel_rfl) (fun wn hwn => ?_) _
            have HF := Lib.hid (HS.out.step hwn)
            clear hwn HS
            go_wp2_with fail
            go_meet
            exact ⟨_, _, _, rfl, rfl, rfl, HF⟩
        · refine ⟨_, rfl, rfl, fun wi1_57 hi1_57 K hK => ?_⟩
          go_simp
          have hb57 : Bel wv34 wi1_57 := hi1_57
          refine hK _ _ (fun _ => GB.al _ _) (fun _ => Chg.of_bel (GB.al _ _) _) ?_
          have hn57 := AlM.new (w0 := w14) (w := wi1_57) (Nat.le_trans (Below.size HBl34.out) (Below.size hb57))
          have hx57 : Bel wv34 (wi1_57.alloc (.cells (GMsg.enc default).toArray 70)) := (Bel.trans hb57 ((Bel.refl wi1_57).alloc _))
          have hl57 : wv34.heap.size ≤ wi1_57.heap.size := Below.size hb57
          obtain ⟨pc57, hp57⟩ : ∃ p, wi1_57.heap.size = p := ⟨_, rfl⟩
          rw [hp57] at hn57 hl57 ⊢
          change wpH _ _ _ _ _ _ _ _ _ _ _ (wi1_57.alloc (.cells (GMsg.enc default).toArray 70))
          generalize wi1_57.alloc (.cells (GMsg.enc default).toArray 70) = wv57 at hn57 hx57 ⊢
          have HBl57 := Lib.hid (HBl34.out.trans hx57)
          have HAc57 := Lib.hid hn57
          have HAa57 := Lib.hid (HAa34.out.step hx57); have HDac57 := Lib.hid (show ¬ pa34 = pc57 from fun e => by have := HAa34.out.lt; omega)
          clear hK K hb57 hn57 hx57 hl57 hp57 hi1_57
          refine wpH_list [3, 6] (by simp) (by kernel_rfl) ?_
          intro t ht
          simp only [List.mem_cons, List.not_mem_nil, or_false] at ht
          rcases ht with rfl | rfl
          · refine ⟨_, rfl, rfl, fun wi2_58 hi2_58 K hK => ?_⟩
            go_simp
            have hb58 : Bel wv57 wi2_58 := hi2_58
            refine (HCALL.out wi2_58 (HBl57.out.trans hb58)).mono ?_
            rintro _ wu58 ⟨ho6, L6, rfl, -, -, hbk58, hch58, -⟩
            rw [HC2.out]
            refine hK _ _ (fun h => absurd (by simp) h) (fun _ => hch58.sub (fun k e => .inl e)) ?_
            have HT58 := Lib.hid ((Chg.of_bel (HBl57.out.trans hb58) (fun k => (k = g ∨ ho5.val.ownBlock = some k) ∨ k = B 2)).tr hch58)
            have HK58 := Lib.hid hbk58
            have HAc58 := Lib.hid ((HAc57.out.step hb58).chg hch58 (HSN.out pc57 HAc57.out.ge))
            have HAa58 := Lib.hid ((HAa57.out.step hb58).chg hch58 (HSN.out pa34 HAa57.out.ge))
            clear hK K hbk58 hch58 hb58 hi2_58
            refine wpH_force 6 _ rfl (by kernel_rfl) rfl fun wi3_59 hi3_59 K hK => ?_
            go_simp
            have hb59 : Bel wu58 wi3_59 := hi3_59
            refine hK _ _ (fun _ => GB.al _ _) (fun _ => Chg.of_bel (GB.al _ _) _) ?_
            have hn59 := AlM.new (w0 := w14) (w := wi3_59) (Nat.le_trans HT58.out.size (Below.size hb59))
            have hx59 : Bel wu58 (wi3_59.alloc (.cells (GMsg.enc default).toArray 70)) := (Bel.trans hb59 ((Bel.refl wi3_59).alloc _))
            have hl59 : wu58.heap.size ≤ wi3_59.heap.size := Below.size hb59
            obtain ⟨pb59, hp59⟩ : ∃ p, wi3_59.heap.size = p := ⟨_, rfl⟩
            rw [hp59] at hn59 hl59 ⊢
            change wpH _ _ _ _ _ _ _ _ _ _ _ (wi3_59.alloc (.cells (GMsg.enc default).toArray 70))
            generalize wi3_59.alloc (.cells (GMsg.enc default).toArray 70) = wv59 at hn59 hx59 ⊢
            have HT59 := Lib.hid (HT58.out.tr (Chg.of_bel hx59 _)); have HK59 := Lib.hid (HK58.out.step hx59)
            have HAb59 := Lib.hid hn59
            have HAc59 := Lib.hid (HAc58.out.step hx59); have HDcb59 := Lib.hid (show ¬ pc57 = pb59 from fun e => by have := HAc58.out.lt; omega)
            have HAa59 := Lib.hid (HAa58.out.step hx59); have HDab59 := Lib.hid (show ¬ pa34 = pb59 from fun e => by have := HAa58.out.lt; omega)
            clear hK K hb59 hn59 hx59 hl59 hp59 hi3_59
            have HS := Lib.hid (show St3 w14 wv59 (fun k => (k = g ∨ ho5.val.ownBlock = some k) ∨ k = B 2) pa34 pb59 pc57 default default default (B 1) (B 2) (signB X6.book (keyC N (ofL N default ys2) mq)) from ⟨HAa59.out, HAb59.out, HAc59.out, HT59.out.sub (fun k e => .inl e), HK59.out, HDab59.out, HDac57.out, (fun e => HDcb59.out e.symm), HLB2.out.1, HLB2.out.2⟩)
            refine wpH_force 8 _ rfl (by kernel_rfl) rfl fun ws hs K hK => ?_
            have hq := HS.out.step hs
            have kq := hq.a.k
            have fq := hq.a.f
            go_simp
            refine hK _ _ (fun h => absurd (by simp) h) (fun _ => hq.chA _) ?_
            replace HS := Lib.hid (hq.putA (msgC cm 2))
            generalize World.putCells ws ⟨pa34, 0, none⟩ (GMsg.enc (msgC cm 2)) = wp60 at HS ⊢
            clear hK K kq fq hq hs
            refine wpH_force 9 _ rfl (by kernel_rfl) rfl fun ws hs K hK => ?_
            have hq := HS.out.step hs
            have kq := hq.b.k
            have fq := hq.b.f
            go_simp
            refine hK _ _ (fun h => absurd (by simp) h) (fun _ => hq.chB _) ?_
            replace HS := Lib.hid (hq.putB (msgC c2 2))
            generalize World.putCells ws ⟨pb59, 0, none⟩ (GMsg.enc (msgC c2 2)) = wp61 at HS ⊢
            clear hK K kq fq hq hs
            refine wpH_force 10 _ rfl (by kernel_rfl) rfl fun ws hs K hK => ?_
            have hq := HS.out.step hs
            have kq := hq.c.k
            have fq := hq.c.f
            go_simp
            refine hK _ _ (fun h => absurd (by simp) h) (fun _ => hq.chC _) ?_
            replace HS := Lib.hid (hq.putC (msgC cm 2))
            generalize World.putCells ws ⟨pc57, 0, none⟩ (GMsg.enc (msgC cm 2)) = wp62 at HS ⊢
            clear hK K kq fq hq hs
            refine wpH_end (by kernel_rfl) (fun wn hwn => ?_) _
            have HF := Lib.hid (HS.out.step hwn)
            clear hwn HS
            go_wp2_with fail
            go_meet
            exact ⟨_, _, _, rfl, rfl, rfl, HF⟩
          · refine ⟨_, rfl, rfl, fun wi2_63 hi2_63 K hK => ?_⟩
            go_simp
            have hb63 : Bel wv57 wi2_63 := hi2_63
            refine hK _ _ (fun _ => GB.al _ _) (fun _ => Chg.of_bel (GB.al _ _) _) ?_
            have hn63 := AlM.new (w0 := w14) (w := wi2_63) (Nat.le_trans (Below.size HBl57.out) (Below.size hb63))
            have hx63 : Bel wv57 (wi2_63.alloc (.cells (GMsg.enc default).toArray 70)) := (Bel.trans hb63 ((Bel.refl wi2_63).alloc _))
            have hl63 : wv57.heap.size ≤ wi2_63.heap.size := Below.size hb63
            obtain ⟨pb63, hp63⟩ : ∃ p, wi2_63.heap.size = p := ⟨_, rfl⟩
            rw [hp63] at hn63 hl63 ⊢
            change wpH _ _ _ _ _ _ _ _ _ _ _ (wi2_63.alloc (.cells (GMsg.enc default).toArray 70))
            generalize wi2_63.alloc (.cells (GMsg.enc default).toArray 70) = wv63 at hn63 hx63 ⊢
            have HBl63 := Lib.hid (HBl57.out.trans hx63)
            have HAb63 := Lib.hid hn63
            have HAc63 := Lib.hid (HAc57.out.step hx63); have HDcb63 := Lib.hid (show ¬ pc57 = pb63 from fun e => by have := HAc57.out.lt; omega)
            have HAa63 := Lib.hid (HAa57.out.step hx63); have HDab63 := Lib.hid (show ¬ pa34 = pb63 from fun e => by have := HAa57.out.lt; omega)
            clear hK K hb63 hn63 hx63 hl63 hp63 hi2_63
            refine wpH_force 3 _ rfl (by kernel_rfl) rfl fun wi3_64 hi3_64 K hK => ?_
            go_simp
            have hb64 : Bel wv63 wi3_64 := hi3_64
            refine (HCALL.out wi3_64 (HBl63.out.trans hb64)).mono ?_
            rintro _ wu64 ⟨ho6, L6, rfl, -, -, hbk64, hch64, -⟩
            rw [HC2.out]
            refine hK _ _ (fun h => absurd (by simp) h) (fun _ => hch64.sub (fun k e => .inl e)) ?_
            have HT64 := Lib.hid ((Chg.of_bel (HBl63.out.trans hb64) (fun k => (k = g ∨ ho5.val.ownBlock = some k) ∨ k = B 2)).tr hch64)
            have HK64 := Lib.hid hbk64
            have HAb64 := Lib.hid ((HAb63.out.step hb64).chg hch64 (HSN.out pb63 HAb63.out.ge))
            have HAc64 := Lib.hid ((HAc63.out.step hb64).chg hch64 (HSN.out pc57 HAc63.out.ge))
            have HAa64 := Lib.hid ((HAa63.out.step hb64).chg hch64 (HSN.out pa34 HAa63.out.ge))
            clear hK K hbk64 hch64 hb64 hi3_64
            have HS := Lib.hid (show St3 w14 wu64 (fun k => (k = g ∨ ho5.val.ownBlock = some k) ∨ k = B 2) pa34 pb63 pc57 default default default (B 1) (B 2) (signB X6.book (keyC N (ofL N default ys2) mq)) from ⟨HAa64.out, HAb64.out, HAc64.out, HT64.out.sub (fun k e => .inl e), HK64.out, HDab63.out, HDac57.out, (fun e => HDcb63.out e.symm), HLB2.out.1, HLB2.out.2⟩)
            refine wpH_force 8 _ rfl (by kernel_rfl) rfl fun ws hs K hK => ?_
            have hq := HS.out.step hs
            have kq := hq.a.k
            have fq := hq.a.f
            go_simp
            refine hK _ _ (fun h => absurd (by simp) h) (fun _ => hq.chA _) ?_
            replace HS := Lib.hid (hq.putA (msgC cm 2))
            generalize World.putCells ws ⟨pa34, 0, none⟩ (GMsg.enc (msgC cm 2)) = wp65 at HS ⊢
            clear hK K kq fq hq hs
            refine wpH_force 9 _ rfl (by kernel_rfl) rfl fun ws hs K hK => ?_
            have hq := HS.out.step hs
            have kq := hq.b.k
            have fq := hq.b.f
            go_simp
            refine hK _ _ (fun h => absurd (by simp) h) (fun _ => hq.chB _) ?_
            replace HS := Lib.hid (hq.putB (msgC c2 2))
            generalize World.putCells ws ⟨pb63, 0, none⟩ (GMsg.enc (msgC c2 2)) = wp66 at HS ⊢
            clear hK K kq fq hq hs
            refine wpH_force 10 _ rfl (by kernel_rfl) rfl fun ws hs K hK => ?_
            have hq := HS.out.step hs
            have kq := hq.c.k
            have fq := hq.c.f
            go_simp
            refine hK _ _ (fun h => absurd (by simp) h) (fun _ => hq.chC _) ?_
            replace HS := Lib.hid (hq.putC (msgC cm 2))
            generalize World.putCells ws ⟨pc57, 0, none⟩ (GMsg.enc (msgC cm 2)) = wp67 at HS ⊢
            clear hK K kq fq hq hs
            refine wpH_end (by kernel_rfl) (fun wn hwn => ?_) _
            have HF := Lib.hid (HS.out.step hwn)
            clear hwn HS
            go_wp2_with fail
            go_meet
            exact ⟨_, _, _, rfl, rfl, rfl, HF⟩
      · refine ⟨_, rfl, rfl, fun wi0_68 hi0_68 K hK => ?_⟩
        go_simp
        have hb68 : Bel w14 wi0_68 := GB.undrew hi0_68
        refine hK _ _ (fun _ => GB.al _ _) (fun _ => Chg.of_bel (GB.al _ _) _) ?_
        have hn68 := AlM.new (w0 := w14) (w := wi0_68) (Nat.le_trans (Below.size HBl0.out) (Below.size hb68))
        have hx68 : Bel w14 (wi0_68.alloc (.cells (GMsg.enc default).toArray 70)) := (Bel.trans hb68 ((Bel.refl wi0_68).alloc _))
        have hl68 : w14.heap.size ≤ wi0_68.heap.size := Below.size hb68
        obtain ⟨pb68, hp68⟩ : ∃ p, wi0_68.heap.size = p := ⟨_, rfl⟩
        rw [hp68] at hn68 hl68 ⊢
        change wpH _ _ _ _ _ _ _ _ _ _ _ (wi0_68.alloc (.cells (GMsg.enc default).toArray 70))
        generalize wi0_68.alloc (.cells (GMsg.enc default).toArray 70) = wv68 at hn68 hx68 ⊢
        have HBl68 := Lib.hid (HBl0.out.trans hx68)
        have HAb68 := Lib.hid hn68
        clear hK K hb68 hn68 hx68 hl68 hp68 hi0_68
        refine wpH_list [3, 5, 7] (by simp) (by kernel_rfl) ?_
        intro t ht
        simp only [List.mem_cons, List.not_mem_nil, or_false] at ht
        rcases ht with rfl | rfl | rfl
        · refine ⟨_, rfl, rfl, fun wi1_69 hi1_69 K hK => ?_⟩
          go_simp
          have hb69 : Bel wv68 wi1_69 := hi1_69
          refine (HCALL.out wi1_69 (HBl68.out.trans hb69)).mono ?_
          rintro _ wu69 ⟨ho6, L6, rfl, -, -, hbk69, hch69, -⟩
          rw [HC2.out]
          refine hK _ _ (fun h => absurd (by simp) h) (fun _ => hch69.sub (fun k e => .inl e)) ?_
          have HT69 := Lib.hid ((Chg.of_bel (HBl68.out.trans hb69) (fun k => (k = g ∨ ho5.val.ownBlock = some k) ∨ k = B 2)).tr hch69)
          have HK69 := Lib.hid hbk69
          have HAb69 := Lib.hid ((HAb68.out.step hb69).chg hch69 (HSN.out pb68 HAb68.out.ge))
          clear hK K hbk69 hch69 hb69 hi1_69
          refine wpH_list [5, 7] (by simp) (by kernel_rfl) ?_
          intro t ht
          simp only [List.mem_cons, List.not_mem_nil, or_false] at ht
          rcases ht with rfl | rfl
          · refine ⟨_, rfl, rfl, fun wi2_70 hi2_70 K hK => ?_⟩
            go_simp
            have hb70 : Bel wu69 wi2_70 := hi2_70
            refine hK _ _ (fun _ => GB.al _ _) (fun _ => Chg.of_bel (GB.al _ _) _) ?_
            have hn70 := AlM.new (w0 := w14) (w := wi2_70) (Nat.le_trans HT69.out.size (Below.size hb70))
            have hx70 : Bel wu69 (wi2_70.alloc (.cells (GMsg.enc default).toArray 70)) := (Bel.trans hb70 ((Bel.refl wi2_70).alloc _))
            have hl70 : wu69.heap.size ≤ wi2_70.heap.size := Below.size hb70
            obtain ⟨pa70, hp70⟩ : ∃ p, wi2_70.heap.size = p := ⟨_, rfl⟩
            rw [hp70] at hn70 hl70 ⊢
            change wpH _ _ _ _ _ _ _ _ _ _ _ (wi2_70.alloc (.cells (GMsg.enc default).toArray 70))
            generalize wi2_70.alloc (.cells (GMsg.enc default).toArray 70) = wv70 at hn70 hx70 ⊢
            have HT70 := Lib.hid (HT69.out.tr (Chg.of_bel hx70 _)); have HK70 := Lib.hid (HK69.out.step hx70)
            have HAa70 := Lib.hid hn70
            have HAb70 := Lib.hid (HAb69.out.step hx70); have HDba70 := Lib.hid (show ¬ pb68 = pa70 from fun e => by have := HAb69.out.lt; omega)
            clear hK K hb70 hn70 hx70 hl70 hp70 hi2_70
            refine wpH_force 7 _ rfl (by kernel_rfl) rfl fun wi3_71 hi3_71 K hK => ?_
            go_simp
            have hb71 : Bel wv70 wi3_71 := hi3_71
            refine hK _ _ (fun _ => GB.al _ _) (fun _ => Chg.of_bel (GB.al _ _) _) ?_
            have hn71 := AlM.new (w0 := w14) (w := wi3_71) (Nat.le_trans HT70.out.size (Below.size hb71))
            have hx71 : Bel wv70 (wi3_71.alloc (.cells (GMsg.enc default).toArray 70)) := (Bel.trans hb71 ((Bel.refl wi3_71).alloc _))
            have hl71 : wv70.heap.size ≤ wi3_71.heap.size := Below.size hb71
            obtain ⟨pc71, hp71⟩ : ∃ p, wi3_71.heap.size = p := ⟨_, rfl⟩
            rw [hp71] at hn71 hl71 ⊢
            change wpH _ _ _ _ _ _ _ _ _ _ _ (wi3_71.alloc (.cells (GMsg.enc default).toArray 70))
            generalize wi3_71.alloc (.cells (GMsg.enc default).toArray 70) = wv71 at hn71 hx71 ⊢
            have HT71 := Lib.hid (HT70.out.tr (Chg.of_bel hx71 _)); have HK71 := Lib.hid (HK70.out.step hx71)
            have HAc71 := Lib.hid hn71
            have HAa71 := Lib.hid (HAa70.out.step hx71); have HDac71 := Lib.hid (show ¬ pa70 = pc71 from fun e => by have := HAa70.out.lt; omega)
            have HAb71 := Lib.hid (HAb70.out.step hx71); have HDbc71 := Lib.hid (show ¬ pb68 = pc71 from fun e => by have := HAb70.out.lt; omega)
            clear hK K hb71 hn71 hx71 hl71 hp71 hi3_71
            have HS := Lib.hid (show St3 w14 wv71 (fun k => (k = g ∨ ho5.val.ownBlock = some k) ∨ k = B 2) pa70 pb68 pc71 default default default (B 1) (B 2) (signB X6.book (keyC N (ofL N default ys2) mq)) from ⟨HAa71.out, HAb71.out, HAc71.out, HT71.out.sub (fun k e => .inl e), HK71.out, (fun e => HDba70.out e.symm), HDac71.out, HDbc71.out, HLB2.out.1, HLB2.out.2⟩)
            refine wpH_force 8 _ rfl (by kernel_rfl) rfl fun ws hs K hK => ?_
            have hq := HS.out.step hs
            have kq := hq.a.k
            have fq := hq.a.f
            go_simp
            refine hK _ _ (fun h => absurd (by simp) h) (fun _ => hq.chA _) ?_
            replace HS := Lib.hid (hq.putA (msgC cm 2))
            generalize World.putCells ws ⟨pa70, 0, none⟩ (GMsg.enc (msgC cm 2)) = wp72 at HS ⊢
            clear hK K kq fq hq hs
            refine wpH_force 9 _ rfl (by kernel_rfl) rfl fun ws hs K hK => ?_
            have hq := HS.out.step hs
            have kq := hq.b.k
            have fq := hq.b.f
            go_simp
            refine hK _ _ (fun h => absurd (by simp) h) (fun _ => hq.chB _) ?_
            replace HS := Lib.hid (hq.putB (msgC c2 2))
            generalize World.putCells ws ⟨pb68, 0, none⟩ (GMsg.enc (msgC c2 2)) = wp73 at HS ⊢
            clear hK K kq fq hq hs
            refine wpH_force 10 _ rfl (by kernel_rfl) rfl fun ws hs K hK => ?_
            have hq := HS.out.step hs
            have kq := hq.c.k
            have fq := hq.c.f
            go_simp
            refine hK _ _ (fun h => absurd (by simp) h) (fun _ => hq.chC _) ?_
            replace HS := Lib.hid (hq.putC (msgC cm 2))
            generalize World.putCells ws ⟨pc71, 0, none⟩ (GMsg.enc (msgC cm 2)) = wp74 at HS ⊢
            clear hK K kq fq hq hs
            refine wpH_end (by kernel_rfl) (fun wn hwn => ?_) _
            have HF := Lib.hid (HS.out.step hwn)
            clear hwn HS
            go_wp2_with fail
            go_meet
            exact ⟨_, _, _, rfl, rfl, rfl, HF⟩
          · refine ⟨_, rfl, rfl, fun wi2_75 hi2_75 K hK => ?_⟩
            go_simp
            have hb75 : Bel wu69 wi2_75 := hi2_75
            refine hK _ _ (fun _ => GB.al _ _) (fun _ => Chg.of_bel (GB.al _ _) _) ?_
            have hn75 := AlM.new (w0 := w14) (w := wi2_75) (Nat.le_trans HT69.out.size (Below.size hb75))
            have hx75 : Bel wu69 (wi2_75.alloc (.cells (GMsg.enc default).toArray 70)) := (Bel.trans hb75 ((Bel.refl wi2_75).alloc _))
            have hl75 : wu69.heap.size ≤ wi2_75.heap.size := Below.size hb75
            obtain ⟨pc75, hp75⟩ : ∃ p, wi2_75.heap.size = p := ⟨_, rfl⟩
            rw [hp75] at hn75 hl75 ⊢
            change wpH _ _ _ _ _ _ _ _ _ _ _ (wi2_75.alloc (.cells (GMsg.enc default).toArray 70))
            generalize wi2_75.alloc (.cells (GMsg.enc default).toArray 70) = wv75 at hn75 hx75 ⊢
            have HT75 := Lib.hid (HT69.out.tr (Chg.of_bel hx75 _)); have HK75 := Lib.hid (HK69.out.step hx75)
            have HAc75 := Lib.hid hn75
            have HAb75 := Lib.hid (HAb69.out.step hx75); have HDbc75 := Lib.hid (show ¬ pb68 = pc75 from fun e => by have := HAb69.out.lt; omega)
            clear hK K hb75 hn75 hx75 hl75 hp75 hi2_75
            refine wpH_force 5 _ rfl (by kernel_rfl) rfl fun wi3_76 hi3_76 K hK => ?_
            go_simp
            have hb76 : Bel wv75 wi3_76 := hi3_76
            refine hK _ _ (fun _ => GB.al _ _) (fun _ => Chg.of_bel (GB.al _ _) _) ?_
            have hn76 := AlM.new (w0 := w14) (w := wi3_76) (Nat.le_trans HT75.out.size (Below.size hb76))
            have hx76 : Bel wv75 (wi3_76.alloc (.cells (GMsg.enc default).toArray 70)) := (Bel.trans hb76 ((Bel.refl wi3_76).alloc _))
            have hl76 : wv75.heap.size ≤ wi3_76.heap.size := Below.size hb76
            obtain ⟨pa76, hp76⟩ : ∃ p, wi3_76.heap.size = p := ⟨_, rfl⟩
            rw [hp76] at hn76 hl76 ⊢
            change wpH _ _ _ _ _ _ _ _ _ _ _ (wi3_76.alloc (.cells (GMsg.enc default).toArray 70))
            generalize wi3_76.alloc (.cells (GMsg.enc default).toArray 70) = wv76 at hn76 hx76 ⊢
            have HT76 := Lib.hid (HT75.out.tr (Chg.of_bel hx76 _)); have HK76 := Lib.hid (HK75.out.step hx76)
            have HAa76 := Lib.hid hn76
            have HAc76 := Lib.hid (HAc75.out.step hx76); have HDca76 := Lib.hid (show ¬ pc75 = pa76 from fun e => by have := HAc75.out.lt; omega)
            have HAb76 := Lib.hid (HAb75.out.step hx76); have HDba76 := Lib.hid (show ¬ pb68 = pa76 from fun e => by have := HAb75.out.lt; omega)
            clear hK K hb76 hn76 hx76 hl76 hp76 hi3_76
            have HS := Lib.hid (show St3 w14 wv76 (fun k => (k = g ∨ ho5.val.ownBlock = some k) ∨ k = B 2) pa76 pb68 pc75 default default default (B 1) (B 2) (signB X6.book (keyC N (ofL N default ys2) mq)) from ⟨HAa76.out, HAb76.out, HAc76.out, HT76.out.sub (fun k e => .inl e), HK76.out, (fun e => HDba76.out e.symm), (fun e => HDca76.out e.symm), HDbc75.out, HLB2.out.1, HLB2.out.2⟩)
            refine wpH_force 8 _ rfl (by kernel_rfl) rfl fun ws hs K hK => ?_
            have hq := HS.out.step hs
            have kq := hq.a.k
            have fq := hq.a.f
            go_simp
            refine hK _ _ (fun h => absurd (by simp) h) (fun _ => hq.chA _) ?_
            replace HS := Lib.hid (hq.putA (msgC cm 2))
            generalize World.putCells ws ⟨pa76, 0, none⟩ (GMsg.enc (msgC cm 2)) = wp77 at HS ⊢
            clear hK K kq fq hq hs
            refine wpH_force 9 _ rfl (by kernel_rfl) rfl fun ws hs K hK => ?_
            have hq := HS.out.step hs
            have kq := hq.b.k
            have fq := hq.b.f
            go_simp
            refine hK _ _ (fun h => absurd (by simp) h) (fun _ => hq.chB _) ?_
            replace HS := Lib.hid (hq.putB (msgC c2 2))
            generalize World.putCells ws ⟨pb68, 0, none⟩ (GMsg.enc (msgC c2 2)) = wp78 at HS ⊢
            clear hK K kq fq hq hs
            refine wpH_force 10 _ rfl (by kernel_rfl) rfl fun ws hs K hK => ?_
            have hq := HS.out.step hs
            have kq := hq.c.k
            have fq := hq.c.f
            go_simp
            refine hK _ _ (fun h => absurd (by simp) h) (fun _ => hq.chC _) ?_
            replace HS := Lib.hid (hq.putC (msgC cm 2))
            generalize World.putCells ws ⟨pc75, 0, none⟩ (GMsg.enc (msgC cm 2)) = wp79 at HS ⊢
            clear hK K kq fq hq hs
            refine wpH_end (by kernel_rfl) (fun wn hwn => ?_) _
            have HF := Lib.hid (HS.out.step hwn)
            clear hwn HS
            go_wp2_with fail
            go_meet
            exact ⟨_, _, _, rfl, rfl, rfl, HF⟩
        · refine ⟨_, rfl, rfl, fun wi1_80 hi1_80 K hK => ?_⟩
          go_simp
          have hb80 : Bel wv68 wi1_80 := hi1_80
          refine hK _ _ (fun _ => GB.al _ _) (fun _ => Chg.of_bel (GB.al _ _) _) ?_
          have hn80 := AlM.new (w0 := w14) (w := wi1_80) (Nat.le_trans (Below.size HBl68.out) (Below.size hb80))
          have hx80 : Bel wv68 (wi1_80.alloc (.cells (GMsg.enc default).toArray 70)) := (Bel.trans hb80 ((Bel.refl wi1_80).alloc _))
          have hl80 : wv68.heap.size ≤ wi1_80.heap.size := Below.size hb80
          obtain ⟨pa80, hp80⟩ : ∃ p, wi1_80.heap.size = p := ⟨_, rfl⟩
          rw [hp80] at hn80 hl80 ⊢
          change wpH _ _ _ _ _ _ _ _ _ _ _ (wi1_80.alloc (.cells (GMsg.enc default).toArray 70))
          generalize wi1_80.alloc (.cells (GMsg.enc default).toArray 70) = wv80 at hn80 hx80 ⊢
          have HBl80 := Lib.hid (HBl68.out.trans hx80)
          have HAa80 := Lib.hid hn80
          have HAb80 := Lib.hid (HAb68.out.step hx80); have HDba80 := Lib.hid (show ¬ pb68 = pa80 from fun e => by have := HAb68.out.lt; omega)
          clear hK K hb80 hn80 hx80 hl80 hp80 hi1_80
          refine wpH_list [3, 7] (by simp) (by kernel_rfl) ?_
          intro t ht
          simp only [List.mem_cons, List.not_mem_nil, or_false] at ht
          rcases ht with rfl | rfl
          · refine ⟨_, rfl, rfl, fun wi2_81 hi2_81 K hK => ?_⟩
            go_simp
            have hb81 : Bel wv80 wi2_81 := hi2_81
            refine (HCALL.out wi2_81 (HBl80.out.trans hb81)).mono ?_
            rintro _ wu81 ⟨ho6, L6, rfl, -, -, hbk81, hch81, -⟩
            rw [HC2.out]
            refine hK _ _ (fun h => absurd (by simp) h) (fun _ => hch81.sub (fun k e => .inl e)) ?_
            have HT81 := Lib.hid ((Chg.of_bel (HBl80.out.trans hb81) (fun k => (k = g ∨ ho5.val.ownBlock = some k) ∨ k = B 2)).tr hch81)
            have HK81 := Lib.hid hbk81
            have HAa81 := Lib.hid ((HAa80.out.step hb81).chg hch81 (HSN.out pa80 HAa80.out.ge))
            have HAb81 := Lib.hid ((HAb80.out.step hb81).chg hch81 (HSN.out pb68 HAb80.out.ge))
            clear hK K hbk81 hch81 hb81 hi2_81
            refine wpH_force 7 _ rfl (by kernel_rfl) rfl fun wi3_82 hi3_82 K hK => ?_
            go_simp
            have hb82 : Bel wu81 wi3_82 := hi3_82
            refine hK _ _ (fun _ => GB.al _ _) (fun _ => Chg.of_bel (GB.al _ _) _) ?_
            have hn82 := AlM.new (w0 := w14) (w := wi3_82) (Nat.le_trans HT81.out.size (Below.size hb82))
            have hx82 : Bel wu81 (wi3_82.alloc (.cells (GMsg.enc default).toArray 70)) := (Bel.trans hb82 ((Bel.refl wi3_82).alloc _))
            have hl82 : wu81.heap.size ≤ wi3_82.heap.size := Below.size hb82
            obtain ⟨pc82, hp82⟩ : ∃ p, wi3_82.heap.size = p := ⟨_, rfl⟩
            rw [hp82] at hn82 hl82 ⊢
            change wpH _ _ _ _ _ _ _ _ _ _ _ (wi3_82.alloc (.cells (GMsg.enc default).toArray 70))
            generalize wi3_82.alloc (.cells (GMsg.enc default).toArray 70) = wv82 at hn82 hx82 ⊢
            have HT82 := Lib.hid (HT81.out.tr (Chg.of_bel hx82 _)); have HK82 := Lib.hid (HK81.out.step hx82)
            have HAc82 := Lib.hid hn82
            have HAa82 := Lib.hid (HAa81.out.step hx82); have HDac82 := Lib.hid (show ¬ pa80 = pc82 from fun e => by have := HAa81.out.lt; omega)
            have HAb82 := Lib.hid (HAb81.out.step hx82); have HDbc82 := Lib.hid (show ¬ pb68 = pc82 from fun e => by have := HAb81.out.lt; omega)
            clear hK K hb82 hn82 hx82 hl82 hp82 hi3_82
            have HS := Lib.hid (show St3 w14 wv82 (fun k => (k = g ∨ ho5.val.ownBlock = some k) ∨ k = B 2) pa80 pb68 pc82 default default default (B 1) (B 2) (signB X6.book (keyC N (ofL N default ys2) mq)) from ⟨HAa82.out, HAb82.out, HAc82.out, HT82.out.sub (fun k e => .inl e), HK82.out, (fun e => HDba80.out e.symm), HDac82.out, HDbc82.out, HLB2.out.1, HLB2.out.2⟩)
            refine wpH_force 8 _ rfl (by kernel_rfl) rfl fun ws hs K hK => ?_
            have hq := HS.out.step hs
            have kq := hq.a.k
            have fq := hq.a.f
            go_simp
            refine hK _ _ (fun h => absurd (by simp) h) (fun _ => hq.chA _) ?_
            replace HS := Lib.hid (hq.putA (msgC cm 2))
            generalize World.putCells ws ⟨pa80, 0, none⟩ (GMsg.enc (msgC cm 2)) = wp83 at HS ⊢
            clear hK K kq fq hq hs
            refine wpH_force 9 _ rfl (by kernel_rfl) rfl fun ws hs K hK => ?_
            have hq := HS.out.step hs
            have kq := hq.b.k
            have fq := hq.b.f
            go_simp
            refine hK _ _ (fun h => absurd (by simp) h) (fun _ => hq.chB _) ?_
            replace HS := Lib.hid (hq.putB (msgC c2 2))
            generalize World.putCells ws ⟨pb68, 0, none⟩ (GMsg.enc (msgC c2 2)) = wp84 at HS ⊢
            clear hK K kq fq hq hs
            refine wpH_force 10 _ rfl (by kernel_rfl) rfl fun ws hs K hK => ?_
            have hq := HS.out.step hs
            have kq := hq.c.k
            have fq := hq.c.f
            go_simp
            refine hK _ _ (fun h => absurd (by simp) h) (fun _ => hq.chC _) ?_
            replace HS := Lib.hid (hq.putC (msgC cm 2))
            generalize World.putCells ws ⟨pc82, 0, none⟩ (GMsg.enc (msgC cm 2)) = wp85 at HS ⊢
            clear hK K kq fq hq hs
            refine wpH_end (by kernel_rfl) (fun wn hwn => ?_) _
            have HF := Lib.hid (HS.out.step hwn)
            clear hwn HS
            go_wp2_with fail
            go_meet
            exact ⟨_, _, _, rfl, rfl, rfl, HF⟩
          · refine ⟨_, rfl, rfl, fun wi2_86 hi2_86 K hK => ?_⟩
            go_simp
            have hb86 : Bel wv80 wi2_86 := hi2_86
            refine hK _ _ (fun _ => GB.al _ _) (fun _ => Chg.of_bel (GB.al _ _) _) ?_
            have hn86 := AlM.new (w0 := w14) (w := wi2_86) (Nat.le_trans (Below.size HBl80.out) (Below.size hb86))
            have hx86 : Bel wv80 (wi2_86.alloc (.cells (GMsg.enc default).toArray 70)) := (Bel.trans hb86 ((Bel.refl wi2_86).alloc _))
            have hl86 : wv80.heap.size ≤ wi2_86.heap.size := Below.size hb86
            obtain ⟨pc86, hp86⟩ : ∃ p, wi2_86.heap.size = p := ⟨_, rfl⟩
            rw [hp86] at hn86 hl86 ⊢
            change wpH _ _ _ _ _ _ _ _ _ _ _ (wi2_86.alloc (.cells (GMsg.enc default).toArray 70))
            generalize wi2_86.alloc (.cells (GMsg.enc default).toArray 70) = wv86 at hn86 hx86 ⊢
            have HBl86 := Lib.hid (HBl80.out.trans hx86)
            have HAc86 := Lib.hid hn86
            have HAa86 := Lib.hid (HAa80.out.step hx86); have HDac86 := Lib.hid (show ¬ pa80 = pc86 from fun e => by have := HAa80.out.lt; omega)
            have HAb86 := Lib.hid (HAb80.out.step hx86); have HDbc86 := Lib.hid (show ¬ pb68 = pc86 from fun e => by have := HAb80.out.lt; omega)
            clear hK K hb86 hn86 hx86 hl86 hp86 hi2_86
            refine wpH_force 3 _ rfl (by kernel_rfl) rfl fun wi3_87 hi3_87 K hK => ?_
            go_simp
            have hb87 : Bel wv86 wi3_87 := hi3_87
            refine (HCALL.out wi3_87 (HBl86.out.trans hb87)).mono ?_
            rintro _ wu87 ⟨ho6, L6, rfl, -, -, hbk87, hch87, -⟩
            rw [HC2.out]
            refine hK _ _ (fun h => absurd (by simp) h) (fun _ => hch87.sub (fun k e => .inl e)) ?_
            have HT87 := Lib.hid ((Chg.of_bel (HBl86.out.trans hb87) (fun k => (k = g ∨ ho5.val.ownBlock = some k) ∨ k = B 2)).tr hch87)
            have HK87 := Lib.hid hbk87
            have HAc87 := Lib.hid ((HAc86.out.step hb87).chg hch87 (HSN.out pc86 HAc86.out.ge))
            have HAa87 := Lib.hid ((HAa86.out.step hb87).chg hch87 (HSN.out pa80 HAa86.out.ge))
            have HAb87 := Lib.hid ((HAb86.out.step hb87).chg hch87 (HSN.out pb68 HAb86.out.ge))
            clear hK K hbk87 hch87 hb87 hi3_87
            have HS := Lib.hid (show St3 w14 wu87 (fun k => (k = g ∨ ho5.val.ownBlock = some k) ∨ k = B 2) pa80 pb68 pc86 default default default (B 1) (B 2) (signB X6.book (keyC N (ofL N default ys2) mq)) from ⟨HAa87.out, HAb87.out, HAc87.out, HT87.out.sub (fun k e => .inl e), HK87.out, (fun e => HDba80.out e.symm), HDac86.out, HDbc86.out, HLB2.out.1, HLB2.out.2⟩)
            refine wpH_force 8 _ rfl (by kernel_rfl) rfl fun ws hs K hK => ?_
            have hq := HS.out.step hs
            have kq := hq.a.k
            have fq := hq.a.f
            go_simp
            refine hK _ _ (fun h => absurd (by simp) h) (fun _ => hq.chA _) ?_
            replace HS := Lib.hid (hq.putA (msgC cm 2))
            generalize World.putCells ws ⟨pa80, 0, none⟩ (GMsg.enc (msgC cm 2)) = wp88 at HS ⊢
            clear hK K kq fq hq hs
            refine wpH_force 9 _ rfl (by kernel_rfl) rfl fun ws hs K hK => ?_
            have hq := HS.out.step hs
            have kq := hq.b.k
            have fq := hq.b.f
            go_simp
            refine hK _ _ (fun h => absurd (by simp) h) (fun _ => hq.chB _) ?_
            replace HS := Lib.hid (hq.putB (msgC c2 2))
            generalize World.putCells ws ⟨pb68, 0, none⟩ (GMsg.enc (msgC c2 2)) = wp89 at HS ⊢
            clear hK K kq fq hq hs
            refine wpH_force 10 _ rfl (by kernel_rfl) rfl fun ws hs K hK => ?_
            have hq := HS.out.step hs
            have kq := hq.c.k
            have fq := hq.c.f
            go_simp
            refine hK _ _ (fun h => absurd (by simp) h) (fun _ => hq.chC _) ?_
            replace HS := Lib.hid (hq.putC (msgC cm 2))
            generalize World.putCells ws ⟨pc86, 0, none⟩ (GMsg.enc (msgC cm 2)) = wp90 at HS ⊢
            clear hK K kq fq hq hs
            refine wpH_end (by kernel_rfl) (fun wn hwn => ?_) _
            have HF := Lib.hid (HS.out.step hwn)
            clear hwn HS
            go_wp2_with fail
            go_meet
            exact ⟨_, _, _, rfl, rfl, rfl, HF⟩
        · refine ⟨_, rfl, rfl, fun wi1_91 hi1_91 K hK => ?_⟩
          go_simp
          have hb91 : Bel wv68 wi1_91 := hi1_91
          refine hK _ _ (fun _ => GB.al _ _) (fun _ => Chg.of_bel (GB.al _ _) _) ?_
          have hn91 := AlM.new (w0 := w14) (w := wi1_91) (Nat.le_trans (Below.size HBl68.out) (Below.size hb91))
          have hx91 : Bel wv68 (wi1_91.alloc (.cells (GMsg.enc default).toArray 70)) := (Bel.trans hb91 ((Bel.refl wi1_91).alloc _))
          have hl91 : wv68.heap.size ≤ wi1_91.heap.size := Below.size hb91
          obtain ⟨pc91, hp91⟩ : ∃ p, wi1_91.heap.size = p := ⟨_, rfl⟩
          rw [hp91] at hn91 hl91 ⊢
          change wpH _ _ _ _ _ _ _ _ _ _ _ (wi1_91.alloc (.cells (GMsg.enc default).toArray 70))
          generalize wi1_91.alloc (.cells (GMsg.enc default).toArray 70) = wv91 at hn91 hx91 ⊢
          have HBl91 := Lib.hid (HBl68.out.trans hx91)
          have HAc91 := Lib.hid hn91
          have HAb91 := Lib.hid (HAb68.out.step hx91); have HDbc91 := Lib.hid (show ¬ pb68 = pc91 from fun e => by have := HAb68.out.lt; omega)
          clear hK K hb91 hn91 hx91 hl91 hp91 hi1_91
          refine wpH_list [3, 5] (by simp) (by kernel_rfl) ?_
          intro t ht
          simp only [List.mem_cons, List.not_mem_nil, or_false] at ht
          rcases ht with rfl | rfl
          · refine ⟨_, rfl, rfl, fun wi2_92 hi2_92 K hK => ?_⟩
            go_simp
            have hb92 : Bel wv91 wi2_92 := hi2_92
            refine (HCALL.out wi2_92 (HBl91.out.trans hb92)).mono ?_
            rintro _ wu92 ⟨ho6, L6, rfl, -, -, hbk92, hch92, -⟩
            rw [HC2.out]
            refine hK _ _ (fun h => absurd (by simp) h) (fun _ => hch92.sub (fun k e => .inl e)) ?_
            have HT92 := Lib.hid ((Chg.of_bel (HBl91.out.trans hb92) (fun k => (k = g ∨ ho5.val.ownBlock = some k) ∨ k = B 2)).tr hch92)
            have HK92 := Lib.hid hbk92
            have HAc92 := Lib.hid ((HAc91.out.step hb92).chg hch92 (HSN.out pc91 HAc91.out.ge))
            have HAb92 := Lib.hid ((HAb91.out.step hb92).chg hch92 (HSN.out pb68 HAb91.out.ge))
            clear hK K hbk92 hch92 hb92 hi2_92
            refine wpH_force 5 _ rfl (by kernel_rfl) rfl fun wi3_93 hi3_93 K hK => ?_
            go_simp
            have hb93 : Bel wu92 wi3_93 := hi3_93
            refine hK _ _ (fun _ => GB.al _ _) (fun _ => Chg.of_bel (GB.al _ _) _) ?_
            have hn93 := AlM.new (w0 := w14) (w := wi3_93) (Nat.le_trans HT92.out.size (Below.size hb93))
            have hx93 : Bel wu92 (wi3_93.alloc (.cells (GMsg.enc default).toArray 70)) := (Bel.trans hb93 ((Bel.refl wi3_93).alloc _))
            have hl93 : wu92.heap.size ≤ wi3_93.heap.size := Below.size hb93
            obtain ⟨pa93, hp93⟩ : ∃ p, wi3_93.heap.size = p := ⟨_, rfl⟩
            rw [hp93] at hn93 hl93 ⊢
            change wpH _ _ _ _ _ _ _ _ _ _ _ (wi3_93.alloc (.cells (GMsg.enc default).toArray 70))
            generalize wi3_93.alloc (.cells (GMsg.enc default).toArray 70) = wv93 at hn93 hx93 ⊢
            have HT93 := Lib.hid (HT92.out.tr (Chg.of_bel hx93 _)); have HK93 := Lib.hid (HK92.out.step hx93)
            have HAa93 := Lib.hid hn93
            have HAc93 := Lib.hid (HAc92.out.step hx93); have HDca93 := Lib.hid (show ¬ pc91 = pa93 from fun e => by have := HAc92.out.lt; omega)
            have HAb93 := Lib.hid (HAb92.out.step hx93); have HDba93 := Lib.hid (show ¬ pb68 = pa93 from fun e => by have := HAb92.out.lt; omega)
            clear hK K hb93 hn93 hx93 hl93 hp93 hi3_93
            have HS := Lib.hid (show St3 w14 wv93 (fun k => (k = g ∨ ho5.val.ownBlock = some k) ∨ k = B 2) pa93 pb68 pc91 default default default (B 1) (B 2) (signB X6.book (keyC N (ofL N default ys2) mq)) from ⟨HAa93.out, HAb93.out, HAc93.out, HT93.out.sub (fun k e => .inl e), HK93.out, (fun e => HDba93.out e.symm), (fun e => HDca93.out e.symm), HDbc91.out, HLB2.out.1, HLB2.out.2⟩)
            refine wpH_force 8 _ rfl (by kernel_rfl) rfl fun ws hs K hK => ?_
            have hq := HS.out.step hs
            have kq := hq.a.k
            have fq := hq.a.f
            go_simp
            refine hK _ _ (fun h => absurd (by simp) h) (fun _ => hq.chA _) ?_
            replace HS := Lib.hid (hq.putA (msgC cm 2))
            generalize World.putCells ws ⟨pa93, 0, none⟩ (GMsg.enc (msgC cm 2)) = wp94 at HS ⊢
            clear hK K kq fq hq hs
            refine wpH_force 9 _ rfl (by kernel_rfl) rfl fun ws hs K hK => ?_
            have hq := HS.out.step hs
            have kq := hq.b.k
            have fq := hq.b.f
            go_simp
            refine hK _ _ (fun h => absurd (by simp) h) (fun _ => hq.chB _) ?_
            replace HS := Lib.hid (hq.putB (msgC c2 2))
            generalize World.putCells ws ⟨pb68, 0, none⟩ (GMsg.enc (msgC c2 2)) = wp95 at HS ⊢
            clear hK K kq fq hq hs
            refine wpH_force 10 _ rfl (by kernel_rfl) rfl fun ws hs K hK => ?_
            have hq := HS.out.step hs
            have kq := hq.c.k
            have fq := hq.c.f
            go_simp
            refine hK _ _ (fun h => absurd (by simp) h) (fun _ => hq.chC _) ?_
            replace HS := Lib.hid (hq.putC (msgC cm 2))
            generalize World.putCells ws ⟨pc91, 0, none⟩ (GMsg.enc (msgC cm 2)) = wp96 at HS ⊢
            clear hK K kq fq hq hs
            refine wpH_end (by kernel_rfl) (fun wn hwn => ?_) _
            have HF := Lib.hid (HS.out.step hwn)
            clear hwn HS
            go_wp2_with fail
            go_meet
            exact ⟨_, _, _, rfl, rfl, rfl, HF⟩
          · refine ⟨_, rfl, rfl, fun wi2_97 hi2_97 K hK => ?_⟩
            go_simp
            have hb97 : Bel wv91 wi2_97 := hi2_97
            refine hK _ _ (fun _ => GB.al _ _) (fun _ => Chg.of_bel (GB.al _ _) _) ?_
            have hn97 := AlM.new (w0 := w14) (w := wi2_97) (Nat.le_trans (Below.size HBl91.out) (Below.size hb97))
            have hx97 : Bel wv91 (wi2_97.alloc (.cells (GMsg.enc default).toArray 70)) := (Bel.trans hb97 ((Bel.refl wi2_97).alloc _))
            have hl97 : wv91.heap.size ≤ wi2_97.heap.size := Below.size hb97
            obtain ⟨pa97, hp97⟩ : ∃ p, wi2_97.heap.size = p := ⟨_, rfl⟩
            rw [hp97] at hn97 hl97 ⊢
            change wpH _ _ _ _ _ _ _ _ _ _ _ (wi2_97.alloc (.cells (GMsg.enc default).toArray 70))
            generalize wi2_97.alloc (.cells (GMsg.enc default).toArray 70) = wv97 at hn97 hx97 ⊢
            have HBl97 := Lib.hid (HBl91.out.trans hx97)
            have HAa97 := Lib.hid hn97
            have HAc97 := Lib.hid (HAc91.out.step hx97); have HDca97 := Lib.hid (show ¬ pc91 = pa97 from fun e => by have := HAc91.out.lt; omega)
            have HAb97 := Lib.hid (HAb91.out.step hx97); have HDba97 := Lib.hid (show ¬ pb68 = pa97 from fun e => by have := HAb91.out.lt; omega)
            clear hK K hb97 hn97 hx97 hl97 hp97 hi2_97
            refine wpH_force 3 _ rfl (by kernel_rfl) rfl fun wi3_98 hi3_98 K hK => ?_
            go_simp
            have hb98 : Bel wv97 wi3_98 := hi3_98
            refine (HCALL.out wi3_98 (HBl97.out.trans hb98)).mono ?_
            rintro _ wu98 ⟨ho6, L6, rfl, -, -, hbk98, hch98, -⟩
            rw [HC2.out]
            refine hK _ _ (fun h => absurd (by simp) h) (fun _ => hch98.sub (fun k e => .inl e)) ?_
            have HT98 := Lib.hid ((Chg.of_bel (HBl97.out.trans hb98) (fun k => (k = g ∨ ho5.val.ownBlock = some k) ∨ k = B 2)).tr hch98)
            have HK98 := Lib.hid hbk98
            have HAa98 := Lib.hid ((HAa97.out.step hb98).chg hch98 (HSN.out pa97 HAa97.out.ge))
            have HAc98 := Lib.hid ((HAc97.out.step hb98).chg hch98 (HSN.out pc91 HAc97.out.ge))
            have HAb98 := Lib.hid ((HAb97.out.step hb98).chg hch98 (HSN.out pb68 HAb97.out.ge))
            clear hK K hbk98 hch98 hb98 hi3_98
            have HS := Lib.hid (show St3 w14 wu98 (fun k => (k = g ∨ ho5.val.ownBlock = some k) ∨ k = B 2) pa97 pb68 pc91 default default default (B 1) (B 2) (signB X6.book (keyC N (ofL N default ys2) mq)) from ⟨HAa98.out, HAb98.out, HAc98.out, HT98.out.sub (fun k e => .inl e), HK98.out, (fun e => HDba97.out e.symm), (fun e => HDca97.out e.symm), HDbc91.out, HLB2.out.1, HLB2.out.2⟩)
            refine wpH_force 8 _ rfl (by kernel_rfl) rfl fun ws hs K hK => ?_
            have hq := HS.out.step hs
            have kq := hq.a.k
            have fq := hq.a.f
            go_simp
            refine hK _ _ (fun h => absurd (by simp) h) (fun _ => hq.chA _) ?_
            replace HS := Lib.hid (hq.putA (msgC cm 2))
            generalize World.putCells ws ⟨pa97, 0, none⟩ (GMsg.enc (msgC cm 2)) = wp99 at HS ⊢
            clear hK K kq fq hq hs
            refine wpH_force 9 _ rfl (by kernel_rfl) rfl fun ws hs K hK => ?_
            have hq := HS.out.step hs
            have kq := hq.b.k
            have fq := hq.b.f
            go_simp
            refine hK _ _ (fun h => absurd (by simp) h) (fun _ => hq.chB _) ?_
            replace HS := Lib.hid (hq.putB (msgC c2 2))
            generalize World.putCells ws ⟨pb68, 0, none⟩ (GMsg.enc (msgC c2 2)) = wp100 at HS ⊢
            clear hK K kq fq hq hs
            refine wpH_force 10 _ rfl (by kernel_rfl) rfl fun ws hs K hK => ?_
            have hq := HS.out.step hs
            have kq := hq.c.k
            have fq := hq.c.f
            go_simp
            refine hK _ _ (fun h => absurd (by simp) h) (fun _ => hq.chC _) ?_
            replace HS := Lib.hid (hq.putC (msgC cm 2))
            generalize World.putCells ws ⟨pc91, 0, none⟩ (GMsg.enc (msgC cm 2)) = wp101 at HS ⊢
            clear hK K kq fq hq hs
            refine wpH_end (by kernel_rfl) (fun wn hwn => ?_) _
            have HF := Lib.hid (HS.out.step hwn)
            clear hwn HS
            go_wp2_with fail
            go_meet
            exact ⟨_, _, _, rfl, rfl, rfl, HF⟩
      · refine ⟨_, rfl, rfl, fun wi0_102 hi0_102 K hK => ?_⟩
        go_simp
        have hb102 : Bel w14 wi0_102 := GB.undrew hi0_102
        refine hK _ _ (fun _ => GB.al _ _) (fun _ => Chg.of_bel (GB.al _ _) _) ?_
        have hn102 := AlM.new (w0 := w14) (w := wi0_102) (Nat.le_trans (Below.size HBl0.out) (Below.size hb102))
        have hx102 : Bel w14 (wi0_102.alloc (.cells (GMsg.enc default).toArray 70)) := (Bel.trans hb102 ((Bel.refl wi0_102).alloc _))
        have hl102 : w14.heap.size ≤ wi0_102.heap.size := Below.size hb102
        obtain ⟨pc102, hp102⟩ : ∃ p, wi0_102.heap.size = p := ⟨_, rfl⟩
        rw [hp102] at hn102 hl102 ⊢
        change wpH _ _ _ _ _ _ _ _ _ _ _ (wi0_102.alloc (.cells (GMsg.enc default).toArray 70))
        generalize wi0_102.alloc (.cells (GMsg.enc default).toArray 70) = wv102 at hn102 hx102 ⊢
        have HBl102 := Lib.hid (HBl0.out.trans hx102)
        have HAc102 := Lib.hid hn102
        clear hK K hb102 hn102 hx102 hl102 hp102 hi0_102
        refine wpH_list [3, 5, 6] (by simp) (by kernel_rfl) ?_
        intro t ht
        simp only [List.mem_cons, List.not_mem_nil, or_false] at ht
        rcases ht with rfl | rfl | rfl
        · refine ⟨_, rfl, rfl, fun wi1_103 hi1_103 K hK => ?_⟩
          go_simp
          have hb103 : Bel wv102 wi1_103 := hi1_103
          refine (HCALL.out wi1_103 (HBl102.out.trans hb103)).mono ?_
          rintro _ wu103 ⟨ho6, L6, rfl, -, -, hbk103, hch103, -⟩
          rw [HC2.out]
          refine hK _ _ (fun h => absurd (by simp) h) (fun _ => hch103.sub (fun k e => .inl e)) ?_
          have HT103 := Lib.hid ((Chg.of_bel (HBl102.out.trans hb103) (fun k => (k = g ∨ ho5.val.ownBlock = some k) ∨ k = B 2)).tr hch103)
          have HK103 := Lib.hid hbk103
          have HAc103 := Lib.hid ((HAc102.out.step hb103).chg hch103 (HSN.out pc102 HAc102.out.ge))
          clear hK K hbk103 hch103 hb103 hi1_103
          refine wpH_list [5, 6] (by simp) (by kernel_rfl) ?_
          intro t ht
          simp only [List.mem_cons, List.not_mem_nil, or_false] at ht
          rcases ht with rfl | rfl
          · refine ⟨_, rfl, rfl, fun wi2_104 hi2_104 K hK => ?_⟩
            go_simp
            have hb104 : Bel wu103 wi2_104 := hi2_104
            refine hK _ _ (fun _ => GB.al _ _) (fun _ => Chg.of_bel (GB.al _ _) _) ?_
            have hn104 := AlM.new (w0 := w14) (w := wi2_104) (Nat.le_trans HT103.out.size (Below.size hb104))
            have hx104 : Bel wu103 (wi2_104.alloc (.cells (GMsg.enc default).toArray 70)) := (Bel.trans hb104 ((Bel.refl wi2_104).alloc _))
            have hl104 : wu103.heap.size ≤ wi2_104.heap.size := Below.size hb104
            obtain ⟨pa104, hp104⟩ : ∃ p, wi2_104.heap.size = p := ⟨_, rfl⟩
            rw [hp104] at hn104 hl104 ⊢
            change wpH _ _ _ _ _ _ _ _ _ _ _ (wi2_104.alloc (.cells (GMsg.enc default).toArray 70))
            generalize wi2_104.alloc (.cells (GMsg.enc default).toArray 70) = wv104 at hn104 hx104 ⊢
            have HT104 := Lib.hid (HT103.out.tr (Chg.of_bel hx104 _)); have HK104 := Lib.hid (HK103.out.step hx104)
            have HAa104 := Lib.hid hn104
            have HAc104 := Lib.hid (HAc103.out.step hx104); have HDca104 := Lib.hid (show ¬ pc102 = pa104 from fun e => by have := HAc103.out.lt; omega)
            clear hK K hb104 hn104 hx104 hl104 hp104 hi2_104
            refine wpH_force 6 _ rfl (by kernel_rfl) rfl fun wi3_105 hi3_105 K hK => ?_
            go_simp
            have hb105 : Bel wv104 wi3_105 := hi3_105
            refine hK _ _ (fun _ => GB.al _ _) (fun _ => Chg.of_bel (GB.al _ _) _) ?_
            have hn105 := AlM.new (w0 := w14) (w := wi3_105) (Nat.le_trans HT104.out.size (Below.size hb105))
            have hx105 : Bel wv104 (wi3_105.alloc (.cells (GMsg.enc default).toArray 70)) := (Bel.trans hb105 ((Bel.refl wi3_105).alloc _))
            have hl105 : wv104.heap.size ≤ wi3_105.heap.size := Below.size hb105
            obtain ⟨pb105, hp105⟩ : ∃ p, wi3_105.heap.size = p := ⟨_, rfl⟩
            rw [hp105] at hn105 hl105 ⊢
            change wpH _ _ _ _ _ _ _ _ _ _ _ (wi3_105.alloc (.cells (GMsg.enc default).toArray 70))
            generalize wi3_105.alloc (.cells (GMsg.enc default).toArray 70) = wv105 at hn105 hx105 ⊢
            have HT105 := Lib.hid (HT104.out.tr (Chg.of_bel hx105 _)); have HK105 := Lib.hid (HK104.out.step hx105)
            have HAb105 := Lib.hid hn105
            have HAa105 := Lib.hid (HAa104.out.step hx105); have HDab105 := Lib.hid (show ¬ pa104 = pb105 from fun e => by have := HAa104.out.lt; omega)
            have HAc105 := Lib.hid (HAc104.out.step hx105); have HDcb105 := Lib.hid (show ¬ pc102 = pb105 from fun e => by have := HAc104.out.lt; omega)
            clear hK K hb105 hn105 hx105 hl105 hp105 hi3_105
            have HS := Lib.hid (show St3 w14 wv105 (fun k => (k = g ∨ ho5.val.ownBlock = some k) ∨ k = B 2) pa104 pb105 pc102 default default default (B 1) (B 2) (signB X6.book (keyC N (ofL N default ys2) mq)) from ⟨HAa105.out, HAb105.out, HAc105.out, HT105.out.sub (fun k e => .inl e), HK105.out, HDab105.out, (fun e => HDca104.out e.symm), (fun e => HDcb105.out e.symm), HLB2.out.1, HLB2.out.2⟩)
            refine wpH_force 8 _ rfl (by kernel_rfl) rfl fun ws hs K hK => ?_
            have hq := HS.out.step hs
            have kq := hq.a.k
            have fq := hq.a.f
            go_simp
            refine hK _ _ (fun h => absurd (by simp) h) (fun _ => hq.chA _) ?_
            replace HS := Lib.hid (hq.putA (msgC cm 2))
            generalize World.putCells ws ⟨pa104, 0, none⟩ (GMsg.enc (msgC cm 2)) = wp106 at HS ⊢
            clear hK K kq fq hq hs
            refine wpH_force 9 _ rfl (by kernel_rfl) rfl fun ws hs K hK => ?_
            have hq := HS.out.step hs
            have kq := hq.b.k
            have fq := hq.b.f
            go_simp
            refine hK _ _ (fun h => absurd (by simp) h) (fun _ => hq.chB _) ?_
            replace HS := Lib.hid (hq.putB (msgC c2 2))
            generalize World.putCells ws ⟨pb105, 0, none⟩ (GMsg.enc (msgC c2 2)) = wp107 at HS ⊢
            clear hK K kq fq hq hs
            refine wpH_force 10 _ rfl (by kernel_rfl) rfl fun ws hs K hK => ?_
            have hq := HS.out.step hs
            have kq := hq.c.k
            have fq := hq.c.f
            go_simp
            refine hK _ _ (fun h => absurd (by simp) h) (fun _ => hq.chC _) ?_
            replace HS := Lib.hid (hq.putC (msgC cm 2))
            generalize World.putCells ws ⟨pc102, 0, none⟩ (GMsg.enc (msgC cm 2)) = wp108 at HS ⊢
            clear hK K kq fq hq hs
            refine wpH_end (by kernel_rfl) (fun wn hwn => ?_) _
            have HF := Lib.hid (HS.out.step hwn)
            clear hwn HS
            go_wp2_with fail
            go_meet
            exact ⟨_, _, _, rfl, rfl, rfl, HF⟩
          · refine ⟨_, rfl, rfl, fun wi2_109 hi2_109 K hK => ?_⟩
            go_simp
            have hb109 : Bel wu103 wi2_109 := hi2_109
            refine hK _ _ (fun _ => GB.al _ _) (fun _ => Chg.of_bel (GB.al _ _) _) ?_
            have hn109 := AlM.new (w0 := w14) (w := wi2_109) (Nat.le_trans HT103.out.size (Below.size hb109))
            have hx109 : Bel wu103 (wi2_109.alloc (.cells (GMsg.enc default).toArray 70)) := (Bel.trans hb109 ((Bel.refl wi2_109).alloc _))
            have hl109 : wu103.heap.size ≤ wi2_109.heap.size := Below.size hb109
            obtain ⟨pb109, hp109⟩ : ∃ p, wi2_109.heap.size = p := ⟨_, rfl⟩
            rw [hp109] at hn109 hl109 ⊢
            change wpH _ _ _ _ _ _ _ _ _ _ _ (wi2_109.alloc (.cells (GMsg.enc default).toArray 70))
            generalize wi2_109.alloc (.cells (GMsg.enc default).toArray 70) = wv109 at hn109 hx109 ⊢
            have HT109 := Lib.hid (HT103.out.tr (Chg.of_bel hx109 _)); have HK109 := Lib.hid (HK103.out.step hx109)
            have HAb109 := Lib.hid hn109
            have HAc109 := Lib.hid (HAc103.out.step hx109); have HDcb109 := Lib.hid (show ¬ pc102 = pb109 from fun e => by have := HAc103.out.lt; omega)
            clear hK K hb109 hn109 hx109 hl109 hp109 hi2_109
            refine wpH_force 5 _ rfl (by kernel_rfl) rfl fun wi3_110 hi3_110 K hK => ?_
            go_simp
            have hb110 : Bel wv109 wi3_110 := hi3_110
            refine hK _ _ (fun _ => GB.al _ _) (fun _ => Chg.of_bel (GB.al _ _) _) ?_
            have hn110 := AlM.new (w0 := w14) (w := wi3_110) (Nat.le_trans HT109.out.size (Below.size hb110))
            have hx110 : Bel wv109 (wi3_110.alloc (.cells (GMsg.enc default).toArray 70)) := (Bel.trans hb110 ((Bel.refl wi3_110).alloc _))
            have hl110 : wv109.heap.size ≤ wi3_110.heap.size := Below.size hb110
            obtain ⟨pa110, hp110⟩ : ∃ p, wi3_110.heap.size = p := ⟨_, rfl⟩
            rw [hp110] at hn110 hl110 ⊢
            change wpH _ _ _ _ _ _ _ _ _ _ _ (wi3_110.alloc (.cells (GMsg.enc default).toArray 70))
            generalize wi3_110.alloc (.cells (GMsg.enc default).toArray 70) = wv110 at hn110 hx110 ⊢
            have HT110 := Lib.hid (HT109.out.tr (Chg.of_bel hx110 _)); have HK110 := Lib.hid (HK109.out.step hx110)
            have HAa110 := Lib.hid hn110
            have HAb110 := Lib.hid (HAb109.out.step hx110); have HDba110 := Lib.hid (show ¬ pb109 = pa110 from fun e => by have := HAb109.out.lt; omega)
            have HAc110 := Lib.hid (HAc109.out.step hx110); have HDca110 := Lib.hid (show ¬ pc102 = pa110 from fun e => by have := HAc109.out.lt; omega)
            clear hK K hb110 hn110 hx110 hl110 hp110 hi3_110
            have HS := Lib.hid (show St3 w14 wv110 (fun k => (k = g ∨ ho5.val.ownBlock = some k) ∨ k = B 2) pa110 pb109 pc102 default default default (B 1) (B 2) (signB X6.book (keyC N (ofL N default ys2) mq)) from ⟨HAa110.out, HAb110.out, HAc110.out, HT110.out.sub (fun k e => .inl e), HK110.out, (fun e => HDba110.out e.symm), (fun e => HDca110.out e.symm), (fun e => HDcb109.out e.symm), HLB2.out.1, HLB2.out.2⟩)
            refine wpH_force 8 _ rfl (by kernel_rfl) rfl fun ws hs K hK => ?_
            have hq := HS.out.step hs
            have kq := hq.a.k
            have fq := hq.a.f
            go_simp
            refine hK _ _ (fun h => absurd (by simp) h) (fun _ => hq.chA _) ?_
            replace HS := Lib.hid (hq.putA (msgC cm 2))
            generalize World.putCells ws ⟨pa110, 0, none⟩ (GMsg.enc (msgC cm 2)) = wp111 at HS ⊢
            clear hK K kq fq hq hs
            refine wpH_force 9 _ rfl (by kernel_rfl) rfl fun ws hs K hK => ?_
            have hq := HS.out.step hs
            have kq := hq.b.k
            have fq := hq.b.f
            go_simp
            refine hK _ _ (fun h => absurd (by simp) h) (fun _ => hq.chB _) ?_
            replace HS := Lib.hid (hq.putB (msgC c2 2))
            generalize World.putCells ws ⟨pb109, 0, none⟩ (GMsg.enc (msgC c2 2)) = wp112 at HS ⊢
            clear hK K kq fq hq hs
            refine wpH_force 10 _ rfl (by kernel_rfl) rfl fun ws hs K hK => ?_
            have hq := HS.out.step hs
            have kq := hq.c.k
            have fq := hq.c.f
            go_simp
            refine hK _ _ (fun h => absurd (by simp) h) (fun _ => hq.chC _) ?_
            replace HS := Lib.hid (hq.putC (msgC cm 2))
            generalize World.putCells ws ⟨pc102, 0, none⟩ (GMsg.enc (msgC cm 2)) = wp113 at HS ⊢
            clear hK K kq fq hq hs
            refine wpH_end (by kernel_rfl) (fun wn hwn => ?_) _
            have HF := Lib.hid (HS.out.step hwn)
            clear hwn HS
            go_wp2_with fail
            go_meet
            exact ⟨_, _, _, rfl, rfl, rfl, HF⟩
        · refine ⟨_, rfl, rfl, fun wi1_114 hi1_114 K hK => ?_⟩
          go_simp
          have hb114 : Bel wv102 wi1_114 := hi1_114
          refine hK _ _ (fun _ => GB.al _ _) (fun _ => Chg.of_bel (GB.al _ _) _) ?_
          have hn114 := AlM.new (w0 := w14) (w := wi1_114) (Nat.le_trans (Below.size HBl102.out) (Below.size hb114))
          have hx114 : Bel wv102 (wi1_114.alloc (.cells (GMsg.enc default).toArray 70)) := (Bel.trans hb114 ((Bel.refl wi1_114).alloc _))
          have hl114 : wv102.heap.size ≤ wi1_114.heap.size := Below.size hb114
          obtain ⟨pa114, hp114⟩ : ∃ p, wi1_114.heap.size = p := ⟨_, rfl⟩
          rw [hp114] at hn114 hl114 ⊢
          change wpH _ _ _ _ _ _ _ _ _ _ _ (wi1_114.alloc (.cells (GMsg.enc default).toArray 70))
          generalize wi1_114.alloc (.cells (GMsg.enc default).toArray 70) = wv114 at hn114 hx114 ⊢
          have HBl114 := Lib.hid (HBl102.out.trans hx114)
          have HAa114 := Lib.hid hn114
          have HAc114 := Lib.hid (HAc102.out.step hx114); have HDca114 := Lib.hid (show ¬ pc102 = pa114 from fun e => by have := HAc102.out.lt; omega)
          clear hK K hb114 hn114 hx114 hl114 hp114 hi1_114
          refine wpH_list [3, 6] (by simp) (by kernel_rfl) ?_
          intro t ht
          simp only [List.mem_cons, List.not_mem_nil, or_false] at ht
          rcases ht with rfl | rfl
          · refine ⟨_, rfl, rfl, fun wi2_115 hi2_115 K hK => ?_⟩
            go_simp
            have hb115 : Bel wv114 wi2_115 := hi2_115
            refine (HCALL.out wi2_115 (HBl114.out.trans hb115)).mono ?_
            rintro _ wu115 ⟨ho6, L6, rfl, -, -, hbk115, hch115, -⟩
            rw [HC2.out]
            refine hK _ _ (fun h => absurd (by simp) h) (fun _ => hch115.sub (fun k e => .inl e)) ?_
            have HT115 := Lib.hid ((Chg.of_bel (HBl114.out.trans hb115) (fun k => (k = g ∨ ho5.val.ownBlock = some k) ∨ k = B 2)).tr hch115)
            have HK115 := Lib.hid hbk115
            have HAa115 := Lib.hid ((HAa114.out.step hb115).chg hch115 (HSN.out pa114 HAa114.out.ge))
            have HAc115 := Lib.hid ((HAc114.out.step hb115).chg hch115 (HSN.out pc102 HAc114.out.ge))
            clear hK K hbk115 hch115 hb115 hi2_115
            refine wpH_force 6 _ rfl (by kernel_rfl) rfl fun wi3_116 hi3_116 K hK => ?_
            go_simp
            have hb116 : Bel wu115 wi3_116 := hi3_116
            refine hK _ _ (fun _ => GB.al _ _) (fun _ => Chg.of_bel (GB.al _ _) _) ?_
            have hn116 := AlM.new (w0 := w14) (w := wi3_116) (Nat.le_trans HT115.out.size (Below.size hb116))
            have hx116 : Bel wu115 (wi3_116.alloc (.cells (GMsg.enc default).toArray 70)) := (Bel.trans hb116 ((Bel.refl wi3_116).alloc _))
            have hl116 : wu115.heap.size ≤ wi3_116.heap.size := Below.size hb116
            obtain ⟨pb116, hp116⟩ : ∃ p, wi3_116.heap.size = p := ⟨_, rfl⟩
            rw [hp116] at hn116 hl116 ⊢
            change wpH _ _ _ _ _ _ _ _ _ _ _ (wi3_116.alloc (.cells (GMsg.enc default).toArray 70))
            generalize wi3_116.alloc (.cells (GMsg.enc default).toArray 70) = wv116 at hn116 hx116 ⊢
            have HT116 := Lib.hid (HT115.out.tr (Chg.of_bel hx116 _)); have HK116 := Lib.hid (HK115.out.step hx116)
            have HAb116 := Lib.hid hn116
            have HAa116 := Lib.hid (HAa115.out.step hx116); have HDab116 := Lib.hid (show ¬ pa114 = pb116 from fun e => by have := HAa115.out.lt; omega)
            have HAc116 := Lib.hid (HAc115.out.step hx116); have HDcb116 := Lib.hid (show ¬ pc102 = pb116 from fun e => by have := HAc115.out.lt; omega)
            clear hK K hb116 hn116 hx116 hl116 hp116 hi3_116
            have HS := Lib.hid (show St3 w14 wv116 (fun k => (k = g ∨ ho5.val.ownBlock = some k) ∨ k = B 2) pa114 pb116 pc102 default default default (B 1) (B 2) (signB X6.book (keyC N (ofL N default ys2) mq)) from ⟨HAa116.out, HAb116.out, HAc116.out, HT116.out.sub (fun k e => .inl e), HK116.out, HDab116.out, (fun e => HDca114.out e.symm), (fun e => HDcb116.out e.symm), HLB2.out.1, HLB2.out.2⟩)
            refine wpH_force 8 _ rfl (by kernel_rfl) rfl fun ws hs K hK => ?_
            have hq := HS.out.step hs
            have kq := hq.a.k
            have fq := hq.a.f
            go_simp
            refine hK _ _ (fun h => absurd (by simp) h) (fun _ => hq.chA _) ?_
            replace HS := Lib.hid (hq.putA (msgC cm 2))
            generalize World.putCells ws ⟨pa114, 0, none⟩ (GMsg.enc (msgC cm 2)) = wp117 at HS ⊢
            clear hK K kq fq hq hs
            refine wpH_force 9 _ rfl (by kernel_rfl) rfl fun ws hs K hK => ?_
            have hq := HS.out.step hs
            have kq := hq.b.k
            have fq := hq.b.f
            go_simp
            refine hK _ _ (fun h => absurd (by simp) h) (fun _ => hq.chB _) ?_
            replace HS := Lib.hid (hq.putB (msgC c2 2))
            generalize World.putCells ws ⟨pb116, 0, none⟩ (GMsg.enc (msgC c2 2)) = wp118 at HS ⊢
            clear hK K kq fq hq hs
            refine wpH_force 10 _ rfl (by kernel_rfl) rfl fun ws hs K hK => ?_
            have hq := HS.out.step hs
            have kq := hq.c.k
            have fq := hq.c.f
            go_simp
            refine hK _ _ (fun h => absurd (by simp) h) (fun _ => hq.chC _) ?_
            replace HS := Lib.hid (hq.putC (msgC cm 2))
            generalize World.putCells ws ⟨pc102, 0, none⟩ (GMsg.enc (msgC cm 2)) = wp119 at HS ⊢
            clear hK K kq fq hq hs
            refine wpH_end (by kernel_rfl) (fun wn hwn => ?_) _
            have HF := Lib.hid (HS.out.step hwn)
            clear hwn HS
            go_wp2_with fail
            go_meet
            exact ⟨_, _, _, rfl, rfl, rfl, HF⟩
          · refine ⟨_, rfl, rfl, fun wi2_120 hi2_120 K hK => ?_⟩
            go_simp
            have hb120 : Bel wv114 wi2_120 := hi2_120
            refine hK _ _ (fun _ => GB.al _ _) (fun _ => Chg.of_bel (GB.al _ _) _) ?_
            have hn120 := AlM.new (w0 := w14) (w := wi2_120) (Nat.le_trans (Below.size HBl114.out) (Below.size hb120))
            have hx120 : Bel wv114 (wi2_120.alloc (.cells (GMsg.enc default).toArray 70)) := (Bel.trans hb120 ((Bel.refl wi2_120).alloc _))
            have hl120 : wv114.heap.size ≤ wi2_120.heap.size := Below.size hb120
            obtain ⟨pb120, hp120⟩ : ∃ p, wi2_120.heap.size = p := ⟨_, rfl⟩
            rw [hp120] at hn120 hl120 ⊢
            change wpH _ _ _ _ _ _ _ _ _ _ _ (wi2_120.alloc (.cells (GMsg.enc default).toArray 70))
            generalize wi2_120.alloc (.cells (GMsg.enc default).toArray 70) = wv120 at hn120 hx120 ⊢
            have HBl120 := Lib.hid (HBl114.out.trans hx120)
            have HAb120 := Lib.hid hn120
            have HAa120 := Lib.hid (HAa114.out.step hx120); have HDab120 := Lib.hid (show ¬ pa114 = pb120 from fun e => by have := HAa114.out.lt; omega)
            have HAc120 := Lib.hid (HAc114.out.step hx120); have HDcb120 := Lib.hid (show ¬ pc102 = pb120 from fun e => by have := HAc114.out.lt; omega)
            clear hK K hb120 hn120 hx120 hl120 hp120 hi2_120
            refine wpH_force 3 _ rfl (by kernel_rfl) rfl fun wi3_121 hi3_121 K hK => ?_
            go_simp
            have hb121 : Bel wv120 wi3_121 := hi3_121
            refine (HCALL.out wi3_121 (HBl120.out.trans hb121)).mono ?_
            rintro _ wu121 ⟨ho6, L6, rfl, -, -, hbk121, hch121, -⟩
            rw [HC2.out]
            refine hK _ _ (fun h => absurd (by simp) h) (fun _ => hch121.sub (fun k e => .inl e)) ?_
            have HT121 := Lib.hid ((Chg.of_bel (HBl120.out.trans hb121) (fun k => (k = g ∨ ho5.val.ownBlock = some k) ∨ k = B 2)).tr hch121)
            have HK121 := Lib.hid hbk121
            have HAb121 := Lib.hid ((HAb120.out.step hb121).chg hch121 (HSN.out pb120 HAb120.out.ge))
            have HAa121 := Lib.hid ((HAa120.out.step hb121).chg hch121 (HSN.out pa114 HAa120.out.ge))
            have HAc121 := Lib.hid ((HAc120.out.step hb121).chg hch121 (HSN.out pc102 HAc120.out.ge))
            clear hK K hbk121 hch121 hb121 hi3_121
            have HS := Lib.hid (show St3 w14 wu121 (fun k => (k = g ∨ ho5.val.ownBlock = some k) ∨ k = B 2) pa114 pb120 pc102 default default default (B 1) (B 2) (signB X6.book (keyC N (ofL N default ys2) mq)) from ⟨HAa121.out, HAb121.out, HAc121.out, HT121.out.sub (fun k e => .inl e), HK121.out, HDab120.out, (fun e => HDca114.out e.symm), (fun e => HDcb120.out e.symm), HLB2.out.1, HLB2.out.2⟩)
            refine wpH_force 8 _ rfl (by kernel_rfl) rfl fun ws hs K hK => ?_
            have hq := HS.out.step hs
            have kq := hq.a.k
            have fq := hq.a.f
            go_simp
            refine hK _ _ (fun h => absurd (by simp) h) (fun _ => hq.chA _) ?_
            replace HS := Lib.hid (hq.putA (msgC cm 2))
            generalize World.putCells ws ⟨pa114, 0, none⟩ (GMsg.enc (msgC cm 2)) = wp122 at HS ⊢
            clear hK K kq fq hq hs
            refine wpH_force 9 _ rfl (by kernel_rfl) rfl fun ws hs K hK => ?_
            have hq := HS.out.step hs
            have kq := hq.b.k
            have fq := hq.b.f
            go_simp
            refine hK _ _ (fun h => absurd (by simp) h) (fun _ => hq.chB _) ?_
            replace HS := Lib.hid (hq.putB (msgC c2 2))
            generalize World.putCells ws ⟨pb120, 0, none⟩ (GMsg.enc (msgC c2 2)) = wp123 at HS ⊢
            clear hK K kq fq hq hs
            refine wpH_force 10 _ rfl (by kernel_rfl) rfl fun ws hs K hK => ?_
            have hq := HS.out.step hs
            have kq := hq.c.k
            have fq := hq.c.f
            go_simp
            refine hK _ _ (fun h => absurd (by simp) h) (fun _ => hq.chC _) ?_
            replace HS := Lib.hid (hq.putC (msgC cm 2))
            generalize World.putCells ws ⟨pc102, 0, none⟩ (GMsg.enc (msgC cm 2)) = wp124 at HS ⊢
            clear hK K kq fq hq hs
            refine wpH_end (by kernel_rfl) (fun wn hwn => ?_) _
            have HF := Lib.hid (HS.out.step hwn)
            clear hwn HS
            go_wp2_with fail
            go_meet
            exact ⟨_, _, _, rfl, rfl, rfl, HF⟩
        · refine ⟨_, rfl, rfl, fun wi1_125 hi1_125 K hK => ?_⟩
          go_simp
          have hb125 : Bel wv102 wi1_125 := hi1_125
          refine hK _ _ (fun _ => GB.al _ _) (fun _ => Chg.of_bel (GB.al _ _) _) ?_
          have hn125 := AlM.new (w0 := w14) (w := wi1_125) (Nat.le_trans (Below.size HBl102.out) (Below.size hb125))
          have hx125 : Bel wv102 (wi1_125.alloc (.cells (GMsg.enc default).toArray 70)) := (Bel.trans hb125 ((Bel.refl wi1_125).alloc _))
          have hl125 : wv102.heap.size ≤ wi1_125.heap.size := Below.size hb125
          obtain ⟨pb125, hp125⟩ : ∃ p, wi1_125.heap.size = p := ⟨_, rfl⟩
          rw [hp125] at hn125 hl125 ⊢
          change wpH _ _ _ _ _ _ _ _ _ _ _ (wi1_125.alloc (.cells (GMsg.enc default).toArray 70))
          generalize wi1_125.alloc (.cells (GMsg.enc default).toArray 70) = wv125 at hn125 hx125 ⊢
          have HBl125 := Lib.hid (HBl102.out.trans hx125)
          have HAb125 := Lib.hid hn125
          have HAc125 := Lib.hid (HAc102.out.step hx125); have HDcb125 := Lib.hid (show ¬ pc102 = pb125 from fun e => by have := HAc102.out.lt; omega)
          clear hK K hb125 hn125 hx125 hl125 hp125 hi1_125
          refine wpH_list [3, 5] (by simp) (by kernel_rfl) ?_
          intro t ht
          simp only [List.mem_cons, List.not_mem_nil, or_false] at ht
          rcases ht with rfl | rfl
          · refine ⟨_, rfl, rfl, fun wi2_126 hi2_126 K hK => ?_⟩
            go_simp
            have hb126 : Bel wv125 wi2_126 := hi2_126
            refine (HCALL.out wi2_126 (HBl125.out.trans hb126)).mono ?_
            rintro _ wu126 ⟨ho6, L6, rfl, -, -, hbk126, hch126, -⟩
            rw [HC2.out]
            refine hK _ _ (fun h => absurd (by simp) h) (fun _ => hch126.sub (fun k e => .inl e)) ?_
            have HT126 := Lib.hid ((Chg.of_bel (HBl125.out.trans hb126) (fun k => (k = g ∨ ho5.val.ownBlock = some k) ∨ k = B 2)).tr hch126)
            have HK126 := Lib.hid hbk126
            have HAb126 := Lib.hid ((HAb125.out.step hb126).chg hch126 (HSN.out pb125 HAb125.out.ge))
            have HAc126 := Lib.hid ((HAc125.out.step hb126).chg hch126 (HSN.out pc102 HAc125.out.ge))
            clear hK K hbk126 hch126 hb126 hi2_126
            refine wpH_force 5 _ rfl (by kernel_rfl) rfl fun wi3_127 hi3_127 K hK => ?_
            go_simp
            have hb127 : Bel wu126 wi3_127 := hi3_127
            refine hK _ _ (fun _ => GB.al _ _) (fun _ => Chg.of_bel (GB.al _ _) _) ?_
            have hn127 := AlM.new (w0 := w14) (w := wi3_127) (Nat.le_trans HT126.out.size (Below.size hb127))
            have hx127 : Bel wu126 (wi3_127.alloc (.cells (GMsg.enc default).toArray 70)) := (Bel.trans hb127 ((Bel.refl wi3_127).alloc _))
            have hl127 : wu126.heap.size ≤ wi3_127.heap.size := Below.size hb127
            obtain ⟨pa127, hp127⟩ : ∃ p, wi3_127.heap.size = p := ⟨_, rfl⟩
            rw [hp127] at hn127 hl127 ⊢
            change wpH _ _ _ _ _ _ _ _ _ _ _ (wi3_127.alloc (.cells (GMsg.enc default).toArray 70))
            generalize wi3_127.alloc (.cells (GMsg.enc default).toArray 70) = wv127 at hn127 hx127 ⊢
            have HT127 := Lib.hid (HT126.out.tr (Chg.of_bel hx127 _)); have HK127 := Lib.hid (HK126.out.step hx127)
            have HAa127 := Lib.hid hn127
            have HAb127 := Lib.hid (HAb126.out.step hx127); have HDba127 := Lib.hid (show ¬ pb125 = pa127 from fun e => by have := HAb126.out.lt; omega)
            have HAc127 := Lib.hid (HAc126.out.step hx127); have HDca127 := Lib.hid (show ¬ pc102 = pa127 from fun e => by have := HAc126.out.lt; omega)
            clear hK K hb127 hn127 hx127 hl127 hp127 hi3_127
            have HS := Lib.hid (show St3 w14 wv127 (fun k => (k = g ∨ ho5.val.ownBlock = some k) ∨ k = B 2) pa127 pb125 pc102 default default default (B 1) (B 2) (signB X6.book (keyC N (ofL N default ys2) mq)) from ⟨HAa127.out, HAb127.out, HAc127.out, HT127.out.sub (fun k e => .inl e), HK127.out, (fun e => HDba127.out e.symm), (fun e => HDca127.out e.symm), (fun e => HDcb125.out e.symm), HLB2.out.1, HLB2.out.2⟩)
            refine wpH_force 8 _ rfl (by kernel_rfl) rfl fun ws hs K hK => ?_
            have hq := HS.out.step hs
            have kq := hq.a.k
            have fq := hq.a.f
            go_simp
            refine hK _ _ (fun h => absurd (by simp) h) (fun _ => hq.chA _) ?_
            replace HS := Lib.hid (hq.putA (msgC cm 2))
            generalize World.putCells ws ⟨pa127, 0, none⟩ (GMsg.enc (msgC cm 2)) = wp128 at HS ⊢
            clear hK K kq fq hq hs
            refine wpH_force 9 _ rfl (by kernel_rfl) rfl fun ws hs K hK => ?_
            have hq := HS.out.step hs
            have kq := hq.b.k
            have fq := hq.b.f
            go_simp
            refine hK _ _ (fun h => absurd (by simp) h) (fun _ => hq.chB _) ?_
            replace HS := Lib.hid (hq.putB (msgC c2 2))
            generalize World.putCells ws ⟨pb125, 0, none⟩ (GMsg.enc (msgC c2 2)) = wp129 at HS ⊢
            clear hK K kq fq hq hs
            refine wpH_force 10 _ rfl (by kernel_rfl) rfl fun ws hs K hK => ?_
            have hq := HS.out.step hs
            have kq := hq.c.k
            have fq := hq.c.f
            go_simp
            refine hK _ _ (fun h => absurd (by simp) h) (fun _ => hq.chC _) ?_
            replace HS := Lib.hid (hq.putC (msgC cm 2))
            generalize World.putCells ws ⟨pc102, 0, none⟩ (GMsg.enc (msgC cm 2)) = wp130 at HS ⊢
            clear hK K kq fq hq hs
            refine wpH_end (by kernel_rfl) (fun wn hwn => ?_) _
            have HF := Lib.hid (HS.out.step hwn)
            clear hwn HS
            go_wp2_with fail
            go_meet
            exact ⟨_, _, _, rfl, rfl, rfl, HF⟩
          · refine ⟨_, rfl, rfl, fun wi2_131 hi2_131 K hK => ?_⟩
            go_simp
            have hb131 : Bel wv125 wi2_131 := hi2_131
            refine hK _ _ (fun _ => GB.al _ _) (fun _ => Chg.of_bel (GB.al _ _) _) ?_
            have hn131 := AlM.new (w0 := w14) (w := wi2_131) (Nat.le_trans (Below.size HBl125.out) (Below.size hb131))
            have hx131 : Bel wv125 (wi2_131.alloc (.cells (GMsg.enc default).toArray 70)) := (Bel.trans hb131 ((Bel.refl wi2_131).alloc _))
            have hl131 : wv125.heap.size ≤ wi2_131.heap.size := Below.size hb131
            obtain ⟨pa131, hp131⟩ : ∃ p, wi2_131.heap.size = p := ⟨_, rfl⟩
            rw [hp131] at hn131 hl131 ⊢
            change wpH _ _ _ _ _ _ _ _ _ _ _ (wi2_131.alloc (.cells (GMsg.enc default).toArray 70))
            generalize wi2_131.alloc (.cells (GMsg.enc default).toArray 70) = wv131 at hn131 hx131 ⊢
            have HBl131 := Lib.hid (HBl125.out.trans hx131)
            have HAa131 := Lib.hid hn131
            have HAb131 := Lib.hid (HAb125.out.step hx131); have HDba131 := Lib.hid (show ¬ pb125 = pa131 from fun e => by have := HAb125.out.lt; omega)
            have HAc131 := Lib.hid (HAc125.out.step hx131); have HDca131 := Lib.hid (show ¬ pc102 = pa131 from fun e => by have := HAc125.out.lt; omega)
            clear hK K hb131 hn131 hx131 hl131 hp131 hi2_131
            refine wpH_force 3 _ rfl (by kernel_rfl) rfl fun wi3_132 hi3_132 K hK => ?_
            go_simp
            have hb132 : Bel wv131 wi3_132 := hi3_132
            refine (HCALL.out wi3_132 (HBl131.out.trans hb132)).mono ?_
            rintro _ wu132 ⟨ho6, L6, rfl, -, -, hbk132, hch132, -⟩
            rw [HC2.out]
            refine hK _ _ (fun h => absurd (by simp) h) (fun _ => hch132.sub (fun k e => .inl e)) ?_
            have HT132 := Lib.hid ((Chg.of_bel (HBl131.out.trans hb132) (fun k => (k = g ∨ ho5.val.ownBlock = some k) ∨ k = B 2)).tr hch132)
            have HK132 := Lib.hid hbk132
            have HAa132 := Lib.hid ((HAa131.out.step hb132).chg hch132 (HSN.out pa131 HAa131.out.ge))
            have HAb132 := Lib.hid ((HAb131.out.step hb132).chg hch132 (HSN.out pb125 HAb131.out.ge))
            have HAc132 := Lib.hid ((HAc131.out.step hb132).chg hch132 (HSN.out pc102 HAc131.out.ge))
            clear hK K hbk132 hch132 hb132 hi3_132
            have HS := Lib.hid (show St3 w14 wu132 (fun k => (k = g ∨ ho5.val.ownBlock = some k) ∨ k = B 2) pa131 pb125 pc102 default default default (B 1) (B 2) (signB X6.book (keyC N (ofL N default ys2) mq)) from ⟨HAa132.out, HAb132.out, HAc132.out, HT132.out.sub (fun k e => .inl e), HK132.out, (fun e => HDba131.out e.symm), (fun e => HDca131.out e.symm), (fun e => HDcb125.out e.symm), HLB2.out.1, HLB2.out.2⟩)
            refine wpH_force 8 _ rfl (by kernel_rfl) rfl fun ws hs K hK => ?_
            have hq := HS.out.step hs
            have kq := hq.a.k
            have fq := hq.a.f
            go_simp
            refine hK _ _ (fun h => absurd (by simp) h) (fun _ => hq.chA _) ?_
            replace HS := Lib.hid (hq.putA (msgC cm 2))
            generalize World.putCells ws ⟨pa131, 0, none⟩ (GMsg.enc (msgC cm 2)) = wp133 at HS ⊢
            clear hK K kq fq hq hs
            refine wpH_force 9 _ rfl (by kernel_rfl) rfl fun ws hs K hK => ?_
            have hq := HS.out.step hs
            have kq := hq.b.k
            have fq := hq.b.f
            go_simp
            refine hK _ _ (fun h => absurd (by simp) h) (fun _ => hq.chB _) ?_
            replace HS := Lib.hid (hq.putB (msgC c2 2))
            generalize World.putCells ws ⟨pb125, 0, none⟩ (GMsg.enc (msgC c2 2)) = wp134 at HS ⊢
            clear hK K kq fq hq hs
            refine wpH_force 10 _ rfl (by kernel_rfl) rfl fun ws hs K hK => ?_
            have hq := HS.out.step hs
            have kq := hq.c.k
            have fq := hq.c.f
            go_simp
            refine hK _ _ (fun h => absurd (by simp) h) (fun _ => hq.chC _) ?_
            replace HS := Lib.hid (hq.putC (msgC cm 2))
            generalize World.putCells ws ⟨pc102, 0, none⟩ (GMsg.enc (msgC cm 2)) = wp135 at HS ⊢
            clear hK K kq fq hq hs
            refine wpH_end (by kernel_rfl) (fun wn hwn => ?_) _
            have HF := Lib.hid (HS.out.step hwn)
            clear hwn HS
            go_wp2_with fail
            go_meet
            exact ⟨_, _, _, rfl, rfl, rfl, HF⟩
    case rest =>
      obtain ⟨pa, pb, pc, rfl, rfl, rfl, hcf⟩ := hcut
      rename World => wx
      have HA := Lib.hid hcf.out.a; have HBm := Lib.hid hcf.out.b; have HCm := Lib.hid hcf.out.c; have HTX := Lib.hid hcf.out.ch; have HKX2 := Lib.hid hcf.out.k; have HNP := Lib.hid (And.intro hcf.out.n1 (And.intro hcf.out.n2 hcf.out.n3))
      clear hcf
      have HLT2 := Lib.hid (show p15 < w14.heap.size ∧ p4 < w14.heap.size from ⟨get?_lt X1514.out, get?_lt K414.out⟩)
      have HN4 := Lib.hid (show ¬ (((p4 = g ∨ ho5.val.ownBlock = some p4) ∨ p4 = B 2) ∨ w14.heap.size ≤ p4) from fun e => by
        have h := HLT2.out.2
        rcases e with ((e | e) | e) | e
        · exact (HS5.out p4 (.inl e)).2.1 rfl
        · exact (HS5.out p4 (.inr e)).2.1 rfl
        · exact HKX.out p4 (.inl (.inl rfl)) 2 (by omega) e
        · omega)
      have hm39 := GSig.at_mark (GCommit.at_sig (GMsg.at_commit HA.out.k))
      simp only [Addr.add_lit, Nat.zero_add] at hm39
      have hmk : cm.sig.mark = 1 := by rw [← HCM.out]; exact mark_nil _ _ _
      change wx.cell? ⟨pa, 39, none⟩ = some (.int .i64 cm.sig.mark) at hm39
      rw [hmk] at hm39
      have hf39 := frozen_of_free (a := ⟨pa, 39, none⟩) HA.out.f
      go_upto_region 18 with fail
      have hc17 : Chg (fun k => k = pa) wx (wx.setCell ⟨pa, 39, none⟩ (.int .i64 6)) := chg_cell (S := fun k => k = pa) rfl _
      have KA := Lib.hid (get?_poke HA.out.k (msg_mark cm 6))
      have HN4a := Lib.hid (show ¬ p4 = pa ∧ ¬ p4 = pc ∧ ¬ p15 = pa ∧ ¬ p15 = pc from by
        have h := HLT2.out; have h1 := HA.out.ge; have h2 := HCm.out.ge
        exact ⟨by omega, by omega, by omega, by omega⟩)
      have K4x := Lib.hid (hc17.get (HTX.out.get K414.out HN4.out) HN4a.out.1)
      have K15x := Lib.hid (hc17.get (HTX.out.get X1514.out HN15.out) HN4a.out.2.2.1)
      have HC17 := Lib.hid (HCm.out.chg hc17 (fun e => HNP.out.2.1 e.symm))
      have HB17 := Lib.hid (HBm.out.chg hc17 (fun e => HNP.out.1 e.symm))
      have HT17 := Lib.hid (HTX.out.tr (hc17.sub (fun k e => .inr (by rw [e]; exact HA.out.ge))))
      have HK17 := Lib.hid (HKX2.out.chg hc17 (HLB1.out.1 pa HA.out.ge) (HLB1.out.2 pa HA.out.ge))
      generalize wx.setCell ⟨pa, 39, none⟩ (.int .i64 6) = w17 at hc17 KA K4x K15x HC17 HB17 HT17 HK17 ⊢
      clear hc17 hm39 hf39
      have t0 := GName.at_client K4x.out
      have t1 := GMsg.at_from_ HC17.out.k
      simp only [Addr.add_lit, Nat.zero_add, Nat.add_zero] at t0 t1
      rw [HNE.out.1] at t0
      have hfz := frozen_of_free (a := ⟨pc, 1, none⟩) HC17.out.f
      have e1 : IntKind.i64.wrap ((nc : Int) + 1) = (nc : Int) + 1 := IntWalk.i64_in _ (by omega)
      obtain ⟨fr, hfr⟩ : ∃ fr, 1000 + ((nc : Int) + 1) % 3 = fr := ⟨_, rfl⟩
      have e2 : IntKind.i64.wrap (1000 + ((nc : Int) + 1) % 3) = fr := by rw [IntWalk.i64_in _ (by omega)]; exact hfr
      go_upto_region 19 with fail
      have hc18 : Chg (fun k => k = pc) w17 (w17.setCell ⟨pc, 1, none⟩ (.int .i64 fr)) := chg_cell (S := fun k => k = pc) rfl _
      have KC8 := Lib.hid (get?_poke HC17.out.k (msg_from (msgC cm 2) fr))
      have KA8 := Lib.hid (hc18.get KA.out HNP.out.2.1)
      have KB8 := Lib.hid (hc18.get HB17.out.k HNP.out.2.2)
      have K158 := Lib.hid (hc18.get K15x.out HN4a.out.2.2.2)
      have K48 := Lib.hid (hc18.get K4x.out HN4a.out.2.1)
      have HT18 := Lib.hid (HT17.out.tr (hc18.sub (fun k e => .inr (by rw [e]; exact HC17.out.ge))))
      have HK18 := Lib.hid (HK17.out.chg hc18 (HLB1.out.1 pc HC17.out.ge) (HLB1.out.2 pc HC17.out.ge))
      generalize w17.setCell ⟨pc, 1, none⟩ (.int .i64 fr) = w18 at hc18 KC8 KA8 KB8 K158 K48 HT18 HK18 ⊢
      clear hc18 t0 t1 hfz e1 e2 KA K4x K15x HC17 HB17 HT17 HK17
      have x15 := K158.out
      have k21 := get?_new (w := w18) 70 (default : GMsg)
      have f21 : blkFree (w18.alloc (.cells (GMsg.enc default).toArray 70)) w18.heap.size = true := blkFree_new _ _ rfl
      change get? GMsg (w18.alloc (.cells (GMsg.enc default).toArray 70)) _ = _ at k21
      have k22 : get? GMsg (w18.alloc (.cells (GMsg.enc (msgC cm 2)).toArray 70)) ⟨w18.heap.size, 0, none⟩ = some (msgC cm 2) := get?_new (w := w18) 70 (msgC cm 2)
      have f22 : blkFree (w18.alloc (.cells (GMsg.enc (msgC cm 2)).toArray 70)) w18.heap.size = true := blkFree_new _ _ rfl
      have fz22 := frozen_of_free (a := ⟨w18.heap.size, 2, none⟩) f22
      go_upto_region 21 with fail
      clear k21 f21 k22 f22 fz22 x15
      have ee : (GMsg.enc (msgC cm 2)).set 2 (.int .i64 1) = GMsg.enc { msgC cm 2 with «to» := 1 } := rfl
      rw [ee]
      clear ee
      have hk21 : get? GMsg (w18.alloc (.cells (GMsg.enc { msgC cm 2 with «to» := 1 }).toArray 70)) ⟨w18.heap.size, 0, none⟩ = some { msgC cm 2 with «to» := 1 } := get?_new (w := w18) 70 ({ msgC cm 2 with «to» := 1 } : GMsg)
      have hb20 : Bel w18 (w18.alloc (.cells (GMsg.enc { msgC cm 2 with «to» := 1 }).toArray 70)) := (Bel.refl w18).alloc _
      obtain ⟨pd, hpd⟩ : ∃ pd, w18.heap.size = pd := ⟨_, rfl⟩
      have HPD := Lib.hid (show pa < pd by have h1 : pa < w18.heap.size := get?_lt KA8.out; omega)
      rw [hpd] at hk21 ⊢
      generalize w18.alloc (.cells (GMsg.enc { msgC cm 2 with «to» := 1 }).toArray 70) = w20 at hk21 hb20 ⊢
      have hc20 : Chg (fun k => ((k = g ∨ ho5.val.ownBlock = some k) ∨ w14.heap.size ≤ k) ∨ k = B 2) w13 w20 := ((Chg.of_bel HB14.out _).tr (HT18.out.sub (fun k e => by rcases e with (e | e) | e; exact .inl (.inl e); exact .inr e; exact .inl (.inr e)))).tr (Chg.of_bel hb20 _)
      have hbk20 := HK18.out.step hb20
      have hr20 := HR13.out.lawBook (S := fun k => (k = g ∨ ho5.val.ownBlock = some k) ∨ w14.heap.size ≤ k) (by rw [← HX6E.out]; exact HC5.out.pv) hc20 hbk20 (by
        have h1 := HS1.out; have h2 := Below.size HB14.out; have h3 := Below.size HR13.out.bel; have h9 := HC9.out.size
        rintro k ((e | e) | e)
        · omega
        · have := (HOO5.out k e).1; omega
        · omega) (by
        have h2 := Below.size HB14.out
        rintro k (e | e)
        · obtain ⟨o, e2⟩ := (HKE13.out k (HS5.out k e).1).some
          left; rw [e2]; rfl
        · right; omega)
      obtain ⟨X7, hX7⟩ : ∃ X7 : RSt, ({ X6 with book := signB X6.book (keyC N (ofL N default ys2) mq), kept := keepNew X6.kept w13 w20 } : RSt) = X7 := ⟨_, rfl⟩
      rw [hX7] at hr20
      have hcalm7 : CalmS X7 (tk + 3) := by
        have hc := HC5.out
        have hb3 : X3.book.length ≤ 1 := by rw [← HX3E.out]; exact sign_len [] _
        have hb4 : X4.book.length ≤ 2 := by rw [← HX4E.out]; exact Nat.le_trans (sign_len X3.book (keyS X3.id cm tk)) (by omega)
        have hb5 : X5.book.length ≤ 2 := by rw [← HX5E.out]; exact hb4
        rw [← hX7, ← HX6E.out]
        exact ⟨hc.st, rfl, rfl, hc.c, hc.id, hc.now, hc.n0, hc.n1, (show (signB X5.book (keyC N (ofL N default ys2) mq)).length ≤ 1000 from Nat.le_trans (sign_len _ _) (by omega)), hc.pv, hc.fl, hc.tm⟩
      have hrt7 : rightB X7.book ⟨cm.sig.by_, strB (commitText cm)⟩ cm.sig.mark = true := by
        rw [← hX7, ← HX6E.out]
        exact rightB_keep HRT5.out
      have hst7 : mget X7.stamps cm.name = some Y1 := by rw [← hX7, ← HX6E.out]; exact HST5.out
      have hrt8 : rightB X7.book ⟨c2.sig.by_, strB (commitText c2)⟩ c2.sig.mark = true := by
        rw [← hX7, ← HC2.out]
        exact rightB_sign X6.book (keyC N (ofL N default ys2) mq) (by
          rw [← HX6E.out, ← HX5E.out, ← HX4E.out, ← HX3E.out]
          exact sign_pos _ _ (sign_pos _ _ (fun k => by rw [mget_nil]; decide)))
      have HC7' := Lib.hid hcalm7; have HRT7 := Lib.hid hrt7; have HST7 := Lib.hid hst7; have HRT8 := Lib.hid hrt8; have HR20 := Lib.hid hr20; have HX7E := Lib.hid hX7
      have KD := Lib.hid hk21
      have KA20 := Lib.hid (GB.get hb20 KA8.out); have KB20 := Lib.hid (GB.get hb20 KB8.out); have KC20 := Lib.hid (GB.get hb20 KC8.out); have K1520 := Lib.hid (GB.get hb20 K158.out); have K420 := Lib.hid (GB.get hb20 K48.out)
      have HC20 := Lib.hid hc20
      clear hcalm7 hrt7 hst7 hrt8 hr20 hX7 hk21 hb20 hc20 hbk20 KA8 KB8 KC8 K158 K48 HT18 HK18
      have x18 := KA20.out
      go_wp2_with fail
      have HMK := Lib.hid hmk
      have HKN7 := Lib.hid (show ∀ k, ((X6.kept k).isSome = true ∨ w13.heap.size ≤ k) → k < w20.heap.size → ¬ k = B 0 from fun k hk hlt => by
        have e : X7.kept k = w20.heap[k]? := by rw [← HX7E.out]; exact keepNew_at hk
        rw [Array.getElem?_eq_getElem hlt] at e
        exact HR20.out.kne e 0 (by omega))
      have hks : ∀ k, Has X6 w13 k → (X6.kept k).isSome = true := fun k h => by obtain ⟨o, e⟩ := h.some; rw [e]; rfl
      have hlt13 : w13.heap.size ≤ w14.heap.size := Below.size HB14.out
      have NA := Lib.hid (show ¬ pa = B 0 from HKN7.out pa (.inr (by have := HA.out.ge; omega)) (get?_lt KA20.out))
      have NB := Lib.hid (show ¬ pb = B 0 from HKN7.out pb (.inr (by have := HBm.out.ge; omega)) (get?_lt KB20.out))
      have NC := Lib.hid (show ¬ pc = B 0 from HKN7.out pc (.inr (by have := HCm.out.ge; omega)) (get?_lt KC20.out))
      have ND := Lib.hid (show ¬ pd = B 0 from HKN7.out pd (.inr (by have h1 := HTX.out.size; have h2 : pa < pd := HPD.out; have := HA.out.ge; omega)) (get?_lt KD.out))
      have N15 := Lib.hid (show ¬ p15 = B 0 from HKN7.out p15 (.inl (hks p15 (HKE13.out p15 HR15.out))) (get?_lt K1520.out))
      have N4 := Lib.hid (show ¬ p4 = B 0 from HKN7.out p4 (.inl (hks p4 (HKE13.out p4 (.inl (.inl rfl))))) (get?_lt K420.out))
      have hb1s : ¬ (((b1 = g ∨ ho5.val.ownBlock = some b1) ∨ w14.heap.size ≤ b1) ∨ b1 = B 2) := fun e => by
        have h1 : b1 < w13.heap.size := get?_lt G13.out
        rcases e with ((e | e) | e) | e
        · exact HNB1.out g (.inl rfl) e
        · exact HNB1.out b1 (.inr e) rfl
        · omega
        · obtain ⟨o, e2⟩ := HHB13.out.some
          exact HR13.out.kne e2 2 (by omega) e
      have G20 := Lib.hid (HC20.out.get G13.out hb1s)
      have N1 := Lib.hid (show ¬ b1 = B 0 from HKN7.out b1 (.inl (hks b1 HHB13.out)) (get?_lt G20.out))
      clear hks hlt13 hb1s
      refine (doBadS_any w B X7 (tk + 3) { cm with sig := ⟨cm.sig.by_, 6⟩ } w20 HR20.out HC7'.out (by rw [HC7'.out.c]; exact ⟨HOK.out.c0, HOK.out.c1, HOK.out.c2, HOK.out.s0, HOK.out.s1, HOK.out.l0, HOK.out.l1⟩) HCS.out (by
        have := rightB_off HRT7.out
        rw [HMK.out] at this
        exact this)).mono ?_
      rintro _ w21 ⟨rfl, hr, hc⟩
      have HR21 := Lib.hid hr
      have KB21 := Lib.hid (hc.get KB20.out NB.out); have KC21 := Lib.hid (hc.get KC20.out NC.out); have KD21 := Lib.hid (hc.get KD.out ND.out); have K1521 := Lib.hid (hc.get K1520.out N15.out); have K421 := Lib.hid (hc.get K420.out N4.out); have G21 := Lib.hid (hc.get G20.out N1.out)
      clear hr hc x18 KA20 KB20 KC20 KD K1520 K420
      have x20 := KC21.out
      go_wp2_with fail
      refine (doFarS_any w B X7 (tk + 3) cm fr w21 HR21.out HC7'.out (by rw [HCN.out, HNE.out.1, ← hfr]; omega) HOK.out.c0 HOK.out.c2).mono ?_
      rintro _ w22 ⟨rfl, hr, hc⟩
      have HR22 := Lib.hid hr
      have KB22 := Lib.hid (hc.get KB21.out NB.out); have KD22 := Lib.hid (hc.get KD21.out ND.out); have K1522 := Lib.hid (hc.get K1521.out N15.out); have K422 := Lib.hid (hc.get K421.out N4.out); have G22 := Lib.hid (hc.get G21.out N1.out)
      clear hr hc x20 KB21 KC21 KD21 K1521 K421 G21
      have x21 := KD22.out
      go_wp2_with fail
      refine (doLost_any w B X7 { msgC cm 2 with «to» := 1 } 0 w22 HR22.out HC7'.out.st HC7'.out.ho HC7'.out.out rfl (by rw [HC7'.out.id]; rfl)).mono ?_
      rintro _ w23 ⟨rfl, hr, hc⟩
      have HR23 := Lib.hid hr
      have KB23 := Lib.hid (hc.get KB22.out NB.out); have K1523 := Lib.hid (hc.get K1522.out N15.out); have K423 := Lib.hid (hc.get K422.out N4.out); have G23 := Lib.hid (hc.get G22.out N1.out)
      clear hr hc x21 KB22 KD22 K1522 K422 G22
      have h5 := GCommit.at_hash (GMsg.at_commit KB23.out)
      have h6 := GCommit.at_hash (GMsg.at_commit K1523.out)
      simp only [Addr.add_lit, Nat.zero_add] at h5 h6
      change get? GHash w23 ⟨pb, 5, none⟩ = some c2.hash at h5
      change get? GHash w23 ⟨p15, 5, none⟩ = some cm.hash at h6
      have x19 := KB23.out
      have HTIME := Lib.hid (show Y1.time = (tk : Int) by rw [← HY1E.out]; rfl)
      by_cases hh : c2.hash = cm.hash
      · rw [hh] at h5
        go_upto_region 25 with fail
        clear h5 h6 x19
        have x4 := K423.out
        go_wp2_with fail
        refine (repStamped_any w B X7 N Y1 w23 HR23.out (by have := HST7.out; rw [HCN.out] at this; exact this)).mono ?_
        rintro _ w25 ⟨rfl, hb25⟩
        rw [HYH.out, HTIME.out]
        have HR25 := Lib.hid (HR23.out.step hb25)
        have K1525 := Lib.hid (GB.get hb25 K1523.out); have G25 := Lib.hid (GB.get hb25 G23.out)
        clear hb25 x4
        have k22 := get?_new (w := w25) 35 (default : GHash)
        have f22 : blkFree (w25.alloc (.cells (GHash.enc default).toArray 35)) w25.heap.size = true := blkFree_new _ _ rfl
        change get? GHash (w25.alloc (.cells (GHash.enc default).toArray 35)) _ = _ at k22
        go_upto_region 26 with fail
        have k23 := get?_putV cm.hash k22
        have hb26 : Bel w25 (World.putCells (w25.alloc (.cells (GHash.enc default).toArray 35)) ⟨w25.heap.size, 0, none⟩ (GHash.enc cm.hash)) := Chg.bel2 ((Bel.refl w25).alloc _) (chg_put (S := fun k => k = w25.heap.size) rfl _) (fun k e => by have e : k = w25.heap.size := e; omega)
        change get? GHash (World.putCells (w25.alloc (.cells (GHash.enc default).toArray 35)) ⟨w25.heap.size, 0, none⟩ (GHash.enc cm.hash)) _ = _ at k23
        generalize World.putCells (w25.alloc (.cells (GHash.enc default).toArray 35)) ⟨w25.heap.size, 0, none⟩ (GHash.enc cm.hash) = w26 at k23 hb26 ⊢
        have h6 := GCommit.at_hash (GMsg.at_commit (GB.get hb26 K1525.out))
        have t6 := GStamp.at_time (GMsg.at_stamp (GB.get hb26 G25.out))
        simp only [Addr.add_lit, Nat.zero_add] at h6 t6
        change get? GHash w26 ⟨p15, 5, none⟩ = some cm.hash at h6
        change w26.cell? ⟨b1, _, none⟩ = some (.int .u64 Y1.time) at t6
        rw [HTIME.out] at t6
        have HR26 := Lib.hid (HR25.out.step hb26)
        have j1 : (1 : Int) ≤ (tk : Int) := by have := HTK.out; omega
        have j2 : 1 ≤ tk := HTK.out.1
        clear hb26 k22 f22
        go_wp2_with fail
        refine (wakes_any w26).mono ?_
        rintro _ w27 ⟨rfl, hb27⟩
        have HB27 := Lib.hid (HR26.out.bel.trans hb27)
        clear hb27
        go_wp2_with fail
        go_ret
        exact ⟨rfl, HB27.out⟩
      · go_wp2_with fail
        have hc2n : c2.name = N := by rw [← HC2.out]; rfl
        have hc2l : c2.len = mq := by rw [← HC2.out]; rfl
        refine (doOtherS_any w B X7 (tk + 3) c2 Y1 w23 HR23.out HC7'.out (by
          rw [HC7'.out.c]
          refine ⟨by rw [hc2n, ← HCN.out]; exact HOK.out.c0, by rw [hc2n, ← HCN.out]; exact HOK.out.c1, by rw [hc2n, ← HCN.out]; exact HOK.out.c2, by rw [hc2n, ← HCN.out]; exact HOK.out.s0, by rw [hc2n, ← HCN.out]; exact HOK.out.s1, by rw [hc2l]; omega, by rw [hc2l]; have := HMQ.out; omega⟩) (by rw [← HC2.out]; rfl) HRT8.out (by rw [hc2n, ← HCN.out]; exact HST7.out) (by rw [HYH.out]; exact fun e => hh e.symm)).mono ?_
        rintro _ w24 ⟨rfl, hr, hc⟩
        have HR24 := Lib.hid hr
        have K1524 := Lib.hid (hc.get K1523.out N15.out); have K424 := Lib.hid (hc.get K423.out N4.out); have G24 := Lib.hid (hc.get G23.out N1.out)
        clear hr hc h5 h6 x19 hc2n hc2l K1523 K423 G23 KB23
        go_upto_region 25 with fail
        have x4 := K424.out
        go_wp2_with fail
        refine (repStamped_any w B X7 N Y1 w24 HR24.out (by have := HST7.out; rw [HCN.out] at this; exact this)).mono ?_
        rintro _ w25 ⟨rfl, hb25⟩
        rw [HYH.out, HTIME.out]
        have HR25 := Lib.hid (HR24.out.step hb25)
        have K1525 := Lib.hid (GB.get hb25 K1524.out); have G25 := Lib.hid (GB.get hb25 G24.out)
        clear hb25 x4
        have k22 := get?_new (w := w25) 35 (default : GHash)
        have f22 : blkFree (w25.alloc (.cells (GHash.enc default).toArray 35)) w25.heap.size = true := blkFree_new _ _ rfl
        change get? GHash (w25.alloc (.cells (GHash.enc default).toArray 35)) _ = _ at k22
        go_upto_region 26 with fail
        have k23 := get?_putV cm.hash k22
        have hb26 : Bel w25 (World.putCells (w25.alloc (.cells (GHash.enc default).toArray 35)) ⟨w25.heap.size, 0, none⟩ (GHash.enc cm.hash)) := Chg.bel2 ((Bel.refl w25).alloc _) (chg_put (S := fun k => k = w25.heap.size) rfl _) (fun k e => by have e : k = w25.heap.size := e; omega)
        change get? GHash (World.putCells (w25.alloc (.cells (GHash.enc default).toArray 35)) ⟨w25.heap.size, 0, none⟩ (GHash.enc cm.hash)) _ = _ at k23
        generalize World.putCells (w25.alloc (.cells (GHash.enc default).toArray 35)) ⟨w25.heap.size, 0, none⟩ (GHash.enc cm.hash) = w26 at k23 hb26 ⊢
        have h6 := GCommit.at_hash (GMsg.at_commit (GB.get hb26 K1525.out))
        have t6 := GStamp.at_time (GMsg.at_stamp (GB.get hb26 G25.out))
        simp only [Addr.add_lit, Nat.zero_add] at h6 t6
        change get? GHash w26 ⟨p15, 5, none⟩ = some cm.hash at h6
        change w26.cell? ⟨b1, _, none⟩ = some (.int .u64 Y1.time) at t6
        rw [HTIME.out] at t6
        have HR26 := Lib.hid (HR25.out.step hb26)
        have j1 : (1 : Int) ≤ (tk : Int) := by have := HTK.out; omega
        have j2 : 1 ≤ tk := HTK.out.1
        clear hb26 k22 f22
        go_wp2_with fail
        refine (wakes_any w26).mono ?_
        rintro _ w27 ⟨rfl, hb27⟩
        have HB27 := Lib.hid (HR26.out.bel.trans hb27)
        clear hb27
        go_wp2_with fail
        go_ret
        exact ⟨rfl, HB27.out⟩
end Go.Proofs.YtfhhcgldikmejaaGreatDoor
