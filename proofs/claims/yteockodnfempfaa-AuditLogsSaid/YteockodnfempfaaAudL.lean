/- AuditBeginnings returns true, walked. Conditions: those named in each theorem. -/
import Derived.Test.YteockodnfempfaaRw
import Derived.Test.YteockodnfempfaaRg3
import Derived.Deep.DeepCutAuto
import Derived.Deep.CutBlock
import Derived.Test.YteockodnfempfaaLwK
namespace Go.Proofs.Yteockodnfempfaa
open Go Go.RowKit Go.Gv

theorem risingB_take {xs : List GEntry} (h : risingB xs = true) (k : Nat) : risingB (xs.take k) = true := by
  rw [risingB_iff] at h ⊢
  intro j a b ha hb
  have hj := (List.getElem?_eq_some_iff.1 hb).1
  simp at hj
  rw [List.getElem?_take_of_lt (by omega)] at ha hb
  exact h j a b ha hb
theorem onceB_take {xs : List GEntry} (h : onceB xs = true) (k : Nat) : onceB (xs.take k) = true := by
  unfold onceB at h ⊢
  rw [decide_eq_true_eq] at h ⊢
  rw [List.map_take]
  exact h.sublist (List.take_sublist _ _)
theorem fairB_mem {ls ms : List (List GEntry)} {st : GName → List U64} (h : fairB ls st = true) (hm : ∀ m ∈ ms, ∃ l ∈ ls, ∃ k, m = l.take k) : fairB ms st = true := by
  rw [fairB_iff] at h ⊢
  intro m hmm i j b a hi hj hji
  obtain ⟨l, hl, k, rfl⟩ := hm m hmm
  have hi' : l[i]? = some b := by rw [List.getElem?_take] at hi; split at hi; exact hi; cases hi
  have hj' : l[j]? = some a := by rw [List.getElem?_take] at hj; split at hj; exact hj; cases hj
  exact h l hl i j b a hi' hj' hji
theorem fairB_drop {ls : List (List GEntry)} {st : GName → List U64} {l : List GEntry} (h : fairB (l :: ls) st = true) (k : Nat) : fairB [l.drop k] st = true := by
  rw [fairB_iff] at h ⊢
  intro m hm i j b a hi hj hji
  simp only [List.mem_singleton] at hm
  subst hm
  rw [List.getElem?_drop] at hi hj
  exact h l (by simp) (k + i) (k + j) b a hi hj (by omega)
theorem entryOk2 {W : World} {x : GEntry} (h : ok30 W x) : EntryOk x := ⟨⟨(FitI.i64 h.1.1).1, (FitI.i64 h.1.1).2⟩, ⟨(FitI.i64 h.1.2).1, (FitI.i64 h.1.2).2⟩, (FitI.u64 h.2.2).1, (FitI.u64 h.2.2).2⟩
theorem rising_is (r : Bool) (A : Option Addr) (n c : Nat) (xs : List GEntry) (w : World) (hr : risingB xs = r) (hx : Sl GEntry w w.heap.size A n xs) (hn : n ≤ maxLen) :
    Calls Try.prog 32 #[.slice A n c] w fun e w' => e = .returned (.bool r) ∧ Below w.heap.size w w' := by subst hr; exact rising_any A n c xs w hx hn
theorem once_is (r : Bool) (A : Option Addr) (n c : Nat) (xs : List GEntry) (w : World) (hr : onceB xs = r) (hx : Sl GEntry w w.heap.size A n xs) (hn : n ≤ maxLen) :
    Calls Try.prog 31 #[.slice A n c] w fun e w' => e = .returned (.bool r) ∧ Below w.heap.size w w' := by subst hr; exact once_any A n c xs w hx hn
theorem fair_is (r : Bool) (A : Option Addr) (n c : Nat) (ls : List (List GEntry)) (mv : Value) (sh : GName → Hdr) (st : GName → List U64) (w : World) (hr : fairB ls st = r) (hx : LogsIs w w.heap.size A n ls) (hs : StampsIs w w.heap.size mv sh st) (hn : n ≤ maxLen) :
    Calls Try.prog 27 #[.slice A n c, mv] w fun e w' => e = .returned (.bool r) ∧ Below w.heap.size w w' := by subst hr; exact fair_any A n c ls mv sh st w hx hs hn

theorem fair_call (r : Bool) (ls : List (List GEntry)) (hs : List Hdr) (n r0 : Nat) (cs : Array Value) (m : List (GName × Hdr)) (st : GName → List U64) (w : World) (hr : fairB ls st = r) (hl : Logs2 w w.heap.size hs ls) (hst : StInv w r0 none m st) (hcs : cs.toList = hs.flatMap Enc.enc) (hn : hs.length = n) (h63 : n ≤ maxLen) :
    Calls Try.prog 27 #[.slice (some ⟨w.heap.size, 0, none⟩) n n, .map (some r0)] (w.alloc (.cells cs 22)) fun e w' => e = .returned (.bool r) ∧ Bel w w' := by
  have hb : Bel w (w.alloc (.cells cs 22)) := (Bel.refl w).alloc _
  have hlg := LogsIs.new (t := 22) hl (Nat.le_refl _) hcs hn rfl
  refine (fair_is r _ n n ls _ _ st _ hr (by simpa using hlg) (hst.step hb).is h63).mono ?_
  rintro e w' ⟨h1, h2⟩
  exact ⟨h1, hb.step h2⟩

theorem _root_.Go.Gv.Sl.nil_any {α : Type} [Enc α] {w : World} {B : Nat} {A : Option Addr} : Sl α w B A 0 [] := ⟨rfl, fun h => by omega⟩
theorem _root_.Go.Gv.Sl.drop_at {α : Type} [Enc α] {w : World} {B g l k : Nat} {xs : List α} (h : Sl α w B (some ⟨g, 0, none⟩) l xs) (hk : k ≤ l) : Sl α w B (some ⟨g, k * Enc.n α, none⟩) (l - k) (xs.drop k) := by
  by_cases hlt : k < l
  · obtain ⟨ad, e, h2⟩ := h.drop hlt
    injection e with e; subst e
    rwa [add_zeroA] at h2
  · have : l - k = 0 := by omega
    rw [this, List.drop_of_length_le (by rw [h.1]; omega)]
    exact Sl.nil_any

/-- Lists of stamps that came in: each header leads to a list. -/
def TimesIs (w : World) (B : Nat) (A : Option Addr) (n : Nat) (hs : List Hdr) : Prop :=
  Sl Hdr w B A n hs ∧ ∀ h ∈ hs, ∃ xs : List U64, Sl U64 w B h.a h.len xs ∧ (∀ x ∈ xs, 0 ≤ x.v ∧ x.v ≤ 18446744073709551615) ∧ h.len ≤ h.cap ∧ h.cap ≤ maxLen
theorem TimesIs.below {w w' : World} {B : Nat} {A : Option Addr} {n : Nat} {hs : List Hdr} (h : TimesIs w B A n hs) (hb : Below B w w') : TimesIs w' B A n hs :=
  ⟨h.1.below hb, fun x hx => by obtain ⟨xs, h1, h2⟩ := h.2 x hx; exact ⟨xs, h1.below hb, h2⟩⟩

set_option maxRecDepth 100000 in
set_option maxHeartbeats 1000000 in
theorem begin_any (A0 A2 A3 : Option Addr) (n0 c0 n2 c2 n3 c3 : Nat) (cut : Int) (xs : List GEntry) (ns : List GName) (hs : List Hdr) (w : World) (hx : Sl GEntry w w.heap.size A0 n0 xs) (hox : ∀ x ∈ xs, EntryOk x) (hn0 : n0 ≤ maxLen)
    (hns : Sl GName w w.heap.size A2 n2 ns) (hon : ∀ x ∈ ns, ok25 w x) (hn2 : n2 ≤ maxLen) (hts : TimesIs w w.heap.size A3 n3 hs) (hn3 : n3 ≤ maxLen)
    (ha : -9223372036854775808 ≤ cut) (ha2 : cut ≤ 9223372036854775807) :
    Calls Try.prog 7 #[.slice A0 n0 c0, .int .i64 cut, .slice A2 n2 c2, .slice A3 n3 c3] w fun e w' => e = .returned (.bool true) ∧ Below w.heap.size w w' := by
  unfold maxLen at hn0 hn2 hn3
  have H0 := Lib.hid hx; have H2 := Lib.hid hns; have H3 := Lib.hid hts; have HO0 := Lib.hid hox; have HO2 := Lib.hid hon
  clear hx hns hts hox hon
  have hmm := @run_makeMap Try.prog
  obtain ⟨E, hE⟩ : ∃ E, smallL xs = E := ⟨_, rfl⟩
  have hlen1 : E.length ≤ 8 := by rw [← hE]; simp [smallL]; omega
  obtain ⟨l, hl⟩ : ∃ l, E.length = l := ⟨_, rfl⟩
  rw [hl] at hlen1
  have HE := Lib.hid hE; have HL := Lib.hid hl; clear hE hl
  go_enter Try.func7, Try.ntmps7
  go_wp2_with fail
  have hsm := small_is A0 n0 c0 xs E w _ HE.out H0.out (Nat.le_refl _) HO0.out hn0
  rw [HL.out] at hsm
  refine hsm.mono ?_
  clear hsm
  rintro _ w1 ⟨A1, c1, rfl, ho1, hb1, hc1, hm1⟩
  unfold maxLen at hm1
  have s1 := ho1.sl
  rw [HL.out] at s1
  have hA1 : (A1 = none ∧ c1 = 0) ∨ ∃ g, A1 = some ⟨g, 0, none⟩ := by
    rcases ho1.2 with ⟨hv, _⟩ | ⟨g, cap, cur, hv, _⟩
    · injection hv with h1 h2 h3; exact .inl ⟨h1, h3⟩
    · injection hv with h1 h2 h3; exact .inr ⟨g, h1⟩
  have HA1 := Lib.hid hA1; clear hA1
  have S1 := Lib.hid s1; have B1 := Lib.hid (show Bel w w1 from hb1); clear ho1 s1 hb1
  obtain ⟨k, hk, hkl⟩ : ∃ k : Nat, within cut ((l : Int) + 1) = (k : Int) ∧ k ≤ l := by
    unfold within
    rw [if_neg (by omega)]
    have h1 := Int.emod_nonneg cut (b := (l : Int) + 1) (by omega)
    have h2 := Int.emod_lt_of_pos cut (b := (l : Int) + 1) (by omega)
    exact ⟨(cut % ((l : Int) + 1)).toNat, by omega, by omega⟩
  have HK := Lib.hid hk; clear hk
  go_wp2_with fail
  refine (within_is cut ((l : Int) + 1) k _ HK.out (by omega) ha ha2).mono ?_
  rintro _ w2 ⟨rfl, rfl⟩
  go_upto_region 3 with (fail)
  go_cut [39] (fun v wx => v = .bool false ∧ Bel w2 wx)
  case first =>
    obtain ⟨r1, hr1⟩ : ∃ r, risingB E = r := ⟨_, rfl⟩
    obtain ⟨r2, hr2⟩ : ∃ r, onceB E = r := ⟨_, rfl⟩
    have HR1 := Lib.hid hr1; have HR2 := Lib.hid hr2; clear hr1 hr2
    have BX := Lib.hid (Bel.refl w2)
    go_wp2_with fail
    refine (rising_is _ A1 l c1 E _ HR1.out (S1.out.stepB BX.out) (by unfold maxLen; omega)).mono ?_
    rintro _ wz ⟨rfl, hb⟩; replace BX := Lib.hid (BX.out.step hb); clear hb
    cases r1 <;> cases r2
    · go_wp2_with fail
      refine (once_is _ A1 l c1 E _ HR2.out (S1.out.stepB BX.out) (by unfold maxLen; omega)).mono ?_
      rintro _ wz ⟨rfl, hb⟩; replace BX := Lib.hid (BX.out.step hb); clear hb
      go_wp2_with fail
      go_meet
      exact ⟨rfl, BX.out⟩
    · go_wp2_with fail
      refine (once_is _ A1 l c1 E _ HR2.out (S1.out.stepB BX.out) (by unfold maxLen; omega)).mono ?_
      rintro _ wz ⟨rfl, hb⟩; replace BX := Lib.hid (BX.out.step hb); clear hb
      go_wp2_with fail
      refine (once_is true A1 k c1 (E.take k) _ (onceB_take HR2.out k) ((S1.out.stepB BX.out).take hkl) (by unfold maxLen; omega)).mono ?_
      rintro _ wz ⟨rfl, hb⟩; replace BX := Lib.hid (BX.out.step hb); clear hb
      go_wp2_with fail
      go_meet
      exact ⟨rfl, BX.out⟩
    · go_wp2_with fail
      refine (rising_is true A1 k c1 (E.take k) _ (risingB_take HR1.out k) ((S1.out.stepB BX.out).take hkl) (by unfold maxLen; omega)).mono ?_
      rintro _ wz ⟨rfl, hb⟩; replace BX := Lib.hid (BX.out.step hb); clear hb
      go_wp2_with fail
      refine (once_is _ A1 l c1 E _ HR2.out (S1.out.stepB BX.out) (by unfold maxLen; omega)).mono ?_
      rintro _ wz ⟨rfl, hb⟩; replace BX := Lib.hid (BX.out.step hb); clear hb
      go_wp2_with fail
      go_meet
      exact ⟨rfl, BX.out⟩
    · go_wp2_with fail
      refine (rising_is true A1 k c1 (E.take k) _ (risingB_take HR1.out k) ((S1.out.stepB BX.out).take hkl) (by unfold maxLen; omega)).mono ?_
      rintro _ wz ⟨rfl, hb⟩; replace BX := Lib.hid (BX.out.step hb); clear hb
      go_wp2_with fail
      refine (once_is _ A1 l c1 E _ HR2.out (S1.out.stepB BX.out) (by unfold maxLen; omega)).mono ?_
      rintro _ wz ⟨rfl, hb⟩; replace BX := Lib.hid (BX.out.step hb); clear hb
      go_wp2_with fail
      refine (once_is true A1 k c1 (E.take k) _ (onceB_take HR2.out k) ((S1.out.stepB BX.out).take hkl) (by unfold maxLen; omega)).mono ?_
      rintro _ wz ⟨rfl, hb⟩; replace BX := Lib.hid (BX.out.step hb); clear hb
      go_wp2_with fail
      go_meet
      exact ⟨rfl, BX.out⟩
  case rest =>
    obtain ⟨rfl, hbx⟩ := hcut
    obtain ⟨w3, rfl⟩ : ∃ w3 : World, w3 = wc := ⟨_, rfl⟩
    replace S1 := Lib.hid (S1.out.stepB hbx); replace B1 := Lib.hid (B1.out.step hbx); clear hbx
    go_upto_block 0 with fail
    go_cut [11] (fun _ wx => ∃ (m : List (GName × Hdr)) (st : GName → List U64), StInv wx w3.heap.size none m st ∧ Bel w3 wx)
    case first =>
      go_wp2_with fail
      go_loopw [11] (fun i wr => ∃ (p : Nat) (m : List (GName × Hdr)) (st : GName → List U64), p ≤ n2 ∧ p ≤ n3 ∧ p ≤ 6 ∧ i = .int .i64 p ∧ StInv wr w3.heap.size none m st ∧ Bel w3 wr) (fun i _ => 6 - (intOf i).toNat)
      case atStart => exact ⟨0, [], _, by omega, by omega, by omega, rfl, StInv.nil _ (by simp), (Bel.refl _).alloc _⟩
      case round =>
        obtain ⟨p, m, st, hp, hp3, hp6, rfl, hst, hb⟩ := hrel
        have HS := Lib.hid hst; have HB := Lib.hid hb; clear hst hb
        have HW := Lib.hid (B1.out.trans HB.out)
        by_cases hgo : p < n2 ∧ p < n3 ∧ p < 6
        · obtain ⟨hlt, hlt3, hlt6⟩ := hgo
          obtain ⟨ad, x, rfl, hab, hxk, hgx⟩ := (H2.out.stepB HW.out).at_ (k := p) hlt
          obtain ⟨ad3, hd, rfl, hab3, hhk, hgh⟩ := ((H3.out.below HW.out).1).at_ (k := p) hlt3
          obtain ⟨us, hus, huo, hdc, hdm⟩ := (H3.out.below HW.out).2 hd (List.mem_of_getElem? hhk)
          obtain ⟨hxc, hxs⟩ := HO2.out x (List.mem_of_getElem? hxk)
          have hxc1 := FitI.i64 hxc; have hxs1 := FitI.i64 hxs
          rw [show Enc.n GName = 2 from rfl] at hgx
          have f0 := cell_zero (GName.at_client hgx)
          have f1 := cell_off (by omega) (GName.at_seq hgx)
          have f3 := get1 (v := Hdr.val hd) rfl hgh
          rw [show Enc.n Hdr = 1 from rfl, Nat.mul_one] at f3
          obtain ⟨r1, hr1⟩ : ∃ r, within x.client 2 = r := ⟨_, rfl⟩
          obtain ⟨r2, hr2⟩ : ∃ r, within x.seq 3 = r := ⟨_, rfl⟩
          have HR1 := Lib.hid hr1; have HR2 := Lib.hid hr2; have HU := Lib.hid (hus.more HW.out.size); clear hr1 hr2 hus hgx hgh hxk hhk hxc hxs huo
          simp only [add_block] at f0 f1 f3
          go_wp2
          refine wp_region_G GB [14] GB.rf (by kernel_rfl) ?_
          refine wpG_looks 2 15 [0,1,2,3,4,5,6,7,8,9,10,11,12] rfl GB.rf GB.tr (by kernel_rfl) (fun _ _ _ _ hd h => And.intro (hd ▸ And.left h) (And.right h)) rfl (by kernel_rfl) ?_
          intro ι W hne CW
          have g0 : ∀ z, (W z).cell? (ad.add (p * 2)) = some (.int .i64 x.client) := fun z => (CW.out z).cell f0
          have g1 : ∀ z, (W z).cell? ⟨ad.block, (ad.add (p * 2)).off + 1, none⟩ = some (.int .i64 x.seq) := fun z => (CW.out z).cell f1
          repeat (refine wpLooksG_step (fun K hK => ?_); go_simp; refine hK _ ?_; clear hK K)
          refine wpLooksG_step (fun K hK => ?_); go_simp
          refine ⟨_, fun z => quietG (within_is x.client 2 r1 (W z) HR1.out (by omega) (by omega) (by omega)) (fun _ _ h => h), hK _ ?_⟩
          clear hK K
          repeat (refine wpLooksG_step (fun K hK => ?_); go_simp; refine hK _ ?_; clear hK K)
          refine wpLooksG_step (fun K hK => ?_); go_simp
          refine ⟨_, fun z => quietG (within_is x.seq 3 r2 (W z) HR2.out (by omega) (by omega) (by omega)) (fun _ _ h => h), hK _ ?_⟩
          clear hK K
          repeat (refine wpLooksG_step (fun K hK => ?_); go_simp; refine hK _ ?_; clear hK K)
          refine wpLooksG_nil ?_
          clear g0 g1 CW hne W ι
          refine wpG_new 13 14 _ _ rfl rfl (by kernel_rfl) (by kernel_rfl) rfl rfl (by kernel_rfl) _ _ rfl rfl default (⟨r1, r2⟩ : GName) al_GName sz25 (fun _ => rfl) (fun _ => GName.val_eq _) GB.al GB.bel ?_
          intro g wa wb hwa hg hwb hgn hgl
          refine wpG_end (by kernel_rfl) (fun wn hwn => ?_) _
          have hbn : Bel wr wn := (((Bel.refl wr).drew.trans hwa).trans hwb).trans hwn
          replace hgn := hwn.get hgn
          have hgl2 := Nat.lt_of_lt_of_le hgl (Below.size hwn)
          have f3n := GB.cell hbn f3
          have HBN := Lib.hid hbn
          clear hwa hwb hwn hg hbn f0 f1 f3 hgl wa wb
          go_wp2
          refine wp_region_G GB [7] GB.rf (by kernel_rfl) ?_
          refine wpG_looks 2 10 [0,1,2,3,4,5] rfl GB.rf GB.tr (by kernel_rfl) (fun _ _ _ _ hd h => And.intro (hd ▸ And.left h) (And.right h)) rfl (by kernel_rfl) ?_
          intro ι W hne CW
          have g0 : ∀ z, get? GName (W z) ⟨g, 0, none⟩ = some ⟨r1, r2⟩ := fun z => (CW.out z).get hgn
          have g1 : ∀ z, (W z).cell? (ad3.add p) = some hd.val := fun z => (CW.out z).cell f3n
          repeat (refine wpLooksG_step (fun K hK => ?_); go_simp; refine hK _ ?_; clear hK K)
          refine wpLooksG_nil ?_
          clear g0 g1 CW hne W ι
          refine wpG_force 6 _ rfl (by kernel_rfl) rfl fun wa hwa K hK => ?_
          go_simp
          refine (cutU64_any hd.a hd.len hd.cap 3 us wa _ (HU.out.stepB (HBN.out.trans hwa.undrew)) hdc hdm (by omega)).mono ?_
          rintro _ wb ⟨v, rfl, ho, hb⟩
          obtain ⟨A5, c5, rfl, ho5, hc5, hm5⟩ := OwnS.ownA ho
          obtain ⟨q, hq⟩ : ∃ q, (us.take 3).length = q := ⟨_, rfl⟩
          simp only [hq] at hc5 ⊢
          refine hK _ _ (fun _ => hb) ?_
          clear hK K
          refine wpG_force 7 _ rfl (by kernel_rfl) rfl fun wd hwd K hK => ?_
          have hbd : Bel wr wd := ((HBN.out.trans hwa.undrew).trans hb).trans hwd
          have hst := HS.out.step hbd
          have hmp := hst.hm
          have hsl := (ho5.stepB hwd).sl
          rw [hq] at hsl
          have hput := hst.put ⟨r1, r2⟩ ⟨A5, q, c5⟩ (us.take 3) hsl (by unfold maxLen at hm5 ⊢; simp only; omega) (fun _ _ _ => by simp)
          have hgr := mput_grown kl25 um37 hmp (⟨r1, r2⟩ : GName) (⟨A5, q, c5⟩ : Hdr)
          have hbel := (HB.out.trans hbd).grown hgr (fun k hk => by injection hk with hk; omega)
          have HP := Lib.hid hput; have HBE := Lib.hid hbel
          clear hput hgr hbel hst hq
          go_simp
          refine hK _ _ (fun h => absurd (by simp) h) ?_
          clear hK K
          refine wpG_end (by kernel_rfl) (fun we hwe => ?_) _
          have HE2 := Lib.hid (HP.out.step hwe); have HB2 := Lib.hid (HBE.out.step hwe)
          clear HP HBE hwe hmp
          go_wp2
          exact ⟨⟨p + 1, _, _, by omega, by omega, by omega, by simp, HE2.out, HB2.out⟩, by simp [intOf]; omega⟩
        · have hfin : ∃ (m : List (GName × Hdr)) (st : GName → List U64), StInv wr w3.heap.size none m st ∧ Bel w3 wr := ⟨m, st, HS.out, HB.out⟩
          have HF := Lib.hid hfin; clear hfin
          by_cases hlt : p < n2
          · by_cases hlt3 : p < n3
            · have h6 : ¬ p < 6 := fun h => hgo ⟨hlt, hlt3, h⟩
              go_wp2
              go_meet
              exact HF.out
            · go_wp2
              go_meet
              exact HF.out
          · go_wp2
            go_meet
            exact HF.out
    case rest =>
      obtain ⟨m, st, hst, hbx⟩ := hcut
      replace S1 := Lib.hid (S1.out.stepB hbx); replace B1 := Lib.hid (B1.out.step hbx); clear hbx
      have HS := Lib.hid hst; clear hst
      obtain ⟨w4, rfl⟩ : ∃ w4 : World, w4 = wc := ⟨_, rfl⟩
      go_upto_region 11 with fail
      go_cut [106] (fun v wx => v = .bool false ∧ Bel w4 wx)
      case first =>
        obtain ⟨r, hr⟩ : ∃ r, fairB [E, E.drop k] st = r := ⟨_, rfl⟩
        have HR := Lib.hid hr; clear hr
        rcases HA1.out with ⟨rfl, rfl⟩ | ⟨g, rfl⟩
        · obtain rfl : l = 0 := by omega
          obtain rfl : k = 0 := by omega
          have SD := Lib.hid (show Sl GEntry w4 w4.heap.size none 0 (E.drop 0) by rw [List.drop_zero]; exact S1.out)
          have BX := Lib.hid (Bel.refl w4)
          cases r
          · go_wp2_with fail
            refine (fair_call false [E, E.drop 0] [⟨none, 0, 0⟩, ⟨none, 0, 0⟩] 2 _ _ m st _ HR.out ⟨⟨S1.out.stepB BX.out, by simp only; omega, by unfold maxLen; simp only; omega⟩, ⟨SD.out.stepB BX.out, by simp only; omega, by unfold maxLen; simp only; omega⟩, trivial⟩ (HS.out.step BX.out) rfl rfl (by unfold maxLen; omega)).mono ?_
            rintro _ wz ⟨rfl, hb⟩; replace BX := Lib.hid (BX.out.trans hb); clear hb
            go_wp2_with fail
            go_meet
            exact ⟨rfl, BX.out⟩
          · go_wp2_with fail
            refine (fair_call true [E, E.drop 0] [⟨none, 0, 0⟩, ⟨none, 0, 0⟩] 2 _ _ m st _ HR.out ⟨⟨S1.out.stepB BX.out, by simp only; omega, by unfold maxLen; simp only; omega⟩, ⟨SD.out.stepB BX.out, by simp only; omega, by unfold maxLen; simp only; omega⟩, trivial⟩ (HS.out.step BX.out) rfl rfl (by unfold maxLen; omega)).mono ?_
            rintro _ wz ⟨rfl, hb⟩; replace BX := Lib.hid (BX.out.trans hb); clear hb
            go_wp2_with fail
            refine (fair_call true [E] [⟨none, 0, 0⟩] 1 _ _ m st _ (fairB_mem HR.out (by intro m hm; simp only [List.mem_singleton] at hm; subst hm; exact ⟨m, by simp, m.length, by simp⟩)) ⟨⟨S1.out.stepB BX.out, by simp only; omega, by unfold maxLen; simp only; omega⟩, trivial⟩ (HS.out.step BX.out) rfl rfl (by unfold maxLen; omega)).mono ?_
            rintro _ wz ⟨rfl, hb⟩; replace BX := Lib.hid (BX.out.trans hb); clear hb
            go_wp2_with fail
            refine (fair_call true [E.drop 0] [⟨none, 0, 0⟩] 1 _ _ m st _ (fairB_drop HR.out 0) ⟨⟨SD.out.stepB BX.out, by simp only; omega, by unfold maxLen; simp only; omega⟩, trivial⟩ (HS.out.step BX.out) rfl rfl (by unfold maxLen; omega)).mono ?_
            rintro _ wz ⟨rfl, hb⟩; replace BX := Lib.hid (BX.out.trans hb); clear hb
            go_wp2_with fail
            refine (fair_call true [E.take 0] [⟨none, 0, 0⟩] 1 _ _ m st _ (fairB_mem HR.out (by intro m hm; simp only [List.mem_singleton] at hm; subst hm; exact ⟨E, by simp, 0, rfl⟩)) ⟨⟨(S1.out.stepB BX.out).take (by omega), by simp only; omega, by unfold maxLen; simp only; omega⟩, trivial⟩ (HS.out.step BX.out) rfl rfl (by unfold maxLen; omega)).mono ?_
            rintro _ wz ⟨rfl, hb⟩; replace BX := Lib.hid (BX.out.trans hb); clear hb
            go_wp2_with fail
            go_meet
            exact ⟨rfl, BX.out⟩
        · by_cases hkc : k = c1
          · obtain rfl : l = k := by omega
            subst hkc
            have SD := Lib.hid (show Sl GEntry w4 w4.heap.size (some ⟨g, 0, none⟩) 0 (E.drop l) by rw [List.drop_of_length_le (by rw [HL.out]; exact Nat.le_refl _)]; exact Sl.nil_any)
            have BX := Lib.hid (Bel.refl w4)
            cases r
            · go_wp2_with fail
              refine (fair_call false [E, E.drop l] [⟨some ⟨g, 0, none⟩, l, l⟩, ⟨some ⟨g, 0, none⟩, 0, 0⟩] 2 _ _ m st _ HR.out ⟨⟨S1.out.stepB BX.out, by simp only; omega, by unfold maxLen; simp only; omega⟩, ⟨SD.out.stepB BX.out, by simp only; omega, by unfold maxLen; simp only; omega⟩, trivial⟩ (HS.out.step BX.out) rfl rfl (by unfold maxLen; omega)).mono ?_
              rintro _ wz ⟨rfl, hb⟩; replace BX := Lib.hid (BX.out.trans hb); clear hb
              go_wp2_with fail
              go_meet
              exact ⟨rfl, BX.out⟩
            · go_wp2_with fail
              refine (fair_call true [E, E.drop l] [⟨some ⟨g, 0, none⟩, l, l⟩, ⟨some ⟨g, 0, none⟩, 0, 0⟩] 2 _ _ m st _ HR.out ⟨⟨S1.out.stepB BX.out, by simp only; omega, by unfold maxLen; simp only; omega⟩, ⟨SD.out.stepB BX.out, by simp only; omega, by unfold maxLen; simp only; omega⟩, trivial⟩ (HS.out.step BX.out) rfl rfl (by unfold maxLen; omega)).mono ?_
              rintro _ wz ⟨rfl, hb⟩; replace BX := Lib.hid (BX.out.trans hb); clear hb
              go_wp2_with fail
              refine (fair_call true [E] [⟨some ⟨g, 0, none⟩, l, l⟩] 1 _ _ m st _ (fairB_mem HR.out (by intro m hm; simp only [List.mem_singleton] at hm; subst hm; exact ⟨m, by simp, m.length, by simp⟩)) ⟨⟨S1.out.stepB BX.out, by simp only; omega, by unfold maxLen; simp only; omega⟩, trivial⟩ (HS.out.step BX.out) rfl rfl (by unfold maxLen; omega)).mono ?_
              rintro _ wz ⟨rfl, hb⟩; replace BX := Lib.hid (BX.out.trans hb); clear hb
              go_wp2_with fail
              refine (fair_call true [E.drop l] [⟨some ⟨g, 0, none⟩, 0, 0⟩] 1 _ _ m st _ (fairB_drop HR.out l) ⟨⟨SD.out.stepB BX.out, by simp only; omega, by unfold maxLen; simp only; omega⟩, trivial⟩ (HS.out.step BX.out) rfl rfl (by unfold maxLen; omega)).mono ?_
              rintro _ wz ⟨rfl, hb⟩; replace BX := Lib.hid (BX.out.trans hb); clear hb
              go_wp2_with fail
              refine (fair_call true [E.take l] [⟨some ⟨g, 0, none⟩, l, l⟩] 1 _ _ m st _ (fairB_mem HR.out (by intro m hm; simp only [List.mem_singleton] at hm; subst hm; exact ⟨E, by simp, l, rfl⟩)) ⟨⟨(S1.out.stepB BX.out).take (by omega), by simp only; omega, by unfold maxLen; simp only; omega⟩, trivial⟩ (HS.out.step BX.out) rfl rfl (by unfold maxLen; omega)).mono ?_
              rintro _ wz ⟨rfl, hb⟩; replace BX := Lib.hid (BX.out.trans hb); clear hb
              go_wp2_with fail
              go_meet
              exact ⟨rfl, BX.out⟩
          · have hkc2 : k < c1 := by omega
            have SD := Lib.hid (show Sl GEntry w4 w4.heap.size (some ⟨g, k * 35, none⟩) (l - k) (E.drop k) from S1.out.drop_at hkl)
            have BX := Lib.hid (Bel.refl w4)
            cases r
            · go_wp2_with fail
              refine (fair_call false [E, E.drop k] [⟨some ⟨g, 0, none⟩, l, c1⟩, ⟨some ⟨g, k * 35, none⟩, l - k, c1 - k⟩] 2 _ _ m st _ HR.out ⟨⟨S1.out.stepB BX.out, by simp only; omega, by unfold maxLen; simp only; omega⟩, ⟨SD.out.stepB BX.out, by simp only; omega, by unfold maxLen; simp only; omega⟩, trivial⟩ (HS.out.step BX.out) rfl rfl (by unfold maxLen; omega)).mono ?_
              rintro _ wz ⟨rfl, hb⟩; replace BX := Lib.hid (BX.out.trans hb); clear hb
              go_wp2_with fail
              go_meet
              exact ⟨rfl, BX.out⟩
            · go_wp2_with fail
              refine (fair_call true [E, E.drop k] [⟨some ⟨g, 0, none⟩, l, c1⟩, ⟨some ⟨g, k * 35, none⟩, l - k, c1 - k⟩] 2 _ _ m st _ HR.out ⟨⟨S1.out.stepB BX.out, by simp only; omega, by unfold maxLen; simp only; omega⟩, ⟨SD.out.stepB BX.out, by simp only; omega, by unfold maxLen; simp only; omega⟩, trivial⟩ (HS.out.step BX.out) rfl rfl (by unfold maxLen; omega)).mono ?_
              rintro _ wz ⟨rfl, hb⟩; replace BX := Lib.hid (BX.out.trans hb); clear hb
              go_wp2_with fail
              refine (fair_call true [E] [⟨some ⟨g, 0, none⟩, l, c1⟩] 1 _ _ m st _ (fairB_mem HR.out (by intro m hm; simp only [List.mem_singleton] at hm; subst hm; exact ⟨m, by simp, m.length, by simp⟩)) ⟨⟨S1.out.stepB BX.out, by simp only; omega, by unfold maxLen; simp only; omega⟩, trivial⟩ (HS.out.step BX.out) rfl rfl (by unfold maxLen; omega)).mono ?_
              rintro _ wz ⟨rfl, hb⟩; replace BX := Lib.hid (BX.out.trans hb); clear hb
              go_wp2_with fail
              refine (fair_call true [E.drop k] [⟨some ⟨g, k * 35, none⟩, l - k, c1 - k⟩] 1 _ _ m st _ (fairB_drop HR.out k) ⟨⟨SD.out.stepB BX.out, by simp only; omega, by unfold maxLen; simp only; omega⟩, trivial⟩ (HS.out.step BX.out) rfl rfl (by unfold maxLen; omega)).mono ?_
              rintro _ wz ⟨rfl, hb⟩; replace BX := Lib.hid (BX.out.trans hb); clear hb
              go_wp2_with fail
              refine (fair_call true [E.take k] [⟨some ⟨g, 0, none⟩, k, c1⟩] 1 _ _ m st _ (fairB_mem HR.out (by intro m hm; simp only [List.mem_singleton] at hm; subst hm; exact ⟨E, by simp, k, rfl⟩)) ⟨⟨(S1.out.stepB BX.out).take (by omega), by simp only; omega, by unfold maxLen; simp only; omega⟩, trivial⟩ (HS.out.step BX.out) rfl rfl (by unfold maxLen; omega)).mono ?_
              rintro _ wz ⟨rfl, hb⟩; replace BX := Lib.hid (BX.out.trans hb); clear hb
              go_wp2_with fail
              go_meet
              exact ⟨rfl, BX.out⟩
      case rest =>
        obtain ⟨rfl, hbx⟩ := hcut
        have HSS := Lib.hid (HS.out.step hbx); replace B1 := Lib.hid (B1.out.step hbx); clear hbx
        have BX := Lib.hid (Bel.refl wc)
        go_wp2_with fail
        refine (fair_is true none 0 0 [] _ _ st _ rfl ⟨[], Sl.nil, rfl, by simp⟩ (HSS.out).is (by unfold maxLen; omega)).mono ?_
        rintro _ wz ⟨rfl, hb⟩; replace BX := Lib.hid (BX.out.step hb); clear hb
        go_wp2_with fail
        refine (rising_is true none 0 0 [] _ rfl Sl.nil (by unfold maxLen; omega)).mono ?_
        rintro _ wz ⟨rfl, hb⟩; replace BX := Lib.hid (BX.out.step hb); clear hb
        go_wp2_with fail
        refine (once_is true none 0 0 [] _ rfl Sl.nil (by unfold maxLen; omega)).mono ?_
        rintro _ wz ⟨rfl, hb⟩; replace BX := Lib.hid (BX.out.step hb); clear hb
        go_wp2_with fail
        refine (wakes_any _).mono ?_
        rintro _ wz ⟨rfl, hb⟩; replace BX := Lib.hid (BX.out.step hb); clear hb
        go_wp2_with fail
        go_ret
        exact ⟨rfl, B1.out.trans BX.out⟩
end Go.Proofs.Yteockodnfempfaa
