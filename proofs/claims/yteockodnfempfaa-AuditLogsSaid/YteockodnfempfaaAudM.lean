/- AuditFair returns true, walked. Conditions: those named in each theorem. -/
import Derived.Test.YteockodnfempfaaAudL
namespace Go.Proofs.Yteockodnfempfaa
open Go Go.RowKit Go.Gv

/-- Lists of entries that came in. -/
def InLogs (w : World) (A : Option Addr) (n : Nat) (Ls : List (List GEntry)) : Prop := LogsIs w w.heap.size A n Ls ∧ ∀ l ∈ Ls, ∀ x ∈ l, EntryOk x
theorem inLogs_of {w : World} {A : Option Addr} {n : Nat} {hs : List Hdr} (h : Sl Hdr w w.heap.size A n hs) (ho : ∀ x ∈ hs, SlOk w GEntry (ok30 w) x) : ∃ Ls, InLogs w A n Ls := by
  have key : ∀ hs : List Hdr, (∀ x ∈ hs, SlOk w GEntry (ok30 w) x) → ∃ Ls : List (List GEntry), hs.length = Ls.length ∧ (∀ l ∈ Ls, ∀ x ∈ l, EntryOk x) ∧ ∀ (i : Nat) (h : Hdr) (l : List GEntry), hs[i]? = some h → Ls[i]? = some l → Sl GEntry w w.heap.size h.a h.len l ∧ h.len ≤ h.cap ∧ h.cap ≤ maxLen := by
    intro hs
    induction hs with
    | nil => intro _; exact ⟨[], rfl, by simp, by simp⟩
    | cons x hs ih =>
      intro h
      obtain ⟨Ls, h1, h2, h3⟩ := ih fun y hy => h y (by simp [hy])
      obtain ⟨xs, g1, g2, g3, g4⟩ := h x (by simp)
      refine ⟨xs :: Ls, by simp [h1], fun l hl y hy => ?_, fun i hd l hi hl => ?_⟩
      · simp only [List.mem_cons] at hl
        rcases hl with rfl | hl
        · exact entryOk2 (g2 y hy)
        · exact h2 l hl y hy
      · cases i with
        | zero => simp at hi hl; subst hi; subst hl; exact ⟨g1, g3, g4⟩
        | succ i => exact h3 i hd l (by simpa using hi) (by simpa using hl)
  obtain ⟨Ls, h1, h2, h3⟩ := key hs ho
  exact ⟨Ls, ⟨hs, h, h1, h3⟩, h2⟩

theorem OwnRows.snoc {α : Type} [Enc α] {w w' : World} {base : Nat} {e : TypeId} {v v' : Value} {hs : List Hdr} {ls : List (List α)} {h : Hdr} {l : List α} (hr : RowsAt w v.ownBlock hs ls)
    (hl : Sl α w w.heap.size h.a h.len l ∧ h.len ≤ h.cap ∧ h.cap ≤ maxLen ∧ (0 < h.len → ∀ ad, h.a = some ad → v.ownBlock ≠ some ad.block)) (ho : OwnS w' base e v' (hs ++ [h])) (hg : w.grownBy w' v.ownBlock) (hb : v'.ownBlock = v.ownBlock ∨ v'.ownBlock = some w.heap.size) : OwnRows α w' base e v' (ls ++ [l]) :=
  ⟨hs ++ [h], ho, (RowsAt.snoc hl hr).grown hg hb⟩

/-- Of one list: does nothing stand wrongly ahead of place k, up to j? -/
def rowB (l : List GEntry) (st : GName → List U64) (k j : Nat) : Bool := (List.range j).all fun i => !belowB (st (l.getD k default).name) (st (l.getD i default).name)
theorem rowB_zero (l : List GEntry) (st : GName → List U64) (k : Nat) : rowB l st k 0 = true := rfl
theorem rowB_succ {l : List GEntry} {st : GName → List U64} {k j : Nat} {a b : GEntry} (hk : l[k]? = some b) (hj : l[j]? = some a) : rowB l st k (j + 1) = (rowB l st k j && !belowB (st b.name) (st a.name)) := by
  unfold rowB
  rw [List.range_succ, List.all_append, getD_of hk]
  simp [List.getD, hj]
theorem fairB_snoc (ls : List (List GEntry)) (l : List GEntry) (st : GName → List U64) : fairB (ls ++ [l]) st = (fairB ls st && fairB [l] st) := by
  unfold fairB; rw [List.all_append]
theorem fairB_take {ls : List (List GEntry)} {st : GName → List U64} {i : Nat} {l : List GEntry} (h : ls[i]? = some l) : fairB (ls.take (i + 1)) st = (fairB (ls.take i) st && fairB [l] st) := by
  rw [nodup_step h, fairB_snoc]
theorem all_congr2 {α : Type} {l : List α} {p q : α → Bool} (h : ∀ x ∈ l, p x = q x) : l.all p = l.all q := by
  induction l with
  | nil => rfl
  | cons x l ih => rw [List.all_cons, List.all_cons, h x (by simp), ih fun y hy => h y (by simp [hy])]
theorem fairB_one {l : List GEntry} {st : GName → List U64} {k : Nat} {b : GEntry} (h : l[k]? = some b) : fairB [l.take (k + 1)] st = (fairB [l.take k] st && rowB l st k k) := by
  have hk := (List.getElem?_eq_some_iff.1 h).1
  unfold fairB rowB
  simp only [List.all_cons, List.all_nil, Bool.and_true]
  rw [List.length_take, Nat.min_eq_left (by omega), List.length_take, Nat.min_eq_left (by omega), List.range_succ, List.all_append]
  have e : ∀ {i m : Nat}, i < m → (l.take m).getD i default = l.getD i default := fun {i m} him => by
    simp only [List.getD, List.getElem?_take_of_lt him]
  congr 1
  · refine all_congr2 fun i hi => ?_
    rw [List.mem_range] at hi
    refine all_congr2 fun j hj => ?_
    rw [List.mem_range] at hj
    rw [e (by omega), e (by omega), e hi, e (by omega)]
  · simp only [List.all_cons, List.all_nil, Bool.and_true]
    refine all_congr2 fun j hj => ?_
    rw [List.mem_range] at hj
    rw [e (by omega), e (by omega)]

def mod9 (x : U64) : U64 := ⟨x.v % 9⟩
theorem lawBelow_is (r : Bool) (A B : Option Addr) (n m c d : Nat) (xs ys : List U64) (w : World) (B0 : Nat) (hr : allBelow xs ys = r) (hx : Sl U64 w B0 A n xs) (hy : Sl U64 w B0 B m ys) (hn : n ≤ maxLen) (hm : m ≤ maxLen) :
    Calls Try.prog 28 #[.slice A n c, .slice B m d] w fun e w' => e = .returned (.bool r) ∧ Bel w w' := by
  subst hr
  refine (lawBelow_any A B n m c d xs ys w B0 hx hy hn hm).mono ?_
  rintro e w' ⟨h1, q, rfl⟩
  exact ⟨h1, (Bel.refl w).drewN q⟩

set_option maxRecDepth 100000 in
set_option maxHeartbeats 2000000 in
theorem auditFair_any (A0 A1 A2 : Option Addr) (n0 c0 n1 c1 n2 c2 : Nat) (Ls : List (List GEntry)) (ns : List GName) (hs : List Hdr) (w : World) (hx : InLogs w A0 n0 Ls) (hn0 : n0 ≤ maxLen)
    (hns : Sl GName w w.heap.size A1 n1 ns) (hon : ∀ x ∈ ns, ok25 w x) (hn1 : n1 ≤ maxLen) (hts : TimesIs w w.heap.size A2 n2 hs) (hn2 : n2 ≤ maxLen) :
    Calls Try.prog 5 #[.slice A0 n0 c0, .slice A1 n1 c1, .slice A2 n2 c2] w fun e w' => e = .returned (.bool true) ∧ Below w.heap.size w w' := by
  unfold maxLen at hn0 hn1 hn2
  have H0 := Lib.hid hx; have H2 := Lib.hid hns; have H3 := Lib.hid hts; have HO2 := Lib.hid hon
  clear hx hns hts hon
  have hmm := @run_makeMap Try.prog
  obtain ⟨LS, hLS⟩ : ∃ LS, (Ls.take 3).map smallL = LS := ⟨_, rfl⟩
  have HLS := Lib.hid hLS; clear hLS
  go_enter Try.func5, Try.ntmps5
  go_upto_block 0 with fail
  go_cut [7, 8] (fun v _ wx => OwnRows GEntry wx w.heap.size 22 v LS ∧ Bel w wx)
  case first =>
    go_wp2_with fail
    go_loopw [7, 8] (fun v i wr => ∃ (k : Nat), k ≤ n0 ∧ k ≤ 3 ∧ i = .int .i64 k ∧ OwnRows GEntry wr w.heap.size 22 v ((Ls.take k).map smallL) ∧ Bel w wr) (fun _ i _ => 3 - (intOf i).toNat)
    case atStart => exact ⟨0, by omega, by omega, rfl, OwnRows.nil _ _ _, Bel.refl _⟩
    case round =>
      obtain ⟨k, hk, hk3, rfl, hown, hb⟩ := hrel
      have HO := Lib.hid hown; have HB := Lib.hid hb; clear hown hb
      by_cases hlt : k < n0
      · by_cases hlt3 : k < 3
        · obtain ⟨ad, A3, n3, c3, l, rfl, hab, hlk, hc, hsl, hdl, hdc⟩ := (H0.out.1.stepB HB.out).at_ (k := k) hlt
          have hok := H0.out.2 l (List.mem_of_getElem? hlk)
          have HL := Lib.hid hlk; have HS := Lib.hid hsl; have HOK := Lib.hid hok; clear hlk hsl hok
          obtain ⟨la, hla⟩ : ∃ la, smallL l = la := ⟨_, rfl⟩
          have hl8 : la.length ≤ 8 := by rw [← hla]; simp [smallL]; omega
          have HA := Lib.hid hla; clear hla
          go_wp2_with fail
          refine (small_is A3 n3 c3 l la wr _ HA.out HS.out (Nat.le_refl _) HOK.out (by omega)).mono ?_
          rintro _ w1 ⟨A4, c4, rfl, ho4, hb4, hc4, hm4⟩
          obtain ⟨hs1, ho1, hr1⟩ := HO.out.step hb4
          have hlen : hs1.length = k := by rw [hr1.len, List.length_map, List.length_take, H0.out.1.len]; omega
          have hdis : 0 < la.length → ∀ ad', A4 = some ad' → u7.ownBlock ≠ some ad'.block := by
            intro h0 ad' ha e
            obtain ⟨A', c', hv, _, _, _, hf⟩ := OwnS.shape ho4
            injection hv with h1 _ _; subst h1
            have := (hf ad' ha).1
            obtain ⟨hs0, ho0, _⟩ := HO.out
            have := (ho0.lt _ e).2
            omega
          have hrow : Sl GEntry w1 w1.heap.size A4 la.length la ∧ la.length ≤ c4 ∧ c4 ≤ maxLen ∧ (0 < la.length → ∀ ad', A4 = some ad' → u7.ownBlock ≠ some ad'.block) := ⟨ho4.sl, hc4, hm4, hdis⟩
          have HR := Lib.hid hrow; have HO1 := Lib.hid ho1; have HR1 := Lib.hid hr1; have HB1 := Lib.hid (HB.out.step hb4)
          obtain ⟨q, hq⟩ : ∃ q, la.length = q := ⟨_, rfl⟩
          have HQ := Lib.hid hq; have HLEN := Lib.hid hlen
          simp only [hq]
          clear hrow ho1 hr1 ho4 hb4 hdis hq hlen hc4 hm4
          go_wp2
          generalize hrun : Sem.run _ (gAppend _ _ _) _ = rr
          obtain ⟨v', w', rfl, ho, hg, hob⟩ := append_spec hrun ei39 (HO1.out.alloc _) (Sl.new_ (B := w1.heap.size + 1) (xs := [(⟨A4, q, c4⟩ : Hdr)]) (by rw [List.flatMap_cons, List.flatMap_nil, List.append_nil]; rfl) rfl rfl (by omega)) (by rw [HLEN.out]; unfold maxLen; omega) (by rw [HLEN.out]; omega) (by have := HB1.out.size; simp; omega)
          clear hrun
          have hal : Below w1.heap.size w1 (w1.alloc (.cells #[.slice A4 q c4] 22)) := (Below.refl _ _).alloc (Nat.le_refl _) _
          have hrow2 := HR.out
          rw [HQ.out] at hrow2
          have hnew := OwnRows.snoc (l := la) (h := ⟨A4, q, c4⟩) (HR1.out.step hal) ⟨hrow2.1.stepB hal, hrow2.2⟩ ho hg hob
          have hbel : Bel w w' := (HB1.out.alloc _).appS hg (HO1.out.alloc _) (Nat.le_refl _)
          have e : (Ls.take k).map smallL ++ [la] = (Ls.take (k + 1)).map smallL := by rw [List.take_add_one, HL.out, List.map_append, ← HA.out]; rfl
          rw [e] at hnew
          have HN := Lib.hid hnew; have HBN := Lib.hid hbel
          clear hrow2 hnew hbel ho hg hob hal
          go_wp2
          exact ⟨⟨k + 1, by omega, by omega, by simp, HN.out, HBN.out⟩, by simp [intOf]; omega⟩
        · have e : LS = (Ls.take k).map smallL := by rw [← HLS.out]; congr 2; omega
          have HF := Lib.hid (e ▸ HO.out : OwnRows GEntry wr w.heap.size 22 u7 LS); clear e
          go_wp2
          go_meet
          exact ⟨HF.out, HB.out⟩
      · have e : LS = (Ls.take k).map smallL := by
          rw [← HLS.out, List.take_of_length_le (by rw [H0.out.1.len]; omega), List.take_of_length_le (by rw [H0.out.1.len]; omega)]
        have HF := Lib.hid (e ▸ HO.out : OwnRows GEntry wr w.heap.size 22 u7 LS); clear e
        go_wp2
        go_meet
        exact ⟨HF.out, HB.out⟩
  case rest =>
    obtain ⟨hrows, hbx⟩ := hcut
    obtain ⟨w3, rfl⟩ : ∃ w3 : World, w3 = wc := ⟨_, rfl⟩
    obtain ⟨A3, c3, hv3, hc3, hm3⟩ := hrows.ownA
    have hLS3 : LS.length ≤ 3 := by rw [← HLS.out]; simp; omega
    obtain ⟨n3, hn3⟩ : ∃ n3, LS.length = n3 := ⟨_, rfl⟩
    rw [hn3] at hv3 hc3 hLS3
    subst hv3
    have hl8 : ∀ l ∈ LS, l.length ≤ 8 := by
      intro l hl
      rw [← HLS.out] at hl
      obtain ⟨l0, _, rfl⟩ := List.mem_map.1 hl
      simp [smallL]; omega
    unfold maxLen at hm3
    have HR := Lib.hid (hrows.logs); have HB := Lib.hid hbx; have HN := Lib.hid hn3; have HL8 := Lib.hid hl8
    clear hrows hbx hn3 hl8
    go_upto_block 2 with fail
    go_cut [10] (fun _ wx => ∃ (m : List (GName × Hdr)) (st : GName → List U64), StInv wx w3.heap.size none m st ∧ Bel w3 wx)
    case first =>
      go_wp2_with fail
      go_loopw [10] (fun i wr => ∃ (p : Nat) (m : List (GName × Hdr)) (st : GName → List U64), p ≤ n1 ∧ p ≤ n2 ∧ p ≤ 6 ∧ i = .int .i64 p ∧ StInv wr w3.heap.size none m st ∧ Bel w3 wr) (fun i _ => 6 - (intOf i).toNat)
      case atStart => exact ⟨0, [], _, by omega, by omega, by omega, rfl, StInv.nil _ (by simp), (Bel.refl _).alloc _⟩
      case round =>
        obtain ⟨p, m, st, hp, hp3, hp6, rfl, hst, hb⟩ := hrel
        obtain ⟨w4, rfl⟩ : ∃ w4 : World, w4 = wr := ⟨_, rfl⟩
        have HS := Lib.hid hst; have HB3 := Lib.hid hb; clear hst hb
        have HW := Lib.hid (HB.out.trans HB3.out)
        by_cases hgo : p < n1 ∧ p < n2 ∧ p < 6
        · obtain ⟨hlt, hlt3, hlt6⟩ := hgo
          obtain ⟨ad, x, rfl, hab, hxk, hgx⟩ := (H2.out.stepB HW.out).at_ (k := p) hlt
          obtain ⟨ad3, hd, rfl, hab3, hhk, hgh⟩ := ((H3.out.below HW.out).1).at_ (k := p) hlt3
          obtain ⟨us, hus, huo, hdc, hdm⟩ := (H3.out.below HW.out).2 hd (List.mem_of_getElem? hhk)
          obtain ⟨hxc, hxs⟩ := HO2.out x (List.mem_of_getElem? hxk)
          have hxc1 := FitI.i64 hxc; have hxs1 := FitI.i64 hxs
          rw [show Enc.n GName = 2 from rfl] at hgx
          have f0 := cell_zero (GName.at_client hgx)
          have f1 := cell_off (by omega) (GName.at_seq hgx)
          have f3 := get1 (v := Hdr.val hd) rfl hgh
          rw [show Enc.n Hdr = 1 from rfl, Nat.mul_one] at f3
          obtain ⟨r1, hr1⟩ : ∃ r, within x.client 2 = r := ⟨_, rfl⟩
          obtain ⟨r2, hr2⟩ : ∃ r, within x.seq 3 = r := ⟨_, rfl⟩
          have HR1 := Lib.hid hr1; have HR2 := Lib.hid hr2; have HU := Lib.hid (hus.more HW.out.size); have HUO := Lib.hid huo; clear hr1 hr2 hus hgx hgh hxk hhk hxc hxs huo
          simp only [add_block] at f0 f1 f3
          go_wp2
          refine wp_region_G GB [14] GB.rf (by kernel_rfl) ?_
          refine wpG_looks 2 15 [0,1,2,3,4,5,6,7,8,9,10,11,12] rfl GB.rf GB.tr (by kernel_rfl) (fun _ _ _ _ hd h => And.intro (hd ▸ And.left h) (And.right h)) rfl (by kernel_rfl) ?_
          intro ι W hne CW
          have g0 : ∀ z, (W z).cell? (ad.add (p * 2)) = some (.int .i64 x.client) := fun z => (CW.out z).cell f0
          have g1 : ∀ z, (W z).cell? ⟨ad.block, (ad.add (p * 2)).off + 1, none⟩ = some (.int .i64 x.seq) := fun z => (CW.out z).cell f1
          repeat (refine wpLooksG_step (fun K hK => ?_); go_simp; refine hK _ ?_; clear hK K)
          refine wpLooksG_step (fun K hK => ?_); go_simp
          refine ⟨_, fun z => quietG (within_is x.client 2 r1 (W z) HR1.out (by omega) (by omega) (by omega)) (fun _ _ h => h), hK _ ?_⟩
          clear hK K
          repeat (refine wpLooksG_step (fun K hK => ?_); go_simp; refine hK _ ?_; clear hK K)
          refine wpLooksG_step (fun K hK => ?_); go_simp
          refine ⟨_, fun z => quietG (within_is x.seq 3 r2 (W z) HR2.out (by omega) (by omega) (by omega)) (fun _ _ h => h), hK _ ?_⟩
          clear hK K
          repeat (refine wpLooksG_step (fun K hK => ?_); go_simp; refine hK _ ?_; clear hK K)
          refine wpLooksG_nil ?_
          clear g0 g1 CW hne W ι
          refine wpG_new 13 14 _ _ rfl rfl (by kernel_rfl) (by kernel_rfl) rfl rfl (by kernel_rfl) _ _ rfl rfl default (⟨r1, r2⟩ : GName) al_GName sz25 (fun _ => rfl) (fun _ => GName.val_eq _) GB.al GB.bel ?_
          intro g wa wb hwa hg hwb hgn hgl
          refine wpG_end (by kernel_rfl) (fun wn hwn => ?_) _
          have hbn : Bel w4 wn := (((Bel.refl w4).drew.trans hwa).trans hwb).trans hwn
          replace hgn := hwn.get hgn
          have f3n := GB.cell hbn f3
          have HBN := Lib.hid hbn
          have HUN := Lib.hid (HU.out.stepB hbn)
          clear hwa hwb hwn hg hbn f0 f1 f3 hgl wa wb HU
          go_upto_block 4 with fail
          go_cut [12, 13] (fun v _ wx => OwnS wx wn.heap.size 28 v ((us.take 4).map mod9) ∧ Bel wn wx)
          case first =>
            go_wp2_with fail
            go_loopw [12, 13] (fun v i wx => ∃ (k : Nat), k ≤ hd.len ∧ k ≤ 4 ∧ i = .int .i64 k ∧ OwnS wx wn.heap.size 28 v ((us.take k).map mod9) ∧ Bel wn wx) (fun _ i _ => 4 - (intOf i).toNat)
            case atStart => exact ⟨0, by omega, by omega, rfl, OwnS.nil _ _ _, Bel.refl _⟩
            case round =>
              obtain ⟨k, hk, hk4, rfl, hown, hb⟩ := hrel
              have HO := Lib.hid hown; have HB4 := Lib.hid hb; clear hown hb
              obtain ⟨wx, rfl⟩ : ∃ wx : World, wx = wr := ⟨_, rfl⟩
              have f3x := GB.cell HB4.out f3n
              have hlen : ((us.take k).map mod9).length = k := by rw [List.length_map, List.length_take, HUN.out.1]; omega
              have HLEN := Lib.hid hlen; clear hlen
              by_cases hlt4 : k < hd.len ∧ k < 4
              · obtain ⟨hlk, hl4⟩ := hlt4
                obtain ⟨ad5, y, had5, _, hyk, hgy⟩ := (HUN.out.stepB HB4.out).at_ (k := k) hlk
                have hyo := HUO.out y (List.mem_of_getElem? hyk)
                have hc := getU hgy
                simp only [show Enc.n U64 = 1 from rfl, Nat.mul_one] at hc
                obtain ⟨hy0, hy1⟩ := hyo
                have htm : y.v.tmod 9 = y.v % 9 := Int.tmod_eq_emod_of_nonneg hy0
                obtain ⟨z, hz⟩ : ∃ z, y.v % 9 = z := ⟨_, rfl⟩
                rw [hz] at htm
                have HZ := Lib.hid hz; have HYK := Lib.hid hyk; clear hz hyk hgy
                obtain ⟨hda, hdl, hdcap⟩ := hd
                simp only at had5 hlk hdc hdm f3x hk
                subst had5
                simp only [Hdr.val] at f3x
                go_wp2
                generalize hrun : Sem.run _ (gAppend _ _ _) _ = rr
                obtain ⟨v', w', rfl, ho, hg, hob⟩ := append_spec hrun ei36 (HO.out.alloc _) (Sl.new_ (B := wx.heap.size + 1) (xs := [(⟨z⟩ : U64)]) (by rw [List.flatMap_cons, List.flatMap_nil, List.append_nil]; rfl) rfl rfl (by omega)) (by rw [HLEN.out]; unfold maxLen; omega) (by rw [HLEN.out]; omega) (by have := HB4.out.size; simp; omega)
                clear hrun
                have hbel : Bel wn w' := (HB4.out.alloc _).appS hg (HO.out.alloc _) (Nat.le_refl _)
                have e : (us.take k).map mod9 ++ [(⟨z⟩ : U64)] = (us.take (k + 1)).map mod9 := by rw [List.take_add_one, HYK.out, List.map_append, ← HZ.out]; rfl
                rw [e] at ho
                have HN2 := Lib.hid ho; have HBN2 := Lib.hid hbel
                clear ho hbel hg hob
                go_wp2
                exact ⟨⟨k + 1, by omega, by omega, by simp, HN2.out, HBN2.out⟩, by simp [intOf]; omega⟩
              · have e : (us.take 4).map mod9 = (us.take k).map mod9 := by
                  by_cases h4 : k = 4
                  · rw [h4]
                  · rw [List.take_of_length_le (i := 4) (by rw [HUN.out.1]; omega), List.take_of_length_le (i := k) (by rw [HUN.out.1]; omega)]
                have HF := Lib.hid (e ▸ HO.out : OwnS wx wn.heap.size 28 u12 ((us.take 4).map mod9)); clear e
                by_cases hlk : k < hd.len
                · have h4 : ¬ k < 4 := fun h => hlt4 ⟨hlk, h⟩
                  go_wp2
                  go_meet
                  exact ⟨HF.out, HB4.out⟩
                · go_wp2
                  go_meet
                  exact ⟨HF.out, HB4.out⟩
          case rest =>
            obtain ⟨hown, hbx⟩ := hcut
            obtain ⟨w6, rfl⟩ : ∃ w6 : World, w6 = wc := ⟨_, rfl⟩
            obtain ⟨A5, c5, rfl, ho5, hc5, hm5⟩ := OwnS.ownA hown
            obtain ⟨q, hq⟩ : ∃ q, ((us.take 4).map mod9).length = q := ⟨_, rfl⟩
            simp only [hq] at hc5 ⊢
            have hst := HS.out.step (HBN.out.trans hbx)
            have hmp := hst.hm
            have hsl := ho5.sl
            rw [hq] at hsl
            have hgn6 : get? GName w6 ⟨g, 0, none⟩ = some ⟨r1, r2⟩ := GB.get hbx hgn
            have hput := hst.put ⟨r1, r2⟩ ⟨A5, q, c5⟩ ((us.take 4).map mod9) hsl (by unfold maxLen at hm5 ⊢; simp only; omega) (fun _ _ _ => by simp)
            have hgr := mput_grown kl25 um37 hmp (⟨r1, r2⟩ : GName) (⟨A5, q, c5⟩ : Hdr)
            have hbel := (HB3.out.trans (HBN.out.trans hbx)).grown hgr (fun k hk => by injection hk with hk; omega)
            have HP := Lib.hid hput; have HBE := Lib.hid hbel
            clear hput hgr hbel hst hq hown ho5 hsl hbx
            go_wp2
            exact ⟨⟨p + 1, _, _, by omega, by omega, by omega, by simp, HP.out, HBE.out⟩, by simp [intOf]; omega⟩
        · have hfin : ∃ (m : List (GName × Hdr)) (st : GName → List U64), StInv w4 w3.heap.size none m st ∧ Bel w3 w4 := ⟨m, st, HS.out, HB3.out⟩
          have HF := Lib.hid hfin; clear hfin
          by_cases hlt : p < n1
          · by_cases hlt3 : p < n2
            · have h6 : ¬ p < 6 := fun h => hgo ⟨hlt, hlt3, h⟩
              go_wp2
              go_meet
              exact HF.out
            · go_wp2
              go_meet
              exact HF.out
          · go_wp2
            go_meet
            exact HF.out
    case rest =>
      obtain ⟨m, st, hst, hbx⟩ := hcut
      obtain ⟨w5, rfl⟩ : ∃ w5 : World, w5 = wc := ⟨_, rfl⟩
      have HS := Lib.hid hst; replace HR := Lib.hid (HR.out.stepB hbx); replace HB := Lib.hid (HB.out.trans hbx)
      clear hst hbx
      have HI := Lib.hid HS.out.is
      have HI2 := HI
      go_upto_block 6 with fail
      go_cut [14, 97] (fun f _ wx => f = .bool (fairB LS st) ∧ Bel w5 wx)
      case first =>
        go_wp2_with fail
        go_loopw [14, 97] (fun f i wr => ∃ (k : Nat) (F : Bool), k ≤ n3 ∧ i = .int .i64 k ∧ f = .bool F ∧ F = fairB (LS.take k) st ∧ Bel w5 wr) (fun _ i _ => n3 - (intOf i).toNat)
        case atStart => exact ⟨0, true, by omega, rfl, rfl, rfl, Bel.refl _⟩
        case round =>
          obtain ⟨k, F, hk, rfl, rfl, hF, hb⟩ := hrel
          have HF := Lib.hid hF; have HB1 := Lib.hid hb; clear hF hb
          obtain ⟨wo, rfl⟩ : ∃ wo : World, wo = wr := ⟨_, rfl⟩
          by_cases hlt : k < n3
          · obtain ⟨ad, A4, n4, c4, l, rfl, hab, hlk, hc, hsl, hdl, hdc⟩ := (HR.out.stepB HB1.out).at_ (k := k) hlt
            have hl8 := HL8.out l (List.mem_of_getElem? hlk)
            rw [hsl.1] at hl8
            have HL := Lib.hid hlk; have HSL := Lib.hid hsl; clear hlk hsl
            unfold maxLen at hdc
            go_wp2
            go_loopw [14, 105] (fun f i wr => ∃ (p : Nat) (F : Bool), p ≤ n4 ∧ i = .int .i64 p ∧ f = .bool F ∧ F = (fairB (LS.take k) st && fairB [l.take p] st) ∧ Bel wo wr) (fun _ i _ => n4 - (intOf i).toNat)
            case atStart => exact ⟨0, F, by omega, rfl, rfl, by rw [HF.out]; simp [fairB], Bel.refl _⟩
            case round =>
              obtain ⟨p, F2, hp, rfl, rfl, hF2, hb2⟩ := hrel
              have HF2 := Lib.hid hF2; have HB2 := Lib.hid hb2; clear hF2 hb2
              obtain ⟨wm, rfl⟩ : ∃ wm : World, wm = wr := ⟨_, rfl⟩
              by_cases hlp : p < n4
              · obtain ⟨ae, b, rfl, haeb, hbk, hgb⟩ := (HSL.out.stepB HB2.out).at_ (k := p) hlp
                have HBK := Lib.hid hbk; clear hbk hgb
                go_wp2
                go_loopw [14, 17] (fun f i wr => ∃ (j : Nat) (F : Bool), j ≤ p ∧ i = .int .i64 j ∧ f = .bool F ∧ F = ((fairB (LS.take k) st && fairB [l.take p] st) && rowB l st p j) ∧ Bel wm wr) (fun _ i _ => p - (intOf i).toNat)
                case atStart => exact ⟨0, F2, by omega, rfl, rfl, by rw [HF2.out, rowB_zero, Bool.and_true], Bel.refl _⟩
                case round =>
                  obtain ⟨j, F3, hj, rfl, rfl, hF3, hb3⟩ := hrel
                  have HF3 := Lib.hid hF3; have HB3 := Lib.hid hb3; clear hF3 hb3
                  by_cases hlj : j < p
                  · have hj4 : j < n4 := by omega
                    have hB13 := HB1.out.trans (HB2.out.trans HB3.out)
                    obtain ⟨ae', a, hae', _, hak, hga⟩ := (HSL.out.stepB (HB2.out.trans HB3.out)).at_ (k := j) (by omega)
                    obtain rfl : ae = ae' := by injection hae'
                    obtain ⟨ae', b', hae', _, hbk', hgb⟩ := (HSL.out.stepB (HB2.out.trans HB3.out)).at_ (k := p) hlp
                    obtain rfl : ae = ae' := by injection hae'
                    rw [HBK.out] at hbk'; injection hbk' with hbk'; subst hbk'
                    have HAK := Lib.hid hak; clear hak hae'
                    change get? GEntry wr (ae.add (j * 35)) = some a at hga
                    change get? GEntry wr (ae.add (p * 35)) = some b at hgb
                    have hga2 : get? GName wr (ae.add (j * 35)) = some a.name := by have := GEntry.at_name hga; simpa [Addr.add] using this
                    have hgb2 : get? GName wr (ae.add (p * 35)) = some b.name := by have := GEntry.at_name hgb; simpa [Addr.add] using this
                    have hc3 := GB.cell (HB2.out.trans HB3.out) hc
                    obtain ⟨⟨Aa, na, ca⟩, hha⟩ : ∃ h, (mget m a.name).getD default = h := ⟨_, rfl⟩
                    obtain ⟨⟨Ab, nb, cb⟩, hhb⟩ : ∃ h, (mget m b.name).getD default = h := ⟨_, rfl⟩
                    have hsa := HI2.out.2 a.name
                    have hsb := HI2.out.2 b.name
                    simp only [hha] at hsa; simp only [hhb] at hsb
                    obtain ⟨hsa, hma⟩ := hsa
                    obtain ⟨hsb, hmb⟩ := hsb
                    have HSA := Lib.hid (hsa.stepB hB13); have HSB := Lib.hid (hsb.stepB hB13); have HMA := Lib.hid hma; have HMB := Lib.hid hmb
                    have HBC := Lib.hid hB13
                    unfold maxLen at hma hmb
                    have HHA := Lib.hid hha; have HHB := Lib.hid hhb
                    clear hsa hsb hha hhb hga hgb hB13
                    go_wp2
                    refine wp_region_G GB [] GB.rf (by kernel_rfl) ?_
                    refine wpG_looks 0 22 [0,1,2,3,4,5,6,7,8,9,10,11,12,13,14,15,16,17,18,19,20,21] rfl GB.rf GB.tr (by kernel_rfl) (fun _ _ _ _ hd h => And.intro (hd ▸ And.left h) (And.right h)) rfl (by kernel_rfl) ?_
                    intro ι W hne CW
                    have g0 : ∀ z, get? GName (W z) (ae.add (j * 35)) = some a.name := fun z => (CW.out z).get hga2
                    have g1 : ∀ z, get? GName (W z) (ae.add (p * 35)) = some b.name := fun z => (CW.out z).get hgb2
                    have g2 : ∀ z, (W z).cell? (ad.add k) = some (.slice (some ae) n4 c4) := fun z => (CW.out z).cell hc3
                    have h1 : ∀ z, mapAt GName Hdr (W z) w3.heap.size = some m := fun z => (HS.out.step (HBC.out.trans (CW.out z).undrew)).hm
                    have h2 := HHA.out
                    have h3 := HHB.out
                    repeat (refine wpLooksG_step (fun K hK => ?_); go_simp; refine hK _ ?_; clear hK K)
                    refine wpLooksG_nil ?_
                    clear g0 g1 g2 h1 h2 h3 CW hne W ι
                    refine wpG_end (by kernel_rfl) (fun wn hwn => ?_) _
                    have HBN := Lib.hid hwn.undrew
                    have HBX := Lib.hid (HB3.out.trans HBN.out)
                    have hstep : ∀ c, belowB (st b.name) (st a.name) = c → (F3 && !c) = ((fairB (LS.take k) st && fairB [l.take p] st) && rowB l st p (j + 1)) := fun c hc => by
                      rw [rowB_succ HBK.out HAK.out, hc, HF3.out]; simp only [Bool.and_assoc]
                    have HST := Lib.hid hstep; clear hstep
                    by_cases hna : 0 < na
                    · by_cases hnb : 0 < nb
                      · obtain ⟨c, hc⟩ : ∃ c, allBelow (st b.name) (st a.name) = c := ⟨_, rfl⟩
                        have hbb : belowB (st b.name) (st a.name) = c := by
                          unfold belowB
                          rw [hc, HSA.out.1, HSB.out.1]
                          simp [hna, hnb]
                        have HE := Lib.hid (HST.out c hbb); have HC := Lib.hid hc; clear hbb hc
                        go_wp2_with fail
                        refine (lawBelow_is c Ab Aa nb na cb ca (st b.name) (st a.name) wn _ HC.out (HSB.out.stepB HBN.out) (HSA.out.stepB HBN.out) HMB.out HMA.out).mono ?_
                        rintro _ wq ⟨rfl, hbq⟩
                        have HBY := Lib.hid (HBX.out.trans hbq); clear hbq
                        cases c
                        · go_wp2
                          go_roundw
                          case rel => exact ⟨j + 1, F3, by omega, by go_num, rfl, by rw [← HE.out]; simp, HBY.out⟩
                          case measure => simp [intOf] <;> omega
                        · go_wp2
                          go_roundw
                          case rel => exact ⟨j + 1, false, by omega, by go_num, rfl, by rw [← HE.out]; simp, HBY.out⟩
                          case measure => simp [intOf] <;> omega
                      · have HE := Lib.hid (HST.out false (by unfold belowB; rw [HSB.out.1]; simp [hnb]))
                        go_wp2
                        go_roundw
                        case rel => exact ⟨j + 1, F3, by omega, by go_num, rfl, by rw [← HE.out]; simp, HBX.out⟩
                        case measure => simp [intOf] <;> omega
                    · have HE := Lib.hid (HST.out false (by unfold belowB; rw [HSA.out.1]; simp [hna]))
                      go_wp2
                      go_roundw
                      case rel => exact ⟨j + 1, F3, by omega, by go_num, rfl, by rw [← HE.out]; simp, HBX.out⟩
                      case measure => simp [intOf] <;> omega
                  · obtain rfl : j = p := by omega
                    have HE := Lib.hid (show F3 = (fairB (LS.take k) st && fairB [l.take (j + 1)] st) by rw [fairB_one HBK.out, HF3.out, Bool.and_assoc])
                    have HBX := Lib.hid (HB2.out.trans HB3.out)
                    go_wp2
                    go_roundw
                    case rel => exact ⟨j + 1, F3, by omega, by go_num, rfl, HE.out, HBX.out⟩
                    case measure => simp [intOf] <;> omega
              · have HE := Lib.hid (show F2 = fairB (LS.take (k + 1)) st by
                  rw [fairB_take HL.out, HF2.out, show l.take p = l from List.take_of_length_le (by rw [HSL.out.1]; omega)])
                have HBX := Lib.hid (HB1.out.trans HB2.out)
                go_wp2
                go_roundw
                case rel => exact ⟨k + 1, F2, by omega, by go_num, rfl, HE.out, HBX.out⟩
                case measure => simp [intOf] <;> omega
          · have HE := Lib.hid (show F = fairB LS st by rw [HF.out, List.take_of_length_le (by rw [HN.out]; omega)])
            go_wp2
            go_meet
            exact ⟨by rw [HE.out], HB1.out⟩
      case rest =>
        obtain ⟨rfl, hbx⟩ := hcut
        obtain ⟨F, hF⟩ : ∃ F, fairB LS st = F := ⟨_, rfl⟩
        have HF := Lib.hid hF
        rw [hF]
        clear hF
        go_wp2_with fail
        refine (fair_is F A3 n3 c3 LS _ _ st _ HF.out (HR.out.stepB hbx) (HS.out.step hbx).is (by unfold maxLen; omega)).mono ?_
        rintro _ wz ⟨rfl, hb⟩
        have HBZ := Lib.hid (HB.out.trans (hbx.step hb)); clear hb hbx
        cases F
        · go_wp2_with fail
          refine (wakes_any _).mono ?_
          rintro _ wy ⟨rfl, hb⟩; have HBY := Lib.hid (HBZ.out.step hb); clear hb
          go_wp2_with fail
          go_ret
          exact ⟨rfl, HBY.out⟩
        · go_wp2_with fail
          refine (wakes_any _).mono ?_
          rintro _ wy ⟨rfl, hb⟩; have HBY := Lib.hid (HBZ.out.step hb); clear hb
          go_wp2_with fail
          go_ret
          exact ⟨rfl, HBY.out⟩
theorem auditFair_in (A0 A1 A2 : Option Addr) (n0 c0 n1 c1 n2 c2 : Nat) (x0 : List Hdr) (ns : List GName) (hs : List Hdr) (w : World) (hx0 : Sl Hdr w w.heap.size A0 n0 x0) (ho0 : ∀ x ∈ x0, SlOk w GEntry (ok30 w) x) (hn0 : n0 ≤ maxLen)
    (hns : Sl GName w w.heap.size A1 n1 ns) (hon : ∀ x ∈ ns, ok25 w x) (hn1 : n1 ≤ maxLen) (hts : Sl Hdr w w.heap.size A2 n2 hs) (hot : ∀ x ∈ hs, SlOk w U64 (fun x => FitI .u64 x.v) x) (hn2 : n2 ≤ maxLen) :
    Calls Try.prog 5 #[.slice A0 n0 c0, .slice A1 n1 c1, .slice A2 n2 c2] w fun e w' => e = .returned (.bool true) ∧ Below w.heap.size w w' := by
  obtain ⟨Ls, hLs⟩ := inLogs_of hx0 ho0
  exact auditFair_any A0 A1 A2 n0 c0 n1 c1 n2 c2 Ls ns hs w hLs hn0 hns hon hn1 ⟨hts, fun h hh => by obtain ⟨ys, h1, h2, h3, h4⟩ := hot h hh; exact ⟨ys, h1, fun y hy => FitI.u64 (h2 y hy), h3, h4⟩⟩ hn2
end Go.Proofs.Yteockodnfempfaa
