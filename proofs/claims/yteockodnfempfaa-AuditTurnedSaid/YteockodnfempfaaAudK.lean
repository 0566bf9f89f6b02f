/- AuditTurned returns true, walked. Conditions: those named in each theorem. -/
import Derived.Test.YteockodnfempfaaSw
namespace Go.Proofs.Yteockodnfempfaa
open Go Go.RowKit Go.Gv

set_option maxRecDepth 100000 in
set_option maxHeartbeats 2000000 in
theorem turned_any (A : Option Addr) (n c : Nat) (ts : List U64) (v : Int) (w : World) (hx : Sl U64 w w.heap.size A n ts) (hok : ∀ x ∈ ts, 0 ≤ x.v ∧ x.v ≤ 18446744073709551615) (hn : n ≤ maxLen)
    (ha : -9223372036854775808 ≤ v) (ha2 : v ≤ 9223372036854775807) :
    Calls Try.prog 4 #[.slice A n c, .int .i64 v] w fun e w' => e = .returned (.bool true) ∧ Below w.heap.size w w' := by
  unfold maxLen at hn
  have H := Lib.hid hx; clear hx
  have HOX := Lib.hid hok; clear hok
  have hmm := @run_makeMap Try.prog
  go_enter Try.func4, Try.ntmps4
  go_wp2
  go_loopw [5, 7, 8] (fun l last i wr => ∃ (k : Nat) (T : List Int) (L : Int) (m : List (GName × Hdr)), k ≤ n ∧ k ≤ 6 ∧ i = .int .i64 k ∧ last = .int .u64 L ∧ T.length = k ∧ OwnS wr (w.heap.size + 1) 30 l (entL T) ∧ StInv wr w.heap.size l.ownBlock m (stOf T) ∧ TimesOk T L ∧ Below w.heap.size w wr ∧ w.heap.size < wr.heap.size) (fun _ _ i _ => 6 - (intOf i).toNat)
  case atStart =>
    refine ⟨0, [], 0, [], by omega, by omega, rfl, rfl, rfl, OwnS.nil _ _ _, ?_, ⟨by simp, by simp, by omega, by simp⟩, (Below.refl _ _).alloc (Nat.le_refl _) _, by simp⟩
    have := StInv.nil (ob := none) w (by simp)
    have e : stOf [] = fun _ => [] := by funext k; simp [stOf]
    rw [e]; exact this
  case round =>
    obtain ⟨k, T, L, m, hk, hk6, rfl, rfl, hT, hown, hst, htm, hb, hsz⟩ := hrel
    have HO := Lib.hid hown; have HS := Lib.hid hst; have HB := Lib.hid hb; have HT := Lib.hid hT; have HM := Lib.hid htm
    clear hown hst hb hT htm
    have hL0 := HM.out.l0; have hL6 := HM.out.l6
    rw [HT.out] at hL6
    by_cases hlt : k < n
    · by_cases hlt6 : k < 6
      · obtain ⟨ad, x, rfl, hab, hxk, hgx⟩ := (H.out.below HB.out).at_ (k := k) hlt
        have hxok := HOX.out x (List.mem_of_getElem? hxk)
        have hc := getU hgx
        simp only [show Enc.n U64 = 1 from rfl, Nat.mul_one] at hc
        clear hgx hxk
        obtain ⟨hx0, hx1⟩ := hxok
        have htm : x.v.tmod 5 = x.v % 5 := Int.tmod_eq_emod_of_nonneg hx0
        have hm0 := Int.emod_nonneg x.v (b := 5) (by omega)
        have hm1 := Int.emod_lt_of_pos x.v (b := 5) (by omega)
        obtain ⟨y, hy⟩ : ∃ y, x.v % 5 = y := ⟨_, rfl⟩
        rw [hy] at htm hm0 hm1
        have HY := Lib.hid hy; clear hy
        have hab2 : ad.block < wr.heap.size := by omega
        have hcA : ∀ o, (wr.alloc o).cell? (ad.add k) = some (.int .u64 x.v) := fun o => (World.cell?_of_block (w := wr) (by rw [add_block]; exact Below.heap_alloc _ _ _ hab2)).trans hc
        have hst2 := (HS.out.below ((Below.refl _ _).alloc (Nat.le_refl _) (.cells (GName.enc ⟨k, 1⟩).toArray 25)))
        have hst3 := hst2.below ((Below.refl _ _).alloc (Nat.le_refl _) (.cells #[.int .u64 (L + 1 + y), .int .u64 (L + 1 + y + 1)] 28))
        have hsl : Sl U64 (((wr.alloc (.cells (GName.enc ⟨k, 1⟩).toArray 25))).alloc (.cells #[.int .u64 (L + 1 + y), .int .u64 (L + 1 + y + 1)] 28)) (wr.heap.size + 2) (some ⟨wr.heap.size + 1, 0, none⟩) 2 [⟨L + 1 + y⟩, ⟨L + 1 + y + 1⟩] := Sl.new_ rfl rfl (by simp) (by omega)
        have hst4 := hst3.put ⟨k, 1⟩ ⟨some ⟨wr.heap.size + 1, 0, none⟩, 2, 2⟩ [⟨L + 1 + y⟩, ⟨L + 1 + y + 1⟩] (by simpa using hsl) (by unfold maxLen; simp) (fun _ ad' h => by
          injection h with h; subst h
          intro e
          have := (HO.out.lt _ e).2
          simp only at this; omega)
        have hg3 : get? GName (mput Try.prog 37 ((wr.alloc (.cells (GName.enc ⟨k, 1⟩).toArray 25)).alloc (.cells #[.int .u64 (L + 1 + y), .int .u64 (L + 1 + y + 1)] 28)) w.heap.size (⟨k, 1⟩ : GName) (⟨some ⟨wr.heap.size + 1, 0, none⟩, 2, 2⟩ : Hdr)) ⟨wr.heap.size, 0, none⟩ = some ⟨k, 1⟩ := by
          rw [mput_get kl25 um37 hst3.hm]
          exact get?_alloc _ (get?_new _ _)
        have hgr := mput_grown kl25 um37 hst3.hm (⟨k, 1⟩ : GName) (⟨some ⟨wr.heap.size + 1, 0, none⟩, 2, 2⟩ : Hdr)
        have hsz3 := mput_size kl25 um37 hst3.hm (⟨k, 1⟩ : GName) (⟨some ⟨wr.heap.size + 1, 0, none⟩, 2, 2⟩ : Hdr)
        have hown3 := ((HO.out.alloc (.cells (GName.enc ⟨k, 1⟩).toArray 25)).alloc (.cells #[.int .u64 (L + 1 + y), .int .u64 (L + 1 + y + 1)] 28)).kept hgr (.inr (fun e => by have := (HO.out.lt _ e).1; omega))
        have hbb3 := ((HB.out.alloc HB.out.size (.cells (GName.enc ⟨k, 1⟩).toArray 25)).alloc (by simp; omega) (.cells #[.int .u64 (L + 1 + y), .int .u64 (L + 1 + y + 1)] 28)).grown hgr (by simp; omega) (fun j hj => by injection hj with hj; omega)
        have hmp := HS.out.hm
        have S4 := Lib.hid hst4; have HG := Lib.hid hgr; have O3 := Lib.hid hown3; have B3 := Lib.hid hbb3; have Z3 := Lib.hid hsz3
        clear hst2 hst3 hst4 hgr hown3 hbb3 hsz3 hsl
        go_wp2
        generalize mput (K := GName) (V := Hdr) _ _ _ _ _ _ = W3 at S4 O3 B3 Z3 ⊢
        clear HG hg3
        generalize hrun : Sem.run _ (gAppend _ _ _) _ = rr
        obtain ⟨v', w', rfl, ho, hg, hob⟩ := append_spec hrun ei22 (O3.out.alloc _) (Sl.new_ (B := W3.heap.size + 1) (xs := [entE k (L + 1 + y)]) (by rw [List.flatMap_cons, List.flatMap_nil, List.append_nil]; rfl) rfl rfl (by omega)) (by simp [entL, HT.out]; unfold maxLen; omega) (by simp [entL, HT.out]; omega) (by have := Z3.out; simp at this ⊢; omega)
        clear hrun
        have hst5 := ((S4.out.below ((Below.refl _ _).alloc (Nat.le_refl _) _)).grown hg hob)
        have hb5 := Gv.Below.appS (B0 := w.heap.size) (B3.out.alloc B3.out.size _) hg (O3.out.alloc _) (by omega) (by have := Z3.out; simp at this ⊢; omega)
        have he : entL T ++ [entE k (L + 1 + y)] = entL (T ++ [L + 1 + y]) := by rw [entL_snoc, HT.out]
        rw [he] at ho
        have hst6 := hst5
        rw [← HT.out, stOf_snoc] at hst6
        have hsz5 : w.heap.size < w'.heap.size := by have := hg.size; have := Z3.out; simp at this ‹_ ≤ w'.heap.size›; omega
        have OO := Lib.hid ho; have SS := Lib.hid hst6; have BB := Lib.hid hb5
        clear ho hg hob hst5 hst6 hb5 he
        go_wp2
        exact ⟨⟨k + 1, T ++ [L + 1 + y], L + 1 + y + 1, _, by omega, by omega, by simp, rfl, by simp [HT.out], OO.out, SS.out, HM.out.snoc hm0 (by omega), BB.out, hsz5⟩, by simp [intOf]; omega⟩
      · clear H HOX hk
        obtain ⟨E, hE⟩ : ∃ E, entL T = E := ⟨_, rfl⟩
        have hle : E.length = k := by rw [← hE]; simp [entL, HT.out]
        have ho0 := HO.out
        rw [hE] at ho0
        obtain ⟨A1, c1, hv, ho1, hc1, hm1⟩ := OwnS.ownA ho0
        have hs1 := ho1.sl
        rw [hle] at hv hc1 hs1
        subst hv
        have hst := HS.out.is
        have hdiv : (k : Int).tdiv 2 = ((k / 2 : Nat) : Int) := by rw [Int.tdiv_eq_ediv_of_nonneg (by omega)]; omega
        obtain ⟨z, hz⟩ : ∃ z, k / 2 = z := ⟨_, rfl⟩
        rw [hz] at hdiv
        have hzk : z ≤ k := by omega
        have HE := Lib.hid hE; have S1 := Lib.hid hs1; have ST := Lib.hid hst; have HLE := Lib.hid hle
        clear ho0 ho1 hE hs1 hst hle HO HT hz
        unfold maxLen at hm1
        clear ST
        go_wp2_with fail
        have hb2 : Below wr.heap.size wr (wr.alloc (.cells #[.slice A1 k c1, .slice A1 z c1] 22)) := (Below.refl _ _).alloc (Nat.le_refl _) _
        have hlg := LogsIs.new (w := wr) (t := 22) (cs := #[.slice A1 k c1, .slice A1 z c1]) (n := 2) (p := wr.heap.size)
          (hs := [⟨A1, k, c1⟩, ⟨A1, z, c1⟩]) (ls := [E, E.take z]) ⟨⟨S1.out, hc1, hm1⟩, ⟨S1.out.take hzk, by simp only; omega, hm1⟩, trivial⟩ (Nat.le_refl _) rfl rfl rfl
        refine (fair_any _ _ _ _ _ _ (stOf T) _ (by simpa using hlg) (HS.out.below hb2).is (by unfold maxLen; omega)).mono ?_
        rintro _ w4 ⟨rfl, hb4⟩
        rw [fair_entL HM.out [E, E.take z] (by
          intro l hl
          simp only [List.mem_cons, List.not_mem_nil, or_false] at hl
          rcases hl with rfl | rfl
          · exact ⟨l.length, by rw [HE.out]; simp⟩
          · exact ⟨z, by rw [HE.out]⟩)]
        have hbw4 := hb2.trans (hb4.mono hb2.size)
        have SS4 := Lib.hid (HS.out.below hbw4); have S4 := Lib.hid (S1.out.step hbw4); have HB4 := Lib.hid (HB.out.trans (hbw4.mono HB.out.size))
        clear hlg hbw4 hb2 hb4 HS S1 HB
        by_cases hk2 : k < 2
        · omega
        · go_wp2_with fail
          have hcp := copyEntry_is A1 c1 E w4 _ (HLE.out.symm ▸ S4.out) (by rw [HLE.out]; omega)
          rw [HLE.out] at hcp
          refine hcp.mono ?_
          clear hcp
          rintro _ w6 ⟨A6, c6, rfl, ho6, hb6, hc6, hm6⟩
          unfold maxLen at hm6
          obtain ⟨q, hq, hql⟩ : ∃ q : Nat, within v ((k : Int) - 1) = (q : Int) ∧ q + 1 < k := by
            unfold within
            rw [if_neg (by omega)]
            have h1 := Int.emod_nonneg v (b := (k : Int) - 1) (by omega)
            have h2 := Int.emod_lt_of_pos v (b := (k : Int) - 1) (by omega)
            exact ⟨(v % ((k : Int) - 1)).toNat, by omega, by omega⟩
          have hA6 : ∃ g, A6 = some ⟨g, 0, none⟩ ∧ w4.heap.size ≤ g ∧ g < w6.heap.size ∧ blkFree w6 g = true := by
            obtain ⟨A', c', hv, hs, _, _, hf⟩ := OwnS.shape ho6
            injection hv with hv1 _ _; subst hv1
            obtain ⟨ad, e, hb, _⟩ := hs.2 (by rw [HLE.out]; omega)
            obtain ⟨h1, h2, h3⟩ := hf ad e
            exact ⟨ad.block, by rw [e, ← h2], h1, hb, h3⟩
          obtain ⟨g, rfl, hg5, hg6, hfree⟩ := hA6
          obtain ⟨ad, a, hade, _, hxa, hga⟩ := ho6.sl.at_ (k := q) (by rw [HLE.out]; omega)
          injection hade with hade; subst hade
          obtain ⟨ad, b, hade, _, hxb, hgb⟩ := ho6.sl.at_ (k := q + 1) (by rw [HLE.out]; omega)
          injection hade with hade; subst hade
          obtain ⟨ho7, hfree7⟩ := ho6.put (k := q) (by rw [HLE.out]; omega) b
          obtain ⟨ho8, hfree8⟩ := ho7.put (k := q + 1) (by rw [List.length_set, HLE.out]; omega) a
          obtain ⟨ad, b', hade, _, hxb', hgb'⟩ := ho7.sl.at_ (k := q + 1) (by rw [List.length_set, HLE.out]; omega)
          injection hade with hade; subst hade
          simp only [add_zeroA, show Enc.n GEntry = 35 from rfl] at hga hgb hgb'
          rw [show Enc.n GEntry = 35 from rfl] at ho7 ho8 hfree7 hfree8
          have hb8 := putCells_below (o := (q + 1) * 35) (putCells_below (o := q * 35) ((Below.refl w4.heap.size w4).trans hb6) hg5 (Enc.enc b)) hg5 (Enc.enc a)
          have O8 := Lib.hid ho8; have B8 := Lib.hid hb8; have HXA := Lib.hid hxa; have HXB := Lib.hid hxb
          have hgb2 : get? GEntry (World.putCells w6 ⟨g, q * 35, none⟩ (GEntry.enc b)) ⟨g, (q + 1) * 35, none⟩ = some b' := hgb'
          have hfree2 : blkFree (World.putCells w6 ⟨g, q * 35, none⟩ (GEntry.enc b)) g = true := hfree7
          clear ho6 hb6 ho7 ho8 hb8 hxa hxb hxb' hgb' hfree7 hfree8
          go_wp2_with fail
          refine (within_is v ((k : Int) - 1) q _ hq (by omega) ha ha2).mono ?_
          rintro _ w7 ⟨rfl, rfl⟩
          go_wp2_with fail
          go_region
          obtain ⟨w8, hw8⟩ : ∃ w8, World.putCells (World.putCells w7 ⟨g, q * 35, none⟩ (GEntry.enc b)) ⟨g, (q + 1) * 35, none⟩ (GEntry.enc a) = w8 := ⟨_, rfl⟩
          obtain ⟨X, hX⟩ : ∃ X, (E.set q b).set (q + 1) a = X := ⟨_, rfl⟩
          have hXl : X.length = k := by rw [← hX, List.length_set, List.length_set, HLE.out]
          have o8 : OwnA w8 w4.heap.size 30 (some ⟨g, 0, none⟩) c6 X := by rw [← hw8, ← hX]; exact O8.out
          have b8 : Below w4.heap.size w4 w8 := by rw [← hw8]; exact B8.out
          rw [hw8]
          have s8 := o8.sl
          rw [hXl] at s8
          have ss8 := SS4.out.below b8
          have s1 := S4.out.step b8
          have hbw := HB4.out.trans (b8.mono HB4.out.size)
          have hunf : fairB [E, X] (stOf T) = false := by
            rw [← hX, ← HE.out]
            exact unfair_swap HM.out (by rw [HE.out]; exact HXA.out) (by rw [HE.out]; exact HXB.out) _
          clear hw8 O8 B8 SS4 S4 HB4 o8 b8 hga hgb hgb2 hfree hfree2 hX
          have SS := Lib.hid ss8; have S1 := Lib.hid s1; have S8 := Lib.hid s8; have HB := Lib.hid hbw; have HU := Lib.hid hunf
          clear ss8 s1 s8 hbw hunf
          go_wp2_with fail
          have hb2 : Below w8.heap.size w8 (w8.alloc (.cells #[.slice A1 k c1, .slice (some ⟨g, 0, none⟩) k c6] 22)).drew := ((Below.refl _ _).alloc (Nat.le_refl _) _).drew
          have hlg := LogsIs.new (w := w8) (t := 22) (cs := #[.slice A1 k c1, .slice (some ⟨g, 0, none⟩) k c6]) (n := 2) (p := w8.heap.size)
            (hs := [⟨A1, k, c1⟩, ⟨some ⟨g, 0, none⟩, k, c6⟩]) (ls := [E, X]) ⟨⟨S1.out, hc1, hm1⟩, ⟨S8.out, hc6, hm6⟩, trivial⟩ (Nat.le_refl _) rfl rfl rfl
          have hlg' : LogsIs (w8.alloc (.cells #[.slice A1 k c1, .slice (some ⟨g, 0, none⟩) k c6] 22)).drew (w8.heap.size + 1) (some ⟨w8.heap.size, 0, none⟩) 2 [E, X] := hlg
          refine (fair_any _ _ _ _ _ _ (stOf T) _ (by simpa using hlg') (SS.out.below hb2).is (by unfold maxLen; omega)).mono ?_
          rintro _ w9 ⟨rfl, hb9⟩
          rw [HU.out]
          have hbw9 := hb2.trans (hb9.mono hb2.size)
          have s9 := S8.out.step hbw9
          have hb9' := HB.out.trans (hbw9.mono HB.out.size)
          clear hlg hlg' hb2 hb9 hbw9 S8 HB S1 SS
          have S9 := Lib.hid s9; have HB9 := Lib.hid hb9'; clear s9 hb9'
          go_wp2_with fail
          have hb2 : Below w9.heap.size w9 (w9.alloc (.cells #[.slice (some ⟨g, 0, none⟩) k c6] 22)) := (Below.refl _ _).alloc (Nat.le_refl _) _
          have hlg := LogsIs.new (w := w9) (t := 22) (cs := #[.slice (some ⟨g, 0, none⟩) k c6]) (n := 1) (p := w9.heap.size)
            (hs := [⟨some ⟨g, 0, none⟩, k, c6⟩]) (ls := [X]) ⟨⟨S9.out, hc6, hm6⟩, trivial⟩ (Nat.le_refl _) rfl rfl rfl
          refine (fair_any _ _ _ _ _ _ _ _ (by simpa using hlg) (stampsNil _ _) (by unfold maxLen; omega)).mono ?_
          rintro _ w10 ⟨rfl, hb10⟩
          rw [fair_none]
          have hb10' := HB9.out.trans ((hb2.trans (hb10.mono hb2.size)).mono HB9.out.size)
          have HB10 := Lib.hid hb10'
          clear hlg hb2 hb10 HB9 S9 hb10'
          go_wp2_with fail
          refine (wakes_any _).mono ?_
          rintro _ w11 ⟨rfl, hb11⟩
          have HB11 := Lib.hid (HB10.out.trans (hb11.mono HB10.out.size)); clear hb11
          go_wp2_with fail
          go_ret
          exact ⟨rfl, HB11.out⟩
    · clear H HOX hk
      obtain ⟨E, hE⟩ : ∃ E, entL T = E := ⟨_, rfl⟩
      have hle : E.length = k := by rw [← hE]; simp [entL, HT.out]
      have ho0 := HO.out
      rw [hE] at ho0
      obtain ⟨A1, c1, hv, ho1, hc1, hm1⟩ := OwnS.ownA ho0
      have hs1 := ho1.sl
      rw [hle] at hv hc1 hs1
      subst hv
      have hst := HS.out.is
      have hdiv : (k : Int).tdiv 2 = ((k / 2 : Nat) : Int) := by rw [Int.tdiv_eq_ediv_of_nonneg (by omega)]; omega
      obtain ⟨z, hz⟩ : ∃ z, k / 2 = z := ⟨_, rfl⟩
      rw [hz] at hdiv
      have hzk : z ≤ k := by omega
      have HE := Lib.hid hE; have S1 := Lib.hid hs1; have ST := Lib.hid hst; have HLE := Lib.hid hle
      clear ho0 ho1 hE hs1 hst hle HO HT hz
      unfold maxLen at hm1
      clear ST
      go_wp2_with fail
      have hb2 : Below wr.heap.size wr (wr.alloc (.cells #[.slice A1 k c1, .slice A1 z c1] 22)) := (Below.refl _ _).alloc (Nat.le_refl _) _
      have hlg := LogsIs.new (w := wr) (t := 22) (cs := #[.slice A1 k c1, .slice A1 z c1]) (n := 2) (p := wr.heap.size)
        (hs := [⟨A1, k, c1⟩, ⟨A1, z, c1⟩]) (ls := [E, E.take z]) ⟨⟨S1.out, hc1, hm1⟩, ⟨S1.out.take hzk, by simp only; omega, hm1⟩, trivial⟩ (Nat.le_refl _) rfl rfl rfl
      refine (fair_any _ _ _ _ _ _ (stOf T) _ (by simpa using hlg) (HS.out.below hb2).is (by unfold maxLen; omega)).mono ?_
      rintro _ w4 ⟨rfl, hb4⟩
      rw [fair_entL HM.out [E, E.take z] (by
        intro l hl
        simp only [List.mem_cons, List.not_mem_nil, or_false] at hl
        rcases hl with rfl | rfl
        · exact ⟨l.length, by rw [HE.out]; simp⟩
        · exact ⟨z, by rw [HE.out]⟩)]
      have hbw4 := hb2.trans (hb4.mono hb2.size)
      have SS4 := Lib.hid (HS.out.below hbw4); have S4 := Lib.hid (S1.out.step hbw4); have HB4 := Lib.hid (HB.out.trans (hbw4.mono HB.out.size))
      clear hlg hbw4 hb2 hb4 HS S1 HB
      by_cases hk2 : k < 2
      · go_wp2_with fail
        refine (wakes_any _).mono ?_
        rintro _ w6 ⟨rfl, hb6⟩
        have HB6 := Lib.hid hb6; clear hb6
        go_wp2_with fail
        go_ret
        exact ⟨rfl, HB4.out.trans (HB6.out.mono HB4.out.size)⟩
      · go_wp2_with fail
        have hcp := copyEntry_is A1 c1 E w4 _ (HLE.out.symm ▸ S4.out) (by rw [HLE.out]; omega)
        rw [HLE.out] at hcp
        refine hcp.mono ?_
        clear hcp
        rintro _ w6 ⟨A6, c6, rfl, ho6, hb6, hc6, hm6⟩
        unfold maxLen at hm6
        obtain ⟨q, hq, hql⟩ : ∃ q : Nat, within v ((k : Int) - 1) = (q : Int) ∧ q + 1 < k := by
          unfold within
          rw [if_neg (by omega)]
          have h1 := Int.emod_nonneg v (b := (k : Int) - 1) (by omega)
          have h2 := Int.emod_lt_of_pos v (b := (k : Int) - 1) (by omega)
          exact ⟨(v % ((k : Int) - 1)).toNat, by omega, by omega⟩
        have hA6 : ∃ g, A6 = some ⟨g, 0, none⟩ ∧ w4.heap.size ≤ g ∧ g < w6.heap.size ∧ blkFree w6 g = true := by
          obtain ⟨A', c', hv, hs, _, _, hf⟩ := OwnS.shape ho6
          injection hv with hv1 _ _; subst hv1
          obtain ⟨ad, e, hb, _⟩ := hs.2 (by rw [HLE.out]; omega)
          obtain ⟨h1, h2, h3⟩ := hf ad e
          exact ⟨ad.block, by rw [e, ← h2], h1, hb, h3⟩
        obtain ⟨g, rfl, hg5, hg6, hfree⟩ := hA6
        obtain ⟨ad, a, hade, _, hxa, hga⟩ := ho6.sl.at_ (k := q) (by rw [HLE.out]; omega)
        injection hade with hade; subst hade
        obtain ⟨ad, b, hade, _, hxb, hgb⟩ := ho6.sl.at_ (k := q + 1) (by rw [HLE.out]; omega)
        injection hade with hade; subst hade
        obtain ⟨ho7, hfree7⟩ := ho6.put (k := q) (by rw [HLE.out]; omega) b
        obtain ⟨ho8, hfree8⟩ := ho7.put (k := q + 1) (by rw [List.length_set, HLE.out]; omega) a
        obtain ⟨ad, b', hade, _, hxb', hgb'⟩ := ho7.sl.at_ (k := q + 1) (by rw [List.length_set, HLE.out]; omega)
        injection hade with hade; subst hade
        simp only [add_zeroA, show Enc.n GEntry = 35 from rfl] at hga hgb hgb'
        rw [show Enc.n GEntry = 35 from rfl] at ho7 ho8 hfree7 hfree8
        have hb8 := putCells_below (o := (q + 1) * 35) (putCells_below (o := q * 35) ((Below.refl w4.heap.size w4).trans hb6) hg5 (Enc.enc b)) hg5 (Enc.enc a)
        have O8 := Lib.hid ho8; have B8 := Lib.hid hb8; have HXA := Lib.hid hxa; have HXB := Lib.hid hxb
        have hgb2 : get? GEntry (World.putCells w6 ⟨g, q * 35, none⟩ (GEntry.enc b)) ⟨g, (q + 1) * 35, none⟩ = some b' := hgb'
        have hfree2 : blkFree (World.putCells w6 ⟨g, q * 35, none⟩ (GEntry.enc b)) g = true := hfree7
        clear ho6 hb6 ho7 ho8 hb8 hxa hxb hxb' hgb' hfree7 hfree8
        go_wp2_with fail
        refine (within_is v ((k : Int) - 1) q _ hq (by omega) ha ha2).mono ?_
        rintro _ w7 ⟨rfl, rfl⟩
        go_wp2_with fail
        go_region
        obtain ⟨w8, hw8⟩ : ∃ w8, World.putCells (World.putCells w7 ⟨g, q * 35, none⟩ (GEntry.enc b)) ⟨g, (q + 1) * 35, none⟩ (GEntry.enc a) = w8 := ⟨_, rfl⟩
        obtain ⟨X, hX⟩ : ∃ X, (E.set q b).set (q + 1) a = X := ⟨_, rfl⟩
        have hXl : X.length = k := by rw [← hX, List.length_set, List.length_set, HLE.out]
        have o8 : OwnA w8 w4.heap.size 30 (some ⟨g, 0, none⟩) c6 X := by rw [← hw8, ← hX]; exact O8.out
        have b8 : Below w4.heap.size w4 w8 := by rw [← hw8]; exact B8.out
        rw [hw8]
        have s8 := o8.sl
        rw [hXl] at s8
        have ss8 := SS4.out.below b8
        have s1 := S4.out.step b8
        have hbw := HB4.out.trans (b8.mono HB4.out.size)
        have hunf : fairB [E, X] (stOf T) = false := by
          rw [← hX, ← HE.out]
          exact unfair_swap HM.out (by rw [HE.out]; exact HXA.out) (by rw [HE.out]; exact HXB.out) _
        clear hw8 O8 B8 SS4 S4 HB4 o8 b8 hga hgb hgb2 hfree hfree2 hX
        have SS := Lib.hid ss8; have S1 := Lib.hid s1; have S8 := Lib.hid s8; have HB := Lib.hid hbw; have HU := Lib.hid hunf
        clear ss8 s1 s8 hbw hunf
        go_wp2_with fail
        have hb2 : Below w8.heap.size w8 (w8.alloc (.cells #[.slice A1 k c1, .slice (some ⟨g, 0, none⟩) k c6] 22)).drew := ((Below.refl _ _).alloc (Nat.le_refl _) _).drew
        have hlg := LogsIs.new (w := w8) (t := 22) (cs := #[.slice A1 k c1, .slice (some ⟨g, 0, none⟩) k c6]) (n := 2) (p := w8.heap.size)
          (hs := [⟨A1, k, c1⟩, ⟨some ⟨g, 0, none⟩, k, c6⟩]) (ls := [E, X]) ⟨⟨S1.out, hc1, hm1⟩, ⟨S8.out, hc6, hm6⟩, trivial⟩ (Nat.le_refl _) rfl rfl rfl
        have hlg' : LogsIs (w8.alloc (.cells #[.slice A1 k c1, .slice (some ⟨g, 0, none⟩) k c6] 22)).drew (w8.heap.size + 1) (some ⟨w8.heap.size, 0, none⟩) 2 [E, X] := hlg
        refine (fair_any _ _ _ _ _ _ (stOf T) _ (by simpa using hlg') (SS.out.below hb2).is (by unfold maxLen; omega)).mono ?_
        rintro _ w9 ⟨rfl, hb9⟩
        rw [HU.out]
        have hbw9 := hb2.trans (hb9.mono hb2.size)
        have s9 := S8.out.step hbw9
        have hb9' := HB.out.trans (hbw9.mono HB.out.size)
        clear hlg hlg' hb2 hb9 hbw9 S8 HB S1 SS
        have S9 := Lib.hid s9; have HB9 := Lib.hid hb9'; clear s9 hb9'
        go_wp2_with fail
        have hb2 : Below w9.heap.size w9 (w9.alloc (.cells #[.slice (some ⟨g, 0, none⟩) k c6] 22)) := (Below.refl _ _).alloc (Nat.le_refl _) _
        have hlg := LogsIs.new (w := w9) (t := 22) (cs := #[.slice (some ⟨g, 0, none⟩) k c6]) (n := 1) (p := w9.heap.size)
          (hs := [⟨some ⟨g, 0, none⟩, k, c6⟩]) (ls := [X]) ⟨⟨S9.out, hc6, hm6⟩, trivial⟩ (Nat.le_refl _) rfl rfl rfl
        refine (fair_any _ _ _ _ _ _ _ _ (by simpa using hlg) (stampsNil _ _) (by unfold maxLen; omega)).mono ?_
        rintro _ w10 ⟨rfl, hb10⟩
        rw [fair_none]
        have hb10' := HB9.out.trans ((hb2.trans (hb10.mono hb2.size)).mono HB9.out.size)
        have HB10 := Lib.hid hb10'
        clear hlg hb2 hb10 HB9 S9 hb10'
        go_wp2_with fail
        refine (wakes_any _).mono ?_
        rintro _ w11 ⟨rfl, hb11⟩
        have HB11 := Lib.hid (HB10.out.trans (hb11.mono HB10.out.size)); clear hb11
        go_wp2_with fail
        go_ret
        exact ⟨rfl, HB11.out⟩
end Go.Proofs.Yteockodnfempfaa
