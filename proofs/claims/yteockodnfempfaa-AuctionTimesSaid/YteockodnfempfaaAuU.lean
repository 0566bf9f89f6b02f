/- AuctionTimes returns true, walked. Conditions: those named in each theorem. -/
import Derived.Test.YteockodnfempfaaAuT
import Derived.Test.YteockodnfempfaaAudG
namespace Go.Proofs.Yteockodnfempfaa
open Go Go.RowKit Go.Gv Go.Sort

theorem result_is (x : GAuctionResult) (c : Int) (p : Addr) (r : Nat) (H : MHouse) (name : ByteArray) (w : World) (h : resultR H name = (x, c)) (hH : HouseIs w p r H) :
    Calls Try.prog 40 #[.pointer (some p), .string name] w fun e w' => e = .returned (.tuple #[x.val, .int .i64 c]) ∧ Bel w w' := by
  have := result_any p r H name w hH
  rw [h] at this; exact this
theorem resultR_one (k : ByteArray) (x : MSale) : resultR [(k, x)] k = if x.settled = true then (x.result, 0) else (default, 12) := by unfold resultR; rw [mget_one]
theorem times_end (y z : Int) (hz : 0 ≤ z) : endR ((newSale ⟨#[113]⟩ false 0 (1 + y)).bid 3 (1 + z)) = ⟨⟨#[113]⟩, 3, 1 + z⟩ := by
  have h : atLeast ((newSale ⟨#[113]⟩ false 0 (1 + y)).bid 3 (1 + z)) = [] ++ (⟨3, 1 + z⟩ : GAuctionBid) :: [] := by
    unfold atLeast newSale MSale.bid
    have : (0 : Int) ≤ 1 + z := by omega
    simp [this]
  rw [endR_first h (by simp) (by simp)]
  rfl
theorem open_r (x : MSale) (y : Int) : openR [(⟨#[113]⟩, x)] ⟨#[114]⟩ 0 y y = 4 := by
  have h1 : mget [((⟨#[113]⟩ : ByteArray), x)] ⟨#[114]⟩ = none := by rw [mget_cons, if_neg (show ¬ (⟨#[113]⟩ : ByteArray) = ⟨#[114]⟩ by decide)]; rfl
  have h2 : badOpen ⟨#[114]⟩ 0 = false := by decide
  unfold openR
  rw [h1, h2]
  simp
set_option maxRecDepth 100000 in
set_option maxHeartbeats 4000000 in
theorem times_any (c0 a0 l0 n0 : Int) (w : World) (hc0 : 0 ≤ c0) (hc1 : c0 ≤ 18446744073709551615) (ha0 : 0 ≤ a0) (ha1 : a0 ≤ 18446744073709551615) (hl0 : 0 ≤ l0) (hl1 : l0 ≤ 18446744073709551615) (hn1 : -9223372036854775808 ≤ n0) (hn2 : n0 ≤ 9223372036854775807) :
    Calls Try.prog 11 #[.int .u64 c0, .int .u64 a0, .int .u64 l0, .int .i64 n0] w fun e w' => e = .returned (.bool true) ∧ Bel w w' := by
  have t1 : c0.tmod 50 = c0 % 50 := Int.tmod_eq_emod_of_nonneg hc0
  have t2 : a0.tmod 60 = a0 % 60 := Int.tmod_eq_emod_of_nonneg ha0
  have t3 : l0.tmod 90 = l0 % 90 := Int.tmod_eq_emod_of_nonneg hl0
  have u1 := Int.emod_nonneg c0 (b := 50) (by omega)
  have u2 := Int.emod_lt_of_pos c0 (b := 50) (by omega)
  have u3 := Int.emod_nonneg a0 (b := 60) (by omega)
  have u4 := Int.emod_lt_of_pos a0 (b := 60) (by omega)
  have u5 := Int.emod_nonneg l0 (b := 90) (by omega)
  have u6 := Int.emod_lt_of_pos l0 (b := 90) (by omega)
  obtain ⟨z, hz, hz0, hz1⟩ : ∃ z, within n0 99 = z ∧ 0 ≤ z ∧ z < 99 := by
    refine ⟨_, rfl, ?_, ?_⟩ <;> unfold within <;> rw [if_neg (by omega)]
    · exact Int.emod_nonneg _ (by omega)
    · exact Int.emod_lt_of_pos _ (by omega)
  obtain ⟨y1, e1⟩ : ∃ y, c0 % 50 = y := ⟨_, rfl⟩
  obtain ⟨y2, e2⟩ : ∃ y, a0 % 60 = y := ⟨_, rfl⟩
  obtain ⟨y3, e3⟩ : ∃ y, l0 % 90 = y := ⟨_, rfl⟩
  rw [e1] at t1 u1 u2; rw [e2] at t2 u3 u4; rw [e3] at t3 u5 u6
  have HZ := Lib.hid hz
  clear e1 e2 e3 hz
  have HO := Lib.hid (open_first (name := ⟨#[113]⟩) (reserve := 0) (close := 1 + y1) (now := 0) rfl (by omega) (by omega) (by omega))
  have HO5 := Lib.hid (open_there (k := ⟨#[113]⟩) (x := newSale ⟨#[113]⟩ false 0 (1 + y1)) (reserve := 0) (close := 1 + y1) (now := 0) rfl (by omega) (by omega))
  have HO4 := Lib.hid (open_r (newSale ⟨#[113]⟩ false 0 (1 + y1)) (1 + y1))
  by_cases hat : y2 ≤ 1 + y1
  · by_cases hlate : 1 + y1 < y3
    · go_enter Try.func11, Try.ntmps11
      go_wp2_with fail
      refine (within_is n0 99 z _ HZ.out (by omega) hn1 hn2).mono ?_
      rintro _ w0 ⟨rfl, rfl⟩
      go_wp2_with fail
      refine (new_any _).mono ?_
      rintro _ w1 ⟨g, r, rfl, hH, hg, hr, hne, hlt, hb⟩
      have HH := Lib.hid hH; have HB := Lib.hid hb; clear hH hb
      go_wp2_with fail
      refine (open_is 0 _ ⟨g, 0, none⟩ r [] ⟨#[113]⟩ false 0 (1 + y1) 0 _ HO.out (open_first_H HO.out) HH.out hne (by decide) (by decide)).mono ?_
      rintro _ w2 ⟨rfl, hH, hg2⟩
      have HH2 := Lib.hid hH; have HB2 := Lib.hid (HB.out.gxb hg2 hr); clear hH hg2 HH HB
      go_wp2_with fail
      refine (open_is 5 _ ⟨g, 0, none⟩ r _ ⟨#[113]⟩ true 0 (1 + y1) 0 _ HO5.out (openH_no (by rw [HO5.out]; decide)) HH2.out hne (by decide) (by unfold maxLen; simp)).mono ?_
      rintro _ w3 ⟨rfl, hH, hg2⟩
      have HH3 := Lib.hid hH; have HB3 := Lib.hid (HB2.out.gxb hg2 hr); clear hH hg2 HH2 HB2
      go_wp2_with fail
      refine (open_is 4 _ ⟨g, 0, none⟩ r _ ⟨#[114]⟩ true 0 (1 + y1) (1 + y1) _ HO4.out (openH_no (by rw [HO4.out]; decide)) HH3.out hne (by decide) (by unfold maxLen; simp)).mono ?_
      rintro _ w4 ⟨rfl, hH, hg2⟩
      have HH4 := Lib.hid hH; have HB4 := Lib.hid (HB3.out.gxb hg2 hr); clear hH hg2 HH3 HB3
      go_wp2_with fail
      refine (bid_one ⟨g, 0, none⟩ r ⟨#[113]⟩ (newSale ⟨#[113]⟩ false 0 (1 + y1)) 3 (1 + z) y2 _ HH4.out hne rfl hat (by decide) (by decide) (by omega) (by omega) rfl (Nat.zero_le _)).mono ?_
      rintro _ w5 ⟨rfl, hH, hg2⟩
      have HH5 := Lib.hid hH; have HB5 := Lib.hid (HB4.out.gxb hg2 hr); clear hH hg2 HH4 HB4
      go_wp2_with fail
      refine (settle_due ⟨g, 0, none⟩ r ⟨#[113]⟩ ((newSale ⟨#[113]⟩ false 0 (1 + y1)).bid 3 (1 + z)) y3 _ HH5.out hne rfl rfl (by show (1 : Int) + y1 < y3; omega) (by show 1 < 20; decide)).mono ?_
      rintro _ w6 ⟨g6, c6, rfl, hget, hg6, hH, hg2⟩
      have hg6r : g6 ≠ r := by have := HH5.out.2.lt; omega
      have HG6 := Lib.hid hget; clear hget
      have HH6 := Lib.hid hH; have HB6 := Lib.hid (HB5.out.gxb hg2 hr); clear hH hg2 HH5 HB5
      go_wp2_with fail
      have hE : endR ((newSale ⟨#[113]⟩ false 0 (1 + y1)).bid 3 (1 + z)) = (⟨⟨#[113]⟩, 3, 1 + z⟩ : GAuctionResult) := times_end y1 z (by omega)
      have HE := Lib.hid hE; clear hE
      refine (result_is (⟨⟨#[113]⟩, 3, 1 + z⟩ : GAuctionResult) 0 ⟨g, 0, none⟩ r _ ⟨#[113]⟩ _ (by rw [resultR_one, if_pos (show (doneM ((newSale ⟨#[113]⟩ false 0 (1 + y1)).bid 3 (1 + z))).settled = true from rfl)]; show (endR ((newSale ⟨#[113]⟩ false 0 (1 + y1)).bid 3 (1 + z)), (0 : Int)) = _; rw [HE.out]) HH6.out).mono ?_
      rintro _ w7 ⟨rfl, hb7⟩
      have HH7 := Lib.hid (HH6.out.step hb7); have HB7 := Lib.hid (HB6.out.trans hb7); have HG7 := Lib.hid (GB.get hb7 HG6.out); clear HH6 HB6 HG6 hb7
      go_wp2_with fail
      have hr7 : r < w7.heap.size := HH7.out.2.lt
      refine (bid_no ⟨g, 0, none⟩ r ⟨#[113]⟩ (doneM ((newSale ⟨#[113]⟩ false 0 (1 + y1)).bid 3 (1 + z))) 4 (1 + z + 1) 0 _ (HH7.out.step ((Bel.refl _).alloc _)) hne (.inl rfl) (by show 1 ≤ 1000; decide)).mono ?_
      rintro _ w8 ⟨rfl, hH, hg8⟩
      have HH8 := Lib.hid hH; have HB8 := Lib.hid ((HB7.out.alloc _).gxb hg8 hr)
      have HX8 := Lib.hid (GX.getS hg8 (get?_new (w := w7) 59 (⟨⟨#[113]⟩, 3, 1 + z⟩ : GAuctionResult)) (by show w7.heap.size ≠ r; omega))
      have HG8 := Lib.hid (GX.getS hg8 (get?_alloc _ HG7.out) hg6r)
      clear hH hg8 HH7 HB7 HG7
      go_wp2_with fail
      refine (settle_not ⟨g, 0, none⟩ r ⟨#[113]⟩ (doneM ((newSale ⟨#[113]⟩ false 0 (1 + y1)).bid 3 (1 + z))) (y3 + 5) _ HH8.out hne rfl (.inl rfl) (by show 1 < 20; decide)).mono ?_
      rintro _ w9 ⟨A9, c9, rfl, hH, hg9⟩
      have HH9 := Lib.hid hH; have HB9 := Lib.hid (HB8.out.gxb hg9 hr); have HX9 := Lib.hid (GX.getS hg9 HX8.out (by show w7.heap.size ≠ r; omega)); have HG9 := Lib.hid (GX.getS hg9 HG8.out hg6r)
      clear hH hg9 HH8 HB8 HG8 HX8
      go_wp2_with fail
      refine (result_is (⟨⟨#[113]⟩, 3, 1 + z⟩ : GAuctionResult) 0 ⟨g, 0, none⟩ r _ ⟨#[113]⟩ _ (by rw [resultR_one, if_pos (show (doneM ((newSale ⟨#[113]⟩ false 0 (1 + y1)).bid 3 (1 + z))).settled = true from rfl)]; show (endR ((newSale ⟨#[113]⟩ false 0 (1 + y1)).bid 3 (1 + z)), (0 : Int)) = _; rw [HE.out]) HH9.out).mono ?_
      rintro _ w10 ⟨rfl, hb10⟩
      have HB10 := Lib.hid (HB9.out.trans hb10); have HG10 := Lib.hid (GB.get hb10 HG9.out); have HX10 := Lib.hid (GB.get hb10 HX9.out); clear HH9 HB9 HG9 HX9 hb10
      go_wp2_with fail
      have k1 := get?_alloc (.cells (GAuctionResult.enc (⟨⟨#[113]⟩, 3, 1 + z⟩ : GAuctionResult)).toArray 59) HX10.out
      have k2 := get?_new (w := w10) 59 (⟨⟨#[113]⟩, 3, 1 + z⟩ : GAuctionResult)
      have k3 := get?_alloc (.cells (GAuctionResult.enc (⟨⟨#[113]⟩, 3, 1 + z⟩ : GAuctionResult)).toArray 59) HG10.out
      have k4 : (w10.alloc (.cells (GAuctionResult.enc (⟨⟨#[113]⟩, 3, 1 + z⟩ : GAuctionResult)).toArray 59)).cell? ⟨w7.heap.size, 1, none⟩ = some (.int .i64 3) := by simpa using cell_off (by omega) (GAuctionResult.at_winner k1)
      have HB11 := Lib.hid (HB10.out.alloc (.cells (GAuctionResult.enc (⟨⟨#[113]⟩, 3, 1 + z⟩ : GAuctionResult)).toArray 59))
      rw [HE.out] at k3
      generalize w10.alloc (.cells (GAuctionResult.enc (⟨⟨#[113]⟩, 3, 1 + z⟩ : GAuctionResult)).toArray 59) = w11 at k1 k2 k3 k4 HB11 ⊢
      refine wp_region_G GB [] GB.rf (by kernel_rfl) ?_
      refine wpG_looks 0 37 [0,1,2,3,4,5,6,7,8,9,10,11,12,13,14,15,16,17,18,19,20,21,22,23,24,25,26,27,28,29,30,31,32,33,34,35,36] rfl GB.rf GB.tr (by kernel_rfl) (fun _ _ _ _ hd h => And.intro (hd ▸ And.left h) (And.right h)) rfl (by kernel_rfl) ?_
      intro ι W hne2 CW
      have g1 := fun z => (CW.out z).get k1
      have g2 := fun z => (CW.out z).get k2
      have g3 := fun z => (CW.out z).get k3
      have g4 := fun z => (CW.out z).cell k4
      repeat (refine wpLooksG_step (fun K hK => ?_); go_simp; refine hK _ ?_; clear hK K)
      refine wpLooksG_step (fun K hK => ?_); go_simp
      refine ⟨_, fun z => (wakesA_any (W z)).mono (fun _ _ h => h), hK _ ?_⟩
      clear hK K
      repeat (refine wpLooksG_step (fun K hK => ?_); go_simp; refine hK _ ?_; clear hK K)
      refine wpLooksG_nil ?_
      clear g1 g2 g3 g4 CW hne2 W ι
      refine wpG_end (by kernel_rfl) (fun wn hwn => ?_) _
      have HBN := Lib.hid (HB11.out.trans hwn.undrew); clear hwn
      go_wp2
      go_ret
      exact ⟨rfl, HBN.out⟩
    · go_enter Try.func11, Try.ntmps11
      go_wp2_with fail
      refine (within_is n0 99 z _ HZ.out (by omega) hn1 hn2).mono ?_
      rintro _ w0 ⟨rfl, rfl⟩
      go_wp2_with fail
      refine (new_any _).mono ?_
      rintro _ w1 ⟨g, r, rfl, hH, hg, hr, hne, hlt, hb⟩
      have HH := Lib.hid hH; have HB := Lib.hid hb; clear hH hb
      go_wp2_with fail
      refine (open_is 0 _ ⟨g, 0, none⟩ r [] ⟨#[113]⟩ false 0 (1 + y1) 0 _ HO.out (open_first_H HO.out) HH.out hne (by decide) (by decide)).mono ?_
      rintro _ w2 ⟨rfl, hH, hg2⟩
      have HH2 := Lib.hid hH; have HB2 := Lib.hid (HB.out.gxb hg2 hr); clear hH hg2 HH HB
      go_wp2_with fail
      refine (open_is 5 _ ⟨g, 0, none⟩ r _ ⟨#[113]⟩ true 0 (1 + y1) 0 _ HO5.out (openH_no (by rw [HO5.out]; decide)) HH2.out hne (by decide) (by unfold maxLen; simp)).mono ?_
      rintro _ w3 ⟨rfl, hH, hg2⟩
      have HH3 := Lib.hid hH; have HB3 := Lib.hid (HB2.out.gxb hg2 hr); clear hH hg2 HH2 HB2
      go_wp2_with fail
      refine (open_is 4 _ ⟨g, 0, none⟩ r _ ⟨#[114]⟩ true 0 (1 + y1) (1 + y1) _ HO4.out (openH_no (by rw [HO4.out]; decide)) HH3.out hne (by decide) (by unfold maxLen; simp)).mono ?_
      rintro _ w4 ⟨rfl, hH, hg2⟩
      have HH4 := Lib.hid hH; have HB4 := Lib.hid (HB3.out.gxb hg2 hr); clear hH hg2 HH3 HB3
      go_wp2_with fail
      refine (bid_one ⟨g, 0, none⟩ r ⟨#[113]⟩ (newSale ⟨#[113]⟩ false 0 (1 + y1)) 3 (1 + z) y2 _ HH4.out hne rfl hat (by decide) (by decide) (by omega) (by omega) rfl (Nat.zero_le _)).mono ?_
      rintro _ w5 ⟨rfl, hH, hg2⟩
      have HH5 := Lib.hid hH; have HB5 := Lib.hid (HB4.out.gxb hg2 hr); clear hH hg2 HH4 HB4
      go_wp2_with fail
      refine (settle_not ⟨g, 0, none⟩ r ⟨#[113]⟩ ((newSale ⟨#[113]⟩ false 0 (1 + y1)).bid 3 (1 + z)) y3 _ HH5.out hne rfl (.inr (by show y3 ≤ (1 : Int) + y1; omega)) (by show 1 < 20; decide)).mono ?_
      rintro _ w6 ⟨A6, c6, rfl, hH, hg2⟩
      have HH6 := Lib.hid hH; have HB6 := Lib.hid (HB5.out.gxb hg2 hr); clear hH hg2 HH5 HB5
      go_wp2_with fail
      refine (result_is default 12 ⟨g, 0, none⟩ r _ ⟨#[113]⟩ _ (by rw [resultR_one, if_neg (show ¬ ((newSale ⟨#[113]⟩ false 0 (1 + y1)).bid 3 (1 + z)).settled = true from fun h => by cases h)]) HH6.out).mono ?_
      rintro _ w7 ⟨rfl, hb7⟩
      have HB7 := Lib.hid (HB6.out.trans hb7); clear HH6 HB6 hb7
      go_wp2_with fail
      refine (wakesA_any _).mono ?_
      rintro _ w8 ⟨rfl, hb8⟩
      have HB8 := Lib.hid ((HB7.out.alloc _).trans hb8); clear hb8
      go_wp2_with fail
      go_ret
      exact ⟨rfl, HB8.out⟩
  · by_cases hlate : 1 + y1 < y3
    · go_enter Try.func11, Try.ntmps11
      go_wp2_with fail
      refine (within_is n0 99 z _ HZ.out (by omega) hn1 hn2).mono ?_
      rintro _ w0 ⟨rfl, rfl⟩
      go_wp2_with fail
      refine (new_any _).mono ?_
      rintro _ w1 ⟨g, r, rfl, hH, hg, hr, hne, hlt, hb⟩
      have HH := Lib.hid hH; have HB := Lib.hid hb; clear hH hb
      go_wp2_with fail
      refine (open_is 0 _ ⟨g, 0, none⟩ r [] ⟨#[113]⟩ false 0 (1 + y1) 0 _ HO.out (open_first_H HO.out) HH.out hne (by decide) (by decide)).mono ?_
      rintro _ w2 ⟨rfl, hH, hg2⟩
      have HH2 := Lib.hid hH; have HB2 := Lib.hid (HB.out.gxb hg2 hr); clear hH hg2 HH HB
      go_wp2_with fail
      refine (open_is 5 _ ⟨g, 0, none⟩ r _ ⟨#[113]⟩ true 0 (1 + y1) 0 _ HO5.out (openH_no (by rw [HO5.out]; decide)) HH2.out hne (by decide) (by unfold maxLen; simp)).mono ?_
      rintro _ w3 ⟨rfl, hH, hg2⟩
      have HH3 := Lib.hid hH; have HB3 := Lib.hid (HB2.out.gxb hg2 hr); clear hH hg2 HH2 HB2
      go_wp2_with fail
      refine (open_is 4 _ ⟨g, 0, none⟩ r _ ⟨#[114]⟩ true 0 (1 + y1) (1 + y1) _ HO4.out (openH_no (by rw [HO4.out]; decide)) HH3.out hne (by decide) (by unfold maxLen; simp)).mono ?_
      rintro _ w4 ⟨rfl, hH, hg2⟩
      have HH4 := Lib.hid hH; have HB4 := Lib.hid (HB3.out.gxb hg2 hr); clear hH hg2 HH3 HB3
      go_wp2_with fail
      refine (bid_no ⟨g, 0, none⟩ r ⟨#[113]⟩ (newSale ⟨#[113]⟩ false 0 (1 + y1)) 3 (1 + z) y2 _ HH4.out hne (.inr (by show (1 : Int) + y1 < y2; omega)) (Nat.zero_le _)).mono ?_
      rintro _ w5 ⟨rfl, hH, hg2⟩
      have HH5 := Lib.hid hH; have HB5 := Lib.hid (HB4.out.gxb hg2 hr); clear hH hg2 HH4 HB4
      go_wp2_with fail
      refine (settle_due ⟨g, 0, none⟩ r ⟨#[113]⟩ ((newSale ⟨#[113]⟩ false 0 (1 + y1))) y3 _ HH5.out hne rfl rfl (by show (1 : Int) + y1 < y3; omega) (by show 0 < 20; decide)).mono ?_
      rintro _ w6 ⟨g6, c6, rfl, hget, hg6, hH, hg2⟩
      have hg6r : g6 ≠ r := by have := HH5.out.2.lt; omega
      have HG6 := Lib.hid hget; clear hget
      have HH6 := Lib.hid hH; have HB6 := Lib.hid (HB5.out.gxb hg2 hr); clear hH hg2 HH5 HB5
      go_wp2_with fail
      have hE : endR ((newSale ⟨#[113]⟩ false 0 (1 + y1))) = (⟨⟨#[113]⟩, -1, 0⟩ : GAuctionResult) := endR_none rfl
      have HE := Lib.hid hE; clear hE
      refine (result_is (⟨⟨#[113]⟩, -1, 0⟩ : GAuctionResult) 0 ⟨g, 0, none⟩ r _ ⟨#[113]⟩ _ (by rw [resultR_one, if_pos (show (doneM ((newSale ⟨#[113]⟩ false 0 (1 + y1)))).settled = true from rfl)]; show (endR ((newSale ⟨#[113]⟩ false 0 (1 + y1))), (0 : Int)) = _; rw [HE.out]) HH6.out).mono ?_
      rintro _ w7 ⟨rfl, hb7⟩
      have HH7 := Lib.hid (HH6.out.step hb7); have HB7 := Lib.hid (HB6.out.trans hb7); have HG7 := Lib.hid (GB.get hb7 HG6.out); clear HH6 HB6 HG6 hb7
      go_wp2_with fail
      have hr7 : r < w7.heap.size := HH7.out.2.lt
      refine (bid_no ⟨g, 0, none⟩ r ⟨#[113]⟩ (doneM ((newSale ⟨#[113]⟩ false 0 (1 + y1)))) 4 (1 + z + 1) 0 _ (HH7.out.step ((Bel.refl _).alloc _)) hne (.inl rfl) (by show 0 ≤ 1000; decide)).mono ?_
      rintro _ w8 ⟨rfl, hH, hg8⟩
      have HH8 := Lib.hid hH; have HB8 := Lib.hid ((HB7.out.alloc _).gxb hg8 hr)
      have HX8 := Lib.hid (GX.getS hg8 (get?_new (w := w7) 59 (⟨⟨#[113]⟩, -1, 0⟩ : GAuctionResult)) (by show w7.heap.size ≠ r; omega))
      have HG8 := Lib.hid (GX.getS hg8 (get?_alloc _ HG7.out) hg6r)
      clear hH hg8 HH7 HB7 HG7
      go_wp2_with fail
      refine (settle_not ⟨g, 0, none⟩ r ⟨#[113]⟩ (doneM ((newSale ⟨#[113]⟩ false 0 (1 + y1)))) (y3 + 5) _ HH8.out hne rfl (.inl rfl) (by show 0 < 20; decide)).mono ?_
      rintro _ w9 ⟨A9, c9, rfl, hH, hg9⟩
      have HH9 := Lib.hid hH; have HB9 := Lib.hid (HB8.out.gxb hg9 hr); have HX9 := Lib.hid (GX.getS hg9 HX8.out (by show w7.heap.size ≠ r; omega)); have HG9 := Lib.hid (GX.getS hg9 HG8.out hg6r)
      clear hH hg9 HH8 HB8 HG8 HX8
      go_wp2_with fail
      refine (result_is (⟨⟨#[113]⟩, -1, 0⟩ : GAuctionResult) 0 ⟨g, 0, none⟩ r _ ⟨#[113]⟩ _ (by rw [resultR_one, if_pos (show (doneM ((newSale ⟨#[113]⟩ false 0 (1 + y1)))).settled = true from rfl)]; show (endR ((newSale ⟨#[113]⟩ false 0 (1 + y1))), (0 : Int)) = _; rw [HE.out]) HH9.out).mono ?_
      rintro _ w10 ⟨rfl, hb10⟩
      have HB10 := Lib.hid (HB9.out.trans hb10); have HG10 := Lib.hid (GB.get hb10 HG9.out); have HX10 := Lib.hid (GB.get hb10 HX9.out); clear HH9 HB9 HG9 HX9 hb10
      go_wp2_with fail
      have k1 := get?_alloc (.cells (GAuctionResult.enc (⟨⟨#[113]⟩, -1, 0⟩ : GAuctionResult)).toArray 59) HX10.out
      have k2 := get?_new (w := w10) 59 (⟨⟨#[113]⟩, -1, 0⟩ : GAuctionResult)
      have k3 := get?_alloc (.cells (GAuctionResult.enc (⟨⟨#[113]⟩, -1, 0⟩ : GAuctionResult)).toArray 59) HG10.out
      have k4 : (w10.alloc (.cells (GAuctionResult.enc (⟨⟨#[113]⟩, -1, 0⟩ : GAuctionResult)).toArray 59)).cell? ⟨w7.heap.size, 1, none⟩ = some (.int .i64 (-1)) := by simpa using cell_off (by omega) (GAuctionResult.at_winner k1)
      have HB11 := Lib.hid (HB10.out.alloc (.cells (GAuctionResult.enc (⟨⟨#[113]⟩, -1, 0⟩ : GAuctionResult)).toArray 59))
      rw [HE.out] at k3
      generalize w10.alloc (.cells (GAuctionResult.enc (⟨⟨#[113]⟩, -1, 0⟩ : GAuctionResult)).toArray 59) = w11 at k1 k2 k3 k4 HB11 ⊢
      refine wp_region_G GB [] GB.rf (by kernel_rfl) ?_
      refine wpG_looks 0 37 [0,1,2,3,4,5,6,7,8,9,10,11,12,13,14,15,16,17,18,19,20,21,22,23,24,25,26,27,28,29,30,31,32,33,34,35,36] rfl GB.rf GB.tr (by kernel_rfl) (fun _ _ _ _ hd h => And.intro (hd ▸ And.left h) (And.right h)) rfl (by kernel_rfl) ?_
      intro ι W hne2 CW
      have g1 := fun z => (CW.out z).get k1
      have g2 := fun z => (CW.out z).get k2
      have g3 := fun z => (CW.out z).get k3
      have g4 := fun z => (CW.out z).cell k4
      repeat (refine wpLooksG_step (fun K hK => ?_); go_simp; refine hK _ ?_; clear hK K)
      refine wpLooksG_step (fun K hK => ?_); go_simp
      refine ⟨_, fun z => (wakesA_any (W z)).mono (fun _ _ h => h), hK _ ?_⟩
      clear hK K
      repeat (refine wpLooksG_step (fun K hK => ?_); go_simp; refine hK _ ?_; clear hK K)
      refine wpLooksG_nil ?_
      clear g1 g2 g3 g4 CW hne2 W ι
      refine wpG_end (by kernel_rfl) (fun wn hwn => ?_) _
      have HBN := Lib.hid (HB11.out.trans hwn.undrew); clear hwn
      go_wp2
      go_ret
      exact ⟨rfl, HBN.out⟩
    · go_enter Try.func11, Try.ntmps11
      go_wp2_with fail
      refine (within_is n0 99 z _ HZ.out (by omega) hn1 hn2).mono ?_
      rintro _ w0 ⟨rfl, rfl⟩
      go_wp2_with fail
      refine (new_any _).mono ?_
      rintro _ w1 ⟨g, r, rfl, hH, hg, hr, hne, hlt, hb⟩
      have HH := Lib.hid hH; have HB := Lib.hid hb; clear hH hb
      go_wp2_with fail
      refine (open_is 0 _ ⟨g, 0, none⟩ r [] ⟨#[113]⟩ false 0 (1 + y1) 0 _ HO.out (open_first_H HO.out) HH.out hne (by decide) (by decide)).mono ?_
      rintro _ w2 ⟨rfl, hH, hg2⟩
      have HH2 := Lib.hid hH; have HB2 := Lib.hid (HB.out.gxb hg2 hr); clear hH hg2 HH HB
      go_wp2_with fail
      refine (open_is 5 _ ⟨g, 0, none⟩ r _ ⟨#[113]⟩ true 0 (1 + y1) 0 _ HO5.out (openH_no (by rw [HO5.out]; decide)) HH2.out hne (by decide) (by unfold maxLen; simp)).mono ?_
      rintro _ w3 ⟨rfl, hH, hg2⟩
      have HH3 := Lib.hid hH; have HB3 := Lib.hid (HB2.out.gxb hg2 hr); clear hH hg2 HH2 HB2
      go_wp2_with fail
      refine (open_is 4 _ ⟨g, 0, none⟩ r _ ⟨#[114]⟩ true 0 (1 + y1) (1 + y1) _ HO4.out (openH_no (by rw [HO4.out]; decide)) HH3.out hne (by decide) (by unfold maxLen; simp)).mono ?_
      rintro _ w4 ⟨rfl, hH, hg2⟩
      have HH4 := Lib.hid hH; have HB4 := Lib.hid (HB3.out.gxb hg2 hr); clear hH hg2 HH3 HB3
      go_wp2_with fail
      refine (bid_no ⟨g, 0, none⟩ r ⟨#[113]⟩ (newSale ⟨#[113]⟩ false 0 (1 + y1)) 3 (1 + z) y2 _ HH4.out hne (.inr (by show (1 : Int) + y1 < y2; omega)) (Nat.zero_le _)).mono ?_
      rintro _ w5 ⟨rfl, hH, hg2⟩
      have HH5 := Lib.hid hH; have HB5 := Lib.hid (HB4.out.gxb hg2 hr); clear hH hg2 HH4 HB4
      go_wp2_with fail
      refine (settle_not ⟨g, 0, none⟩ r ⟨#[113]⟩ ((newSale ⟨#[113]⟩ false 0 (1 + y1))) y3 _ HH5.out hne rfl (.inr (by show y3 ≤ (1 : Int) + y1; omega)) (by show 0 < 20; decide)).mono ?_
      rintro _ w6 ⟨A6, c6, rfl, hH, hg2⟩
      have HH6 := Lib.hid hH; have HB6 := Lib.hid (HB5.out.gxb hg2 hr); clear hH hg2 HH5 HB5
      go_wp2_with fail
      refine (result_is default 12 ⟨g, 0, none⟩ r _ ⟨#[113]⟩ _ (by rw [resultR_one, if_neg (show ¬ ((newSale ⟨#[113]⟩ false 0 (1 + y1))).settled = true from fun h => by cases h)]) HH6.out).mono ?_
      rintro _ w7 ⟨rfl, hb7⟩
      have HB7 := Lib.hid (HB6.out.trans hb7); clear HH6 HB6 hb7
      go_wp2_with fail
      refine (wakesA_any _).mono ?_
      rintro _ w8 ⟨rfl, hb8⟩
      have HB8 := Lib.hid ((HB7.out.alloc _).trans hb8); clear hb8
      go_wp2_with fail
      go_ret
      exact ⟨rfl, HB8.out⟩
end Go.Proofs.Yteockodnfempfaa
