/- AuctionOrder returns true, walked. Conditions: those named in each theorem. -/
import Derived.Test.YteockodnfempfaaP6
/- AuctionOrder returns true, walked. Conditions: those named in each theorem. -/
namespace Go.Proofs.Yteockodnfempfaa
open Go Go.RowKit Go.Gv Go.Sort

/-- The amount of bid i. -/
def amt (xs : List I64) (i : Nat) : Int := 1 + 10 * within (xs.getD i ⟨0⟩).v 30 + i
def turnN (n t i : Nat) : Nat := (i + t) % n
def hB (xs : List I64) (k : Nat) : List GAuctionBid := (List.range k).map fun (i : Nat) => ⟨(i : Int), amt xs i⟩
def gB (xs : List I64) (n t k : Nat) : List GAuctionBid := (List.range k).map fun (i : Nat) => ⟨(turnN n t i : Int), amt xs (turnN n t i)⟩
theorem turnN_eq {n t i : Nat} (ht : t < n) (hi : i < n) : turnN n t i = if i + t < n then i + t else i + t - n := by
  unfold turnN
  split
  · rename_i h; exact Nat.mod_eq_of_lt h
  · rename_i h
    rw [Nat.mod_eq_sub_mod (by omega), Nat.mod_eq_of_lt (by omega)]
theorem hB_succ (xs : List I64) (k : Nat) : hB xs (k + 1) = hB xs k ++ [⟨(k : Int), amt xs k⟩] := by unfold hB; rw [List.range_succ, List.map_append]; rfl
theorem gB_succ (xs : List I64) (n t k : Nat) : gB xs n t (k + 1) = gB xs n t k ++ [⟨(turnN n t k : Int), amt xs (turnN n t k)⟩] := by unfold gB; rw [List.range_succ, List.map_append]; rfl
theorem hB_len (xs : List I64) (k : Nat) : (hB xs k).length = k := by unfold hB; simp
theorem gB_len (xs : List I64) (n t k : Nat) : (gB xs n t k).length = k := by unfold gB; simp
theorem hB_new (xs : List I64) (k : Nat) : hasBid (hB xs k) (k : Int) = false := by
  unfold hasBid hB
  rw [List.any_eq_false]
  intro b hb
  rw [List.mem_map] at hb
  obtain ⟨i, hi, rfl⟩ := hb
  rw [List.mem_range] at hi
  simp only [beq_iff_eq]
  omega
theorem gB_new (xs : List I64) {n t k : Nat} (ht : t < n) (hk : k < n) : hasBid (gB xs n t k) (turnN n t k : Int) = false := by
  unfold hasBid gB
  rw [List.any_eq_false]
  intro b hb
  rw [List.mem_map] at hb
  obtain ⟨i, hi, rfl⟩ := hb
  rw [List.mem_range] at hi
  simp only [beq_iff_eq]
  rw [turnN_eq ht hk, turnN_eq ht (by omega)]
  split <;> split <;> omega
theorem turn_perm {n t : Nat} (ht : t < n) : ((List.range n).map (turnN n t)).Perm (List.range n) := by
  have e : (List.range n).map (turnN n t) = (List.range n).drop t ++ (List.range n).take t := by
    apply List.ext_getElem
    · simp; omega
    · intro i h1 h2
      have hi : i < n := by simpa using h1
      rw [List.getElem_map, List.getElem_range, turnN_eq ht hi, List.getElem_append]
      simp only [List.length_drop, List.length_range]
      split
      · rw [dif_pos (by omega)]; simp; omega
      · rw [dif_neg (by omega)]; simp; omega
  rw [e]
  exact List.perm_append_comm.trans (by rw [List.take_append_drop])
theorem order_perm (xs : List I64) {n t : Nat} (ht : t < n) : (hB xs n).Perm (gB xs n t n) := by
  have h := ((turn_perm ht).map fun i : Nat => (⟨(i : Int), amt xs i⟩ : GAuctionBid)).symm
  rw [List.map_map] at h
  exact h
theorem order_unlike (xs : List I64) {n : Nat} (hn : n ≤ 10) : (hB xs n).Pairwise fun a b => a.amount ≠ b.amount := by
  unfold hB
  rw [List.pairwise_map]
  refine List.Pairwise.imp_of_mem ?_ List.pairwise_lt_range
  intro i j hi hj hij
  rw [List.mem_range] at hi hj
  show amt xs i ≠ amt xs j
  unfold amt
  omega
theorem order_end (xs : List I64) (v : Bool) (R : Int) {n t : Nat} (ht : t < n ∨ n = 0) (hn : n ≤ 10) : endR (withBids ⟨#[97]⟩ v R (gB xs n t n)) = endR (withBids ⟨#[97]⟩ v R (hB xs n)) := by
  rcases ht with ht | rfl
  · exact (endR_perm (s := withBids ⟨#[97]⟩ v R (hB xs n)) (t := withBids ⟨#[97]⟩ v R (gB xs n t n)) rfl rfl rfl (order_perm xs ht) (order_unlike xs hn)).symm
  · rfl
set_option maxRecDepth 100000 in
set_option maxHeartbeats 8000000 in
theorem order_any (A : Option Addr) (n c : Nat) (xs : List I64) (turn res : Int) (v : Bool) (w : World) (hx : Sl I64 w w.heap.size A n xs) (hox : ∀ x ∈ xs, -9223372036854775808 ≤ x.v ∧ x.v ≤ 9223372036854775807) (hn : n ≤ maxLen)
    (hm1 : -9223372036854775808 ≤ turn) (hm2 : turn ≤ 9223372036854775807) (hr1 : -9223372036854775808 ≤ res) (hr2 : res ≤ 9223372036854775807) :
    Calls Try.prog 9 #[.slice A n c, .int .i64 turn, .int .i64 res, .bool v] w fun e w' => e = .returned (.bool true) ∧ Bel w w' := by
  unfold maxLen at hn
  obtain ⟨z, hz, hz0, hz1⟩ : ∃ z, within res 200 = z ∧ 0 ≤ z ∧ z < 200 := by
    refine ⟨_, rfl, ?_, ?_⟩ <;> unfold within <;> rw [if_neg (by omega)]
    · exact Int.emod_nonneg _ (by omega)
    · exact Int.emod_lt_of_pos _ (by omega)
  obtain ⟨m, hm, hmn, hm8⟩ : ∃ m, min n 10 = m ∧ m ≤ n ∧ m ≤ 10 := ⟨_, rfl, by omega, by omega⟩
  have hmI : min (n : Int) 10 = (m : Int) := by omega
  obtain ⟨t, ht, htm⟩ : ∃ t : Nat, within turn (m : Int) = t ∧ (t < m ∨ m = 0) := by
    by_cases h0 : m = 0
    · exact ⟨0, by rw [h0]; unfold within; rw [if_pos (by decide)]; rfl, .inr h0⟩
    · have h1 := Int.emod_nonneg turn (b := (m : Int)) (by omega)
      have h2 := Int.emod_lt_of_pos turn (b := (m : Int)) (by omega)
      obtain ⟨t, ht⟩ := Int.eq_ofNat_of_zero_le h1
      exact ⟨t, by unfold within; rw [if_neg (by omega)]; exact ht, .inl (by omega)⟩
  have HX := Lib.hid hx; have HOX := Lib.hid hox; have HZ := Lib.hid hz; have HT := Lib.hid ht; have HTM := Lib.hid htm; clear hx hox hz ht htm
  have HO := Lib.hid (open_first (name := ⟨#[97]⟩) (reserve := z) (close := 9) (now := 0) rfl (by omega) (by omega) (by omega))
  go_enter Try.func9, Try.ntmps9
  go_wp2_with fail
  refine (new_any _).mono ?_
  rintro _ w1 ⟨g, r, rfl, hH, hg, hr, hne, hlt, hb⟩
  have hrl := hH.2.lt
  have HH := Lib.hid hH; have HB := Lib.hid hb; clear hH hb
  go_wp2_with fail
  refine (new_any _).mono ?_
  rintro _ w2 ⟨g', r', rfl, hH, hg', hr', hne', hlt', hb⟩
  have HH1 := Lib.hid (HH.out.step hb); have HK1 := Lib.hid hH; have HB2 := Lib.hid (HB.out.trans hb); clear hH hb HH HB
  have hrr : r' ≠ r := by omega
  have hgr : g' ≠ r := by omega
  have hgr2 : g ≠ r' := by omega
  have hrw' : w.heap.size ≤ r' := by omega
  go_wp2_with fail
  refine (within_is res 200 z _ HZ.out (by omega) hr1 hr2).mono ?_
  rintro _ w0 ⟨rfl, rfl⟩
  go_wp2_with fail
  refine (open_is 0 _ ⟨g, 0, none⟩ r [] ⟨#[97]⟩ v z 9 0 _ HO.out (open_first_H HO.out) HH1.out hne (by decide) (by decide)).mono ?_
  rintro _ w3 ⟨rfl, hH, hg2⟩
  have HK2 := Lib.hid (HouseIs.apart HH1.out HK1.out hg2 hrr hgr); have HH2 := Lib.hid hH; have HB3 := Lib.hid (HB2.out.gxb hg2 hr); clear hH hg2 HH1 HK1 HB2
  go_wp2_with fail
  refine (open_is 0 _ ⟨g', 0, none⟩ r' [] ⟨#[97]⟩ v z 9 0 _ HO.out (open_first_H HO.out) HK2.out hne' (by decide) (by decide)).mono ?_
  rintro _ w4 ⟨rfl, hH, hg2⟩
  have HH3 := Lib.hid (HouseIs.apart HK2.out HH2.out hg2 (Ne.symm hrr) hgr2); have HK3 := Lib.hid hH; have HB4 := Lib.hid (HB3.out.gxb hg2 hrw'); clear hH hg2 HH2 HK2 HB3
  go_wp2_with fail
  go_loopw [12] (fun i wr => ∃ k : Nat, k ≤ m ∧ i = .int .i64 k ∧ HouseIs wr ⟨g, 0, none⟩ r [(⟨#[97]⟩, withBids ⟨#[97]⟩ v z (hB xs k))] ∧ HouseIs wr ⟨g', 0, none⟩ r' [(⟨#[97]⟩, withBids ⟨#[97]⟩ v z (gB xs m t k))] ∧ Bel w wr) (fun i _ => m - (intOf i).toNat)
  case atStart => exact ⟨0, by omega, rfl, HH3.out, HK3.out, HB4.out⟩
  case round =>
    obtain ⟨k, hk, rfl, hH, hK, hb⟩ := hrel
    have HHK := Lib.hid hH; have HKK := Lib.hid hK; have HBK := Lib.hid hb; clear hH hK hb
    by_cases hlt2 : k < m
    · have htm : t < m := by rcases HTM.out with h | h <;> omega
      obtain ⟨j, hj, hjm⟩ : ∃ j, turnN m t k = j ∧ j < m := ⟨_, rfl, Nat.mod_lt _ (by omega)⟩
      have hrem : ((k : Int) + (t : Int)).tmod (m : Int) = (j : Int) := by
        rw [Int.tmod_eq_emod_of_nonneg (by omega), ← hj]
        unfold turnN
        simp
      have hm0 : (0 : Int) < (m : Int) := by omega
      have hmz : ((m : Int) == 0) = false := by simp; omega
      have hxl := HX.out.1
      obtain ⟨ad, x, rfl, _, hxk, hgx⟩ := (HX.out.stepB HBK.out).at_ (k := k) (by omega)
      have hxo := HOX.out x (List.mem_of_getElem? hxk)
      obtain ⟨y, hyj⟩ : ∃ y, xs[j]? = some y := ⟨_, List.getElem?_eq_getElem (by omega)⟩
      have hyo := HOX.out y (List.mem_of_getElem? hyj)
      obtain ⟨q1, hq1, hq10, hq11⟩ : ∃ q, within x.v 30 = q ∧ 0 ≤ q ∧ q < 30 := by
        refine ⟨_, rfl, ?_, ?_⟩ <;> unfold within <;> rw [if_neg (by omega)]
        · exact Int.emod_nonneg _ (by omega)
        · exact Int.emod_lt_of_pos _ (by omega)
      obtain ⟨q2, hq2, hq20, hq21⟩ : ∃ q, within y.v 30 = q ∧ 0 ≤ q ∧ q < 30 := by
        refine ⟨_, rfl, ?_, ?_⟩ <;> unfold within <;> rw [if_neg (by omega)]
        · exact Int.emod_nonneg _ (by omega)
        · exact Int.emod_lt_of_pos _ (by omega)
      have ha1 : amt xs k = 1 + 10 * q1 + k := by unfold amt; rw [List.getD_eq_getElem?_getD, hxk]; simp only [Option.getD_some, hq1]
      have ha2 : amt xs j = 1 + 10 * q2 + j := by unfold amt; rw [List.getD_eq_getElem?_getD, hyj]; simp only [Option.getD_some, hq2]
      have hH1 := hB_succ xs k
      have hK1 := gB_succ xs m t k
      have hKn := gB_new xs htm hlt2
      rw [ha1] at hH1
      rw [hj, ha2] at hK1
      rw [hj] at hKn
      have hcx := getI hgx
      simp only [show Enc.n I64 = 1 from rfl, Nat.mul_one] at hcx
      have HY := Lib.hid hyj
      have HSH := Lib.hid hH1; have HSK := Lib.hid hK1; have HKN := Lib.hid hKn; have HQ1 := Lib.hid hq1; have HQ2 := Lib.hid hq2
      clear hxl hxk hyj hgx ha1 ha2 hH1 hK1 hKn hq1 hq2 hj
      go_wp2_with fail
      refine (within_is turn m t _ HT.out (by omega) hm1 hm2).mono ?_
      rintro _ w5 ⟨rfl, rfl⟩
      go_wp2_with fail
      refine (within_is x.v 30 q1 _ HQ1.out (by omega) hxo.1 hxo.2).mono ?_
      rintro _ w5 ⟨rfl, rfl⟩
      go_wp2_with fail
      refine (bid_one ⟨g, 0, none⟩ r ⟨#[97]⟩ (withBids ⟨#[97]⟩ v z (hB xs k)) k (1 + 10 * q1 + k) 1 _ HHK.out hne rfl (by show (1 : Int) ≤ 9; omega) (by omega) (by omega) (by omega) (by omega) (hB_new xs k) (by show (hB xs k).length ≤ 1000; rw [hB_len]; omega)).mono ?_
      rintro _ w6 ⟨rfl, hH, hg2⟩
      have HK6 := Lib.hid (HouseIs.apart HHK.out HKK.out hg2 hrr hgr)
      have HH6 := Lib.hid (show HouseIs w6 ⟨g, 0, none⟩ r [(⟨#[97]⟩, withBids ⟨#[97]⟩ v z (hB xs (k + 1)))] by rw [HSH.out]; exact hH)
      have HB6 := Lib.hid (HBK.out.gxb hg2 hr)
      clear hH hg2 HHK HKK HBK hcx
      obtain ⟨ad', y', hade, _, hyk, hgy⟩ := (HX.out.stepB HB6.out).at_ (k := j) (by omega)
      rw [HY.out] at hyk; injection hyk with hyk; subst hyk
      injection hade with hade; subst hade
      have hcy := getI hgy
      simp only [show Enc.n I64 = 1 from rfl, Nat.mul_one] at hcy
      clear hgy
      go_wp2_with fail
      refine (within_is y.v 30 q2 _ HQ2.out (by omega) hyo.1 hyo.2).mono ?_
      rintro _ w7 ⟨rfl, rfl⟩
      go_wp2_with fail
      refine (bid_one ⟨g', 0, none⟩ r' ⟨#[97]⟩ (withBids ⟨#[97]⟩ v z (gB xs m t k)) j (1 + 10 * q2 + j) 1 _ HK6.out hne' rfl (by show (1 : Int) ≤ 9; omega) (by omega) (by omega) (by omega) (by omega) HKN.out (by show (gB xs m t k).length ≤ 1000; rw [gB_len]; omega)).mono ?_
      rintro _ w8 ⟨rfl, hH, hg2⟩
      have HH8 := Lib.hid (HouseIs.apart HK6.out HH6.out hg2 (Ne.symm hrr) hgr2)
      have HK8 := Lib.hid (show HouseIs w8 ⟨g', 0, none⟩ r' [(⟨#[97]⟩, withBids ⟨#[97]⟩ v z (gB xs m t (k + 1)))] by rw [HSK.out]; exact hH)
      have HB8 := Lib.hid (HB6.out.gxb hg2 hrw')
      clear hH hg2 HH6 HK6 HB6 hcy
      go_wp2_with fail
      exact ⟨⟨k + 1, by omega, by go_num, HH8.out, HK8.out, HB8.out⟩, by simp [intOf]; omega⟩
    · obtain rfl : k = m := by omega
      have HE := Lib.hid (order_end xs v z HTM.out hm8)
      go_wp2_with fail
      refine (settle_due ⟨g, 0, none⟩ r ⟨#[97]⟩ (withBids ⟨#[97]⟩ v z (hB xs k)) 20 _ HHK.out hne rfl rfl (by show (9 : Int) < 20; omega) (by show (hB xs k).length < 20; rw [hB_len]; omega)).mono ?_
      rintro _ w6 ⟨g6, c6, rfl, hget, hg6, hH, hg2⟩
      have HK6 := Lib.hid (HouseIs.apart HHK.out HKK.out hg2 hrr hgr); have HH6 := Lib.hid hH; have HB6 := Lib.hid (HBK.out.gxb hg2 hr); have HG6 := Lib.hid hget
      have hr6 : r' < wr.heap.size := HKK.out.2.lt
      clear hH hg2 hget HHK HKK HBK
      go_wp2_with fail
      refine (settle_due ⟨g', 0, none⟩ r' ⟨#[97]⟩ (withBids ⟨#[97]⟩ v z (gB xs k t k)) 20 _ HK6.out hne' rfl rfl (by show (9 : Int) < 20; omega) (by show (gB xs k t k).length < 20; rw [gB_len]; omega)).mono ?_
      rintro _ w7 ⟨g7, c7, rfl, hget, hg7, hH, hg2⟩
      rw [HE.out] at hget
      have HH7 := Lib.hid (HouseIs.apart HK6.out HH6.out hg2 (Ne.symm hrr) hgr2); have HB7 := Lib.hid (HB6.out.gxb hg2 hrw')
      have hg6b : get? GAuctionResult w7 ⟨g6, 0, none⟩ = some (endR (withBids ⟨#[97]⟩ v z (hB xs k))) := GX.getS hg2 HG6.out (by show g6 ≠ r'; omega)
      have HLN := Lib.hid (show (doneM (withBids ⟨#[97]⟩ v z (hB xs k))).bids.length = k from hB_len xs k)
      clear hH hg2 HH6 HK6 HB6 HG6
      generalize endR (withBids ⟨#[97]⟩ v z (hB xs k)) = rr at hget hg6b
      go_wp2_with fail
      refine wp_region_G GB [] GB.rf (by kernel_rfl) ?_
      refine wpG_looks 0 27 [0,1,2,3,4,5,6,7,8,9,10,11,12,13,14,15,16,17,18,19,20,21,22,23,24,25,26] rfl GB.rf GB.tr (by kernel_rfl) (fun _ _ _ _ hd h => And.intro (hd ▸ And.left h) (And.right h)) rfl (by kernel_rfl) ?_
      intro ι W hne2 CW
      have f1 := fun z => (CW.out z).get hget
      have f2 := fun z => (CW.out z).get hg6b
      repeat (refine wpLooksG_step (fun K hK => ?_); go_simp; refine hK _ ?_; clear hK K)
      refine wpLooksG_step (fun K hK => ?_); go_simp
      refine ⟨_, fun z' => quietG (bids_one k ⟨g, 0, none⟩ r ⟨#[97]⟩ (doneM (withBids ⟨#[97]⟩ v z (hB xs k))) (W z') HLN.out (HH7.out.step (CW.out z').undrew)) (fun _ _ h => ⟨h.1, h.2.symm⟩), hK _ ?_⟩
      clear hK K
      repeat (refine wpLooksG_step (fun K hK => ?_); go_simp; refine hK _ ?_; clear hK K)
      refine wpLooksG_step (fun K hK => ?_); go_simp
      refine ⟨_, fun z' => (wakesA_any (W z')).mono (fun _ _ h => h), hK _ ?_⟩
      clear hK K
      repeat (refine wpLooksG_step (fun K hK => ?_); go_simp; refine hK _ ?_; clear hK K)
      refine wpLooksG_nil ?_
      clear f1 f2 CW hne2 W ι
      refine wpG_end (by kernel_rfl) (fun wn hwn => ?_) _
      have HBN := Lib.hid (HB7.out.trans hwn.undrew); clear hwn
      go_wp2
      go_ret
      exact ⟨rfl, HBN.out⟩
end Go.Proofs.Yteockodnfempfaa
