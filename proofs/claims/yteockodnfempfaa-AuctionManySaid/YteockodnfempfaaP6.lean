/- AuctionWins returns true, walked. Conditions: those named in each theorem. -/
import Derived.Test.YteockodnfempfaaP4
import Derived.Test.YteockodnfempfaaP2
/- AuctionReserve returns true, walked. Conditions: those named in each theorem. -/
namespace Go.Proofs.Yteockodnfempfaa
open Go Go.RowKit Go.Gv Go.Sort

theorem hasBid_places (f : Nat → Int → Int) (l : List Int) (c : Int) (h : (l.length : Int) ≤ c) : hasBid (bidsOf f l) c = false := by
  unfold hasBid
  rw [List.any_eq_false]
  intro b hb
  obtain ⟨i, hi⟩ := List.getElem?_of_mem hb
  obtain ⟨a, ha, rfl⟩ := bidsOf_get hi
  have : i < l.length := (List.getElem?_eq_some_iff.1 ha).1
  simp only [beq_iff_eq]
  omega
theorem bids_one (n : Nat) (p : Addr) (r : Nat) (k : ByteArray) (x : MSale) (w : World) (hn : x.bids.length = n) (hH : HouseIs w p r [(k, x)]) :
    Calls Try.prog 39 #[.pointer (some p), .string k] w fun e w' => e = .returned (.int .i64 (n : Int)) ∧ w = w' := by
  have h := bids_any p r [(k, x)] k w hH
  have e : bidsN [(k, x)] k = (n : Int) := by unfold bidsN; rw [mget_one]; simp only [hn]
  rw [e] at h; exact h
def withBids (k : ByteArray) (v : Bool) (R : Int) (bs : List GAuctionBid) : MSale := { newSale k v R 9 with bids := bs }
def lowB (R : Int) (xs : List I64) (k : Nat) : List GAuctionBid := bidsOf (fun _ a => 1 + within a (R - 1)) ((xs.take k).map (·.v))
theorem lowB_zero (R : Int) (xs : List I64) : lowB R xs 0 = [] := rfl
theorem lowB_len {R : Int} {xs : List I64} {k : Nat} (h : k ≤ xs.length) : (lowB R xs k).length = k := by unfold lowB; rw [bidsOf_len, List.length_map, List.length_take]; omega
theorem lowB_snoc {R : Int} {xs : List I64} {k : Nat} {x : I64} (h : xs[k]? = some x) : lowB R xs (k + 1) = lowB R xs k ++ [⟨(k : Int), 1 + within x.v (R - 1)⟩] := by
  have hk : k < xs.length := (List.getElem?_eq_some_iff.1 h).1
  unfold lowB
  rw [List.take_add_one, h, Option.toList_some, List.map_append, List.map_singleton, bidsOf_snoc, List.length_map, List.length_take, Nat.min_eq_left (by omega)]
theorem lowB_low {R : Int} {xs : List I64} {k : Nat} (hR : 2 ≤ R) : (lowB R xs k).filter (fun b => decide (R ≤ b.amount)) = [] := by
  rw [List.filter_eq_nil_iff]
  intro b hb
  obtain ⟨i, hi⟩ := List.getElem?_of_mem hb
  obtain ⟨a, ha, rfl⟩ := bidsOf_get hi
  have h1 : within a (R - 1) < R - 1 := by
    unfold within
    rw [if_neg (by omega)]
    exact Int.emod_lt_of_pos _ (by omega)
  simp only [decide_eq_true_eq]
  omega
set_option maxRecDepth 100000 in
set_option maxHeartbeats 4000000 in
theorem reserve_any (A : Option Addr) (n c : Nat) (xs : List I64) (high res : Int) (v : Bool) (w : World) (hx : Sl I64 w w.heap.size A n xs) (hox : ∀ x ∈ xs, -9223372036854775808 ≤ x.v ∧ x.v ≤ 9223372036854775807) (hn : n ≤ maxLen)
    (hh1 : -9223372036854775808 ≤ high) (hh2 : high ≤ 9223372036854775807) (hr1 : -9223372036854775808 ≤ res) (hr2 : res ≤ 9223372036854775807) :
    Calls Try.prog 10 #[.slice A n c, .int .i64 high, .int .i64 res, .bool v] w fun e w' => e = .returned (.bool true) ∧ Bel w w' := by
  unfold maxLen at hn
  obtain ⟨z, hz, hz0, hz1⟩ : ∃ z, within res 50 = z ∧ 0 ≤ z ∧ z < 50 := by
    refine ⟨_, rfl, ?_, ?_⟩ <;> unfold within <;> rw [if_neg (by omega)]
    · exact Int.emod_nonneg _ (by omega)
    · exact Int.emod_lt_of_pos _ (by omega)
  obtain ⟨y, hy, hy0, hy1⟩ : ∃ y, within high 30 = y ∧ 0 ≤ y ∧ y < 30 := by
    refine ⟨_, rfl, ?_, ?_⟩ <;> unfold within <;> rw [if_neg (by omega)]
    · exact Int.emod_nonneg _ (by omega)
    · exact Int.emod_lt_of_pos _ (by omega)
  obtain ⟨m, hm, hmn, hm8⟩ : ∃ m, min n 8 = m ∧ m ≤ n ∧ m ≤ 8 := ⟨_, rfl, by omega, by omega⟩
  have HX := Lib.hid hx; have HOX := Lib.hid hox; have HZ := Lib.hid hz; have HY := Lib.hid hy; clear hx hox hz hy
  have HO := Lib.hid (open_first (name := ⟨#[114]⟩) (reserve := 2 + z) (close := 9) (now := 0) rfl (by omega) (by omega) (by omega))
  obtain ⟨won, hwon⟩ : ∃ b, (high.tmod 2 == 0) = b := ⟨_, rfl⟩
  go_enter Try.func10, Try.ntmps10
  go_wp2_with fail
  refine (new_any _).mono ?_
  rintro _ w1 ⟨g, r, rfl, hH, hg, hr, hne, hlt, hb⟩
  have HH := Lib.hid hH; have HB := Lib.hid hb; clear hH hb
  go_wp2_with fail
  refine (within_is res 50 z _ HZ.out (by omega) hr1 hr2).mono ?_
  rintro _ w0 ⟨rfl, rfl⟩
  go_wp2_with fail
  refine (open_is 0 _ ⟨g, 0, none⟩ r [] ⟨#[114]⟩ v (2 + z) 9 0 _ HO.out (open_first_H HO.out) HH.out hne (by decide) (by decide)).mono ?_
  rintro _ w2 ⟨rfl, hH, hg2⟩
  have HH2 := Lib.hid hH; have HB2 := Lib.hid (HB.out.gxb hg2 hr); clear hH hg2 HH HB
  go_wp2_with fail
  go_loopw [11] (fun i wr => ∃ k : Nat, k ≤ m ∧ i = .int .i64 k ∧ HouseIs wr ⟨g, 0, none⟩ r [(⟨#[114]⟩, withBids ⟨#[114]⟩ v (2 + z) (lowB (2 + z) xs k))] ∧ Bel w wr) (fun i _ => m - (intOf i).toNat)
  case atStart => exact ⟨0, by omega, rfl, HH2.out, HB2.out⟩
  case round =>
    obtain ⟨k, hk, rfl, hH, hb⟩ := hrel
    have HH3 := Lib.hid hH; have HB3 := Lib.hid hb; clear hH hb
    by_cases hlt2 : k < m
    · obtain ⟨ad, x, rfl, _, hxk, hgx⟩ := (HX.out.stepB HB3.out).at_ (k := k) (by omega)
      have hxo := HOX.out x (List.mem_of_getElem? hxk)
      have hcx := getI hgx
      simp only [show Enc.n I64 = 1 from rfl, Nat.mul_one] at hcx
      obtain ⟨q, hq, hq0, hq1⟩ : ∃ q, within x.v (2 + z - 1) = q ∧ 0 ≤ q ∧ q < 2 + z - 1 := by
        refine ⟨_, rfl, ?_, ?_⟩ <;> unfold within <;> rw [if_neg (by omega)]
        · exact Int.emod_nonneg _ (by omega)
        · exact Int.emod_lt_of_pos _ (by omega)
      have hsn := lowB_snoc (R := 2 + z) hxk
      rw [hq] at hsn
      have hll := lowB_len (R := 2 + z) (xs := xs) (k := k) (by rw [HX.out.1]; omega)
      have hhb : hasBid (lowB (2 + z) xs k) (k : Int) = false := hasBid_places _ _ _ (by rw [List.length_map, List.length_take]; omega)
      have HSN := Lib.hid hsn; have HLL := Lib.hid hll; have HHB := Lib.hid hhb; have HQ := Lib.hid hq
      clear hsn hll hhb hq hxk hgx
      go_wp2_with fail
      refine (within_is x.v (2 + z - 1) q _ HQ.out (by omega) hxo.1 hxo.2).mono ?_
      rintro _ w4 ⟨rfl, rfl⟩
      go_wp2_with fail
      refine (bid_one ⟨g, 0, none⟩ r ⟨#[114]⟩ (withBids ⟨#[114]⟩ v (2 + z) (lowB (2 + z) xs k)) k (1 + q) 1 _ HH3.out hne rfl (by show (1 : Int) ≤ 9; omega) (by omega) (by omega) (by omega) (by omega) HHB.out (by show (lowB (2 + z) xs k).length ≤ 1000; rw [HLL.out]; omega)).mono ?_
      rintro _ w5 ⟨rfl, hH, hg2⟩
      have HH5 := Lib.hid (show HouseIs w5 ⟨g, 0, none⟩ r [(⟨#[114]⟩, withBids ⟨#[114]⟩ v (2 + z) (lowB (2 + z) xs (k + 1)))] by rw [HSN.out]; exact hH)
      have HB5 := Lib.hid (HB3.out.gxb hg2 hr); clear hH hg2
      go_wp2_with fail
      exact ⟨⟨k + 1, by omega, by go_num, HH5.out, HB5.out⟩, by simp [intOf]; omega⟩
    · obtain rfl : k = m := by omega
      have hll := lowB_len (R := 2 + z) (xs := xs) (k := k) (by rw [HX.out.1]; omega)
      have HLL := Lib.hid hll; clear hll
      have HLW := Lib.hid (lowB_low (R := 2 + z) (xs := xs) (k := k) (by omega))
      cases won
      · have HE := Lib.hid (show endR (withBids ⟨#[114]⟩ v (2 + z) (lowB (2 + z) xs k)) = ⟨⟨#[114]⟩, -1, 0⟩ from endR_none HLW.out)
        have HLN := Lib.hid (show (doneM (withBids ⟨#[114]⟩ v (2 + z) (lowB (2 + z) xs k))).bids.length = k from HLL.out)
        go_wp2_with fail
        refine (within_is high 30 y _ HY.out (by omega) hh1 hh2).mono ?_
        rintro _ w4 ⟨rfl, rfl⟩
        go_wp2_with fail
        have HH4 := Lib.hid HH3.out; have HB4 := Lib.hid HB3.out
        refine (settle_due ⟨g, 0, none⟩ r ⟨#[114]⟩ (withBids ⟨#[114]⟩ v (2 + z) (lowB (2 + z) xs k)) 10 _ HH4.out hne rfl rfl (by show (9 : Int) < 10; omega) (by show (lowB (2 + z) xs k).length < 20; rw [HLL.out]; omega)).mono ?_
        rintro _ w6 ⟨g6, c6, rfl, hget, hg6, hH, hg2⟩
        rw [HE.out] at hget
        have HH6 := Lib.hid hH; have HB6 := Lib.hid (HB4.out.gxb hg2 hr); clear hH hg2 HH4 HB4
        have f1 : w6.cell? ⟨g6, 1, none⟩ = some (.int .i64 (-1)) := by simpa using cell_off (by omega) (GAuctionResult.at_winner hget)
        have f2 : w6.cell? ⟨g6, 2, none⟩ = some (.int .i64 0) := by simpa using cell_off (by omega) (GAuctionResult.at_price hget)
        clear hget
        go_wp2_with fail
        refine (bids_one k ⟨g, 0, none⟩ r ⟨#[114]⟩ (doneM (withBids ⟨#[114]⟩ v (2 + z) (lowB (2 + z) xs k))) _ HLN.out HH6.out).mono ?_
        rintro _ w7 ⟨rfl, rfl⟩
        go_wp2_with fail
        refine (wakesA_any _).mono ?_
        rintro _ w8 ⟨rfl, hb8⟩
        have HB8 := Lib.hid (HB6.out.trans hb8); clear hb8
        go_wp2_with fail
        go_ret
        exact ⟨rfl, HB8.out⟩
      · have hF : atLeast ((withBids ⟨#[114]⟩ v (2 + z) (lowB (2 + z) xs k)).bid 50 (2 + z + y)) = [] ++ (⟨50, 2 + z + y⟩ : GAuctionBid) :: [] := by
          show (lowB (2 + z) xs k ++ [(⟨50, 2 + z + y⟩ : GAuctionBid)]).filter (fun b => decide (2 + z ≤ b.amount)) = _
          rw [List.filter_append, HLW.out]
          have : 2 + z ≤ 2 + z + y := by omega
          simp [this]
        have hE : endR ((withBids ⟨#[114]⟩ v (2 + z) (lowB (2 + z) xs k)).bid 50 (2 + z + y)) = ⟨⟨#[114]⟩, 50, if v = true then 2 + z else 2 + z + y⟩ := by
          rw [endR_first hF (by simp) (by simp)]
          rfl
        have HLN := Lib.hid (show (doneM ((withBids ⟨#[114]⟩ v (2 + z) (lowB (2 + z) xs k)).bid 50 (2 + z + y))).bids.length = k + 1 by show (lowB (2 + z) xs k ++ [(⟨50, 2 + z + y⟩ : GAuctionBid)]).length = _; rw [List.length_append, HLL.out]; rfl)
        have HHB := Lib.hid (show hasBid (lowB (2 + z) xs k) 50 = false from hasBid_places _ _ _ (by rw [List.length_map, List.length_take]; omega))
        clear hF
        cases v
        · have HE := Lib.hid hE; clear hE
          go_wp2_with fail
          refine (within_is high 30 y _ HY.out (by omega) hh1 hh2).mono ?_
          rintro _ w4 ⟨rfl, rfl⟩
          go_wp2_with fail
          refine (bid_one ⟨g, 0, none⟩ r ⟨#[114]⟩ (withBids ⟨#[114]⟩ false (2 + z) (lowB (2 + z) xs k)) 50 (2 + z + y) 2 _ HH3.out hne rfl (by show (2 : Int) ≤ 9; omega) (by omega) (by omega) (by omega) (by omega) HHB.out (by show (lowB (2 + z) xs k).length ≤ 1000; rw [HLL.out]; omega)).mono ?_
          rintro _ w5 ⟨rfl, hH, hg2⟩
          have HH4 := Lib.hid hH; have HB4 := Lib.hid (HB3.out.gxb hg2 hr); clear hH hg2
          go_wp2_with fail
          refine (settle_due ⟨g, 0, none⟩ r ⟨#[114]⟩ ((withBids ⟨#[114]⟩ false (2 + z) (lowB (2 + z) xs k)).bid 50 (2 + z + y)) 10 _ HH4.out hne rfl rfl (by show (9 : Int) < 10; omega) (by show (lowB (2 + z) xs k ++ [(⟨50, 2 + z + y⟩ : GAuctionBid)]).length < 20; rw [List.length_append, HLL.out]; simp; omega)).mono ?_
          rintro _ w6 ⟨g6, c6, rfl, hget, hg6, hH, hg2⟩
          rw [HE.out] at hget
          have HH6 := Lib.hid hH; have HB6 := Lib.hid (HB4.out.gxb hg2 hr); clear hH hg2 HH4 HB4
          have f1 : w6.cell? ⟨g6, 1, none⟩ = some (.int .i64 50) := by simpa using cell_off (by omega) (GAuctionResult.at_winner hget)
          have f2 : w6.cell? ⟨g6, 2, none⟩ = some (.int .i64 (2 + z + y)) := by simpa using cell_off (by omega) (GAuctionResult.at_price hget)
          clear hget
          go_wp2_with fail
          refine (bids_one (k + 1) ⟨g, 0, none⟩ r ⟨#[114]⟩ (doneM ((withBids ⟨#[114]⟩ false (2 + z) (lowB (2 + z) xs k)).bid 50 (2 + z + y))) _ HLN.out HH6.out).mono ?_
          rintro _ w7 ⟨rfl, rfl⟩
          go_wp2_with fail
          refine (wakesA_any _).mono ?_
          rintro _ w8 ⟨rfl, hb8⟩
          have HB8 := Lib.hid (HB6.out.trans hb8); clear hb8
          go_wp2_with fail
          go_ret
          exact ⟨rfl, HB8.out⟩
        · have HE := Lib.hid hE; clear hE
          go_wp2_with fail
          refine (within_is high 30 y _ HY.out (by omega) hh1 hh2).mono ?_
          rintro _ w4 ⟨rfl, rfl⟩
          go_wp2_with fail
          refine (bid_one ⟨g, 0, none⟩ r ⟨#[114]⟩ (withBids ⟨#[114]⟩ true (2 + z) (lowB (2 + z) xs k)) 50 (2 + z + y) 2 _ HH3.out hne rfl (by show (2 : Int) ≤ 9; omega) (by omega) (by omega) (by omega) (by omega) HHB.out (by show (lowB (2 + z) xs k).length ≤ 1000; rw [HLL.out]; omega)).mono ?_
          rintro _ w5 ⟨rfl, hH, hg2⟩
          have HH4 := Lib.hid hH; have HB4 := Lib.hid (HB3.out.gxb hg2 hr); clear hH hg2
          go_wp2_with fail
          refine (settle_due ⟨g, 0, none⟩ r ⟨#[114]⟩ ((withBids ⟨#[114]⟩ true (2 + z) (lowB (2 + z) xs k)).bid 50 (2 + z + y)) 10 _ HH4.out hne rfl rfl (by show (9 : Int) < 10; omega) (by show (lowB (2 + z) xs k ++ [(⟨50, 2 + z + y⟩ : GAuctionBid)]).length < 20; rw [List.length_append, HLL.out]; simp; omega)).mono ?_
          rintro _ w6 ⟨g6, c6, rfl, hget, hg6, hH, hg2⟩
          rw [HE.out] at hget
          have HH6 := Lib.hid hH; have HB6 := Lib.hid (HB4.out.gxb hg2 hr); clear hH hg2 HH4 HB4
          have f1 : w6.cell? ⟨g6, 1, none⟩ = some (.int .i64 50) := by simpa using cell_off (by omega) (GAuctionResult.at_winner hget)
          have f2 : w6.cell? ⟨g6, 2, none⟩ = some (.int .i64 (2 + z)) := by simpa using cell_off (by omega) (GAuctionResult.at_price hget)
          clear hget
          go_wp2_with fail
          refine (bids_one (k + 1) ⟨g, 0, none⟩ r ⟨#[114]⟩ (doneM ((withBids ⟨#[114]⟩ true (2 + z) (lowB (2 + z) xs k)).bid 50 (2 + z + y))) _ HLN.out HH6.out).mono ?_
          rintro _ w7 ⟨rfl, rfl⟩
          go_wp2_with fail
          refine (wakesA_any _).mono ?_
          rintro _ w8 ⟨rfl, hb8⟩
          have HB8 := Lib.hid (HB6.out.trans hb8); clear hb8
          go_wp2_with fail
          go_ret
          exact ⟨rfl, HB8.out⟩
end Go.Proofs.Yteockodnfempfaa
/- AuctionWins, its plain laws; two houses side by side. Conditions: those named in each theorem. -/
namespace Go.Proofs.Yteockodnfempfaa
open Go Go.RowKit Go.Gv Go.Sort

theorem HouseIs.apart {w w' : World} {p p2 : Addr} {r r2 : Nat} {H H2 : MHouse} (h1 : HouseIs w p r H) (h2 : HouseIs w p2 r2 H2) (hg : GX r w w') (hne : r2 ≠ r) (hp : p2.block ≠ r) : HouseIs w' p2 r2 H2 := by
  obtain ⟨_, m, hm, _⟩ := h1
  exact h2.gx hm hg hne hp
theorem HouseIs.sl {α : Type} [Enc α] {w w' : World} {p : Addr} {r : Nat} {H : MHouse} {A : Option Addr} {n : Nat} {xs : List α} (h1 : HouseIs w p r H) (hg : GX r w w') (h : Sl α w w.heap.size A n xs) : Sl α w' w'.heap.size A n xs := by
  obtain ⟨_, m, hm, _⟩ := h1
  exact h.gx hm hg
def plainB (_ : Nat) (a : Int) : Int := a
def moreB (b mo : Int) (i : Nat) (a : Int) : Int := if (i : Int) = b then a + mo else a
theorem others_same {r k : Int} {f1 f2 : Nat → Int → Int} (h : ∀ (j : Nat) (x : Int), ¬ (j : Int) = k → f1 j x = f2 j x) (L : List Int) : ∀ n, others r k (bidsOf f1 (L.take n)) = others r k (bidsOf f2 (L.take n)) := by
  intro n
  induction n with
  | zero => rfl
  | succ n ih =>
    cases hx : L[n]? with
    | none =>
      rw [List.take_add_one, hx]
      simpa using ih
    | some x =>
      have hl : n < L.length := (List.getElem?_eq_some_iff.1 hx).1
      have hlen : (L.take n).length = n := by rw [List.length_take]; omega
      rw [List.take_add_one, hx, Option.toList_some, bidsOf_snoc, bidsOf_snoc, hlen]
      unfold others at ih ⊢
      rw [List.filter_append, List.filter_append, ih]
      congr 1
      by_cases hk : (n : Int) = k
      · simp [hk]
      · rw [h n x hk]
theorem others_snoc (r k : Int) (l : List GAuctionBid) (c : GAuctionBid) : others r k (l ++ [c]) = others r k l ++ (if r ≤ c.amount ∧ ¬ c.client = k then [c] else []) := by
  unfold others
  rw [List.filter_append]
  congr 1
  by_cases h1 : r ≤ c.amount <;> by_cases h2 : c.client = k <;> simp [h1, h2]
theorem bidsOf_take {f : Nat → Int → Int} {L : List Int} {k : Nat} {x : Int} (h : L[k]? = some x) : bidsOf f (L.take (k + 1)) = bidsOf f (L.take k) ++ [⟨(k : Int), f k x⟩] := by
  have hl : k < L.length := (List.getElem?_eq_some_iff.1 h).1
  have hlen : (L.take k).length = k := by rw [List.length_take]; omega
  rw [List.take_add_one, h, Option.toList_some, bidsOf_snoc, hlen]
/-- The second price so far. -/
def secP (z b : Int) (L : List Int) (k : Nat) : Int := maxP z (others z b (bidsOf plainB (L.take k)))
theorem secP_zero (z b : Int) (L : List Int) : secP z b L 0 = z := rfl
theorem secP_step {z b : Int} {L : List Int} {k : Nat} {x : Int} (h : L[k]? = some x) : secP z b L (k + 1) = if z ≤ x ∧ ¬ (k : Int) = b then max (secP z b L k) x else secP z b L k := by
  unfold secP
  rw [bidsOf_take h, others_snoc]
  by_cases hc : z ≤ x ∧ ¬ (k : Int) = b
  · rw [if_pos hc, if_pos (show z ≤ (⟨(k : Int), plainB k x⟩ : GAuctionBid).amount ∧ ¬ (⟨(k : Int), plainB k x⟩ : GAuctionBid).client = b from hc), maxP_snoc]
    rfl
  · rw [if_neg hc, if_neg (show ¬ (z ≤ (⟨(k : Int), plainB k x⟩ : GAuctionBid).amount ∧ ¬ (⟨(k : Int), plainB k x⟩ : GAuctionBid).client = b) from hc), List.append_nil]
theorem wins_none {z : Int} {v : Bool} {L : List Int} {f : Nat → Int → Int} (hf : ∀ (j : Nat) (x : Int), f j x = x) (h : ∀ x ∈ L, x < z) : endR (withBids ⟨#[120]⟩ v z (bidsOf f L)) = ⟨⟨#[120]⟩, -1, 0⟩ := by
  refine endR_none ?_
  show (bidsOf f L).filter (fun b => decide (z ≤ b.amount)) = []
  rw [List.filter_eq_nil_iff]
  intro b hb
  obtain ⟨i, hi⟩ := List.getElem?_of_mem hb
  obtain ⟨a, ha, rfl⟩ := bidsOf_get hi
  have := h a (List.mem_of_getElem? ha)
  simp only [hf, decide_eq_true_eq]
  omega
theorem wins_plain {z a : Int} {v : Bool} {L : List Int} {k : Nat} (hk : L[k]? = some a) (hr : z ≤ a) (h3 : ∀ (j : Nat) (x : Int), L[j]? = some x → j < k → x < a) (h4 : ∀ (j : Nat) (x : Int), L[j]? = some x → x ≤ a) :
    endR (withBids ⟨#[120]⟩ v z (bidsOf plainB L)) = ⟨⟨#[120]⟩, (k : Int), if v = true then secP z k L L.length else a⟩ := by
  have := endR_best (s := withBids ⟨#[120]⟩ v z (bidsOf plainB L)) (f := plainB) (l := L) rfl hk hr h3 h4
  rw [this]
  unfold secP
  rw [List.take_of_length_le (Nat.le_refl _)]
  rfl
theorem wins_more {z a mo : Int} {v : Bool} {L : List Int} {k : Nat} (hmo : 0 ≤ mo) (hk : L[k]? = some a) (hr : z ≤ a) (h3 : ∀ (j : Nat) (x : Int), L[j]? = some x → j < k → x < a) (h4 : ∀ (j : Nat) (x : Int), L[j]? = some x → x ≤ a) :
    endR (withBids ⟨#[120]⟩ v z (bidsOf (moreB k mo) L)) = ⟨⟨#[120]⟩, (k : Int), if v = true then secP z k L L.length else a + mo⟩ := by
  have e : moreB k mo k a = a + mo := by unfold moreB; rw [if_pos rfl]
  have := endR_best (s := withBids ⟨#[120]⟩ v z (bidsOf (moreB k mo) L)) (f := moreB k mo) (l := L) rfl hk (by rw [e]; show z ≤ a + mo; omega)
    (fun j x hj hjk => by
      have h := h3 j x hj hjk
      have e2 : moreB k mo j x = x := by unfold moreB; rw [if_neg (by omega)]
      rw [e, e2]; omega)
    (fun j x hj => by
      have h := h4 j x hj
      rw [e]
      unfold moreB
      split <;> omega)
  rw [this, e]
  unfold secP
  have h5 := others_same (r := z) (k := (k : Int)) (f1 := moreB k mo) (f2 := plainB) (fun j x hj => by unfold moreB plainB; rw [if_neg hj]) L L.length
  rw [List.take_of_length_le (Nat.le_refl _)] at h5
  rw [List.take_of_length_le (Nat.le_refl _), ← h5]
  rfl
theorem secP_le {z a : Int} {b : Int} {L : List Int} (hr : z ≤ a) (h4 : ∀ (j : Nat) (x : Int), L[j]? = some x → x ≤ a) (k : Nat) : secP z b L k ≤ a := by
  induction k with
  | zero => rw [secP_zero]; exact hr
  | succ k ih =>
    cases hx : L[k]? with
    | none =>
      unfold secP at ih ⊢
      rw [List.take_add_one, hx]
      simpa using ih
    | some x =>
      rw [secP_step hx]
      have := h4 k x hx
      split <;> omega
theorem secP_ge (z b : Int) (L : List Int) (k : Nat) : z ≤ secP z b L k := (maxP_is _ _).2.1
end Go.Proofs.Yteockodnfempfaa
/- AuctionWins returns true, walked. Conditions: those named in each theorem. -/
namespace Go.Proofs.Yteockodnfempfaa
open Go Go.RowKit Go.Gv Go.Sort

def ints (L : List Int) : List I64 := L.map I64.mk
theorem ints_len (L : List Int) : (ints L).length = L.length := by unfold ints; simp
theorem ints_get {L : List Int} {k : Nat} {x : Int} (h : L[k]? = some x) : (ints L)[k]? = some ⟨x⟩ := by unfold ints; rw [List.getElem?_map, h]; rfl
/-- A cell of a list of ints. -/
theorem ints_cell {w : World} {B : Nat} {ad : Addr} {n : Nat} {L : List Int} (h : Sl I64 w B (some ad) n (ints L)) {k : Nat} {x : Int} (hx : L[k]? = some x) : w.cell? (ad.add k) = some (.int .i64 x) := by
  have hk : k < n := by rw [← h.1, ints_len]; exact (List.getElem?_eq_some_iff.1 hx).1
  obtain ⟨ad', y, e, _, hy, hg⟩ := h.at_ hk
  injection e with e; subst e
  rw [ints_get hx] at hy
  injection hy with hy; subst hy
  have := getI hg
  rw [show Enc.n I64 = 1 from rfl, Nat.mul_one] at this
  exact this
def WinsMade (z : Int) (w0 w : World) (k : Nat) (L : List Int) (b : Int) (l : Value) : Prop :=
  L.length = k ∧ (∀ a ∈ L, 1 ≤ a ∧ a ≤ 80) ∧ BestAt z L b ∧ OwnS w w0.heap.size 3 l (ints L) ∧ Bel w0 w
theorem best_lt {z : Int} {L : List Int} {b : Int} (h : BestAt z L b) : -1 ≤ b ∧ b < L.length := by
  rcases h with ⟨rfl, _⟩ | ⟨k, a, rfl, h1, _⟩
  · omega
  · have := (List.getElem?_eq_some_iff.1 h1).1; omega
set_option maxRecDepth 100000 in
set_option maxHeartbeats 8000000 in
theorem wins_any (A : Option Addr) (n c : Nat) (xs : List I64) (res more : Int) (v : Bool) (w : World) (hx : Sl I64 w w.heap.size A n xs) (hox : ∀ x ∈ xs, -9223372036854775808 ≤ x.v ∧ x.v ≤ 9223372036854775807) (hn : n ≤ maxLen)
    (hm1 : -9223372036854775808 ≤ more) (hm2 : more ≤ 9223372036854775807) (hr1 : -9223372036854775808 ≤ res) (hr2 : res ≤ 9223372036854775807) :
    Calls Try.prog 8 #[.slice A n c, .int .i64 res, .int .i64 more, .bool v] w fun e w' => e = .returned (.bool true) ∧ Bel w w' := by
  unfold maxLen at hn
  obtain ⟨z, hz, hz0, hz1⟩ : ∃ z, within res 50 = z ∧ 0 ≤ z ∧ z < 50 := by
    refine ⟨_, rfl, ?_, ?_⟩ <;> unfold within <;> rw [if_neg (by omega)]
    · exact Int.emod_nonneg _ (by omega)
    · exact Int.emod_lt_of_pos _ (by omega)
  obtain ⟨mo, hmo, hmo0, hmo1⟩ : ∃ y, within more 100 = y ∧ 0 ≤ y ∧ y < 100 := by
    refine ⟨_, rfl, ?_, ?_⟩ <;> unfold within <;> rw [if_neg (by omega)]
    · exact Int.emod_nonneg _ (by omega)
    · exact Int.emod_lt_of_pos _ (by omega)
  have HX := Lib.hid hx; have HOX := Lib.hid hox; have HZ := Lib.hid hz; have HMO := Lib.hid hmo; clear hx hox hz hmo
  have HO := Lib.hid (open_first (name := ⟨#[120]⟩) (reserve := z) (close := 9) (now := 0) rfl (by omega) (by omega) (by omega))
  go_enter Try.func8, Try.ntmps8
  go_wp2_with fail
  refine (within_is res 50 z _ HZ.out (by omega) hr1 hr2).mono ?_
  rintro _ w0 ⟨rfl, h0⟩
  obtain rfl : w = w0 := by first | exact h0 | exact h0.symm
  go_wp2_with fail
  refine (new_any _).mono ?_
  rintro _ w1 ⟨g, r, rfl, hH, hg, hr, hne, hlt, hb⟩
  have hrl := hH.2.lt
  have HH := Lib.hid hH; have HB := Lib.hid hb; clear hH hb
  go_wp2_with fail
  refine (new_any _).mono ?_
  rintro _ w2 ⟨g', r', rfl, hH, hg', hr', hne', hlt', hb⟩
  have HH1 := Lib.hid (HH.out.step hb); have HK1 := Lib.hid hH; have HB2 := Lib.hid (HB.out.trans hb); clear hH hb HH HB
  have hrr : r' ≠ r := by omega
  have hgr : g' ≠ r := by omega
  have hgr2 : g ≠ r' := by omega
  have hrw' : w.heap.size ≤ r' := by omega
  go_wp2_with fail
  refine (open_is 0 _ ⟨g, 0, none⟩ r [] ⟨#[120]⟩ v z 9 0 _ HO.out (open_first_H HO.out) HH1.out hne (by decide) (by decide)).mono ?_
  rintro _ w3 ⟨rfl, hH, hg2⟩
  have HK2 := Lib.hid (HouseIs.apart HH1.out HK1.out hg2 hrr hgr); have HH2 := Lib.hid hH; have HB3 := Lib.hid (HB2.out.gxb hg2 hr); clear hH hg2 HH1 HK1 HB2
  go_wp2_with fail
  refine (open_is 0 _ ⟨g', 0, none⟩ r' [] ⟨#[120]⟩ v z 9 0 _ HO.out (open_first_H HO.out) HK2.out hne' (by decide) (by decide)).mono ?_
  rintro _ w4 ⟨rfl, hH, hg2⟩
  have HH3 := Lib.hid (HouseIs.apart HK2.out HH2.out hg2 (Ne.symm hrr) hgr2); have HK3 := Lib.hid hH; have HB4 := Lib.hid (HB3.out.gxb hg2 hrw'); clear hH hg2 HH2 HK2 HB3
  go_wp2_with fail
  go_loopw [11, 12, 13] (fun best l i wr => ∃ (k : Nat) (L : List Int) (b : Int), k ≤ n ∧ k ≤ 12 ∧ i = .int .i64 k ∧ best = .int .i64 b ∧ WinsMade z w4 wr k L b l) (fun _ _ i _ => 13 - (intOf i).toNat)
  case atStart => exact ⟨0, [], -1, by omega, by omega, rfl, rfl, rfl, by simp, BestAt.nil _, OwnS.nil _ _ _, Bel.refl _⟩
  case round =>
    obtain ⟨k, L, b, hk, hk12, rfl, rfl, hL, hLb, hbest, hown, hb5⟩ := hrel
    have HL := Lib.hid hL; have HLB := Lib.hid hLb; have HBE := Lib.hid hbest; have HOW := Lib.hid hown; have HB5 := Lib.hid hb5; clear hL hLb hbest hown hb5
    have hbl := best_lt HBE.out
    rw [HL.out] at hbl
    by_cases hcont : k < n ∧ k < 12
    · obtain ⟨hlt1, hlt12⟩ := hcont
      obtain ⟨ad, x, rfl, _, hxk, hgx⟩ := (HX.out.stepB (HB4.out.trans HB5.out)).at_ (k := k) hlt1
      have hxo := HOX.out x (List.mem_of_getElem? hxk)
      have hcx := getI hgx
      simp only [show Enc.n I64 = 1 from rfl, Nat.mul_one] at hcx
      clear hxk hgx
      obtain ⟨q, hq, hq0, hq1⟩ : ∃ q, within x.v 80 = q ∧ 0 ≤ q ∧ q < 80 := by
        refine ⟨_, rfl, ?_, ?_⟩ <;> unfold within <;> rw [if_neg (by omega)]
        · exact Int.emod_nonneg _ (by omega)
        · exact Int.emod_lt_of_pos _ (by omega)
      have HQ := Lib.hid hq; clear hq
      go_wp2_with fail
      refine (within_is x.v 80 q _ HQ.out (by omega) hxo.1 hxo.2).mono ?_
      rintro _ w6 ⟨rfl, h6⟩
      obtain rfl : wr = w6 := by first | exact h6 | exact h6.symm
      have hil : (ints L).length ≤ 12 := by rw [ints_len, HL.out]; omega
      obtain ⟨v7, w7, hrun7, ho7, hg7, _⟩ := gAppend_S (P := Try.prog) ei45 (t := 45) (HOW.out.alloc (.cells #[.int .i64 (1 + q)] 3)) (c := 1) (m := 1) (A := some ⟨wr.heap.size, 0, none⟩) (Sl.new_ (B := wr.heap.size + 1) (xs := [(⟨1 + q⟩ : I64)]) rfl rfl rfl (by omega)) (Nat.le_trans (Nat.add_le_add_right hil 1) (by unfold maxLen; omega)) (Nat.le_trans (Nat.mul_le_mul_right _ (Nat.add_le_add_right hil 1)) (by omega)) (by have := HB5.out.size; simp only [World.size_alloc]; omega) 45
      have hb7 := (HB5.out.alloc (.cells #[.int .i64 (1 + q)] 3)).appS hg7 (HOW.out.alloc (.cells #[.int .i64 (1 + q)] 3)) (Nat.le_refl _)
      have eL : ints L ++ [(⟨1 + q⟩ : I64)] = ints (L ++ [1 + q]) := by unfold ints; simp
      rw [eL] at ho7
      obtain ⟨A7, c7, hv7, hoa7, _, _⟩ := OwnS.ownA ho7
      obtain ⟨g7, rfl, _, _, _⟩ := OwnA.place hoa7 (by rw [ints_len]; simp)
      have hsl7 := hoa7.sl
      have hk7 : w7.cell? ⟨g7, k, none⟩ = some (.int .i64 (1 + q)) := by
        have := ints_cell hsl7 (k := k) (x := 1 + q) (by rw [← HL.out]; simp)
        rwa [addN, Nat.zero_add] at this
      have hlen7 : (ints (L ++ [1 + q])).length = k + 1 := by rw [ints_len, List.length_append, HL.out]; rfl
      have hold : ∀ (j : Nat) (a : Int), L[j]? = some a → w7.cell? ⟨g7, j, none⟩ = some (.int .i64 a) := fun j a ha => by
        have := ints_cell hsl7 (k := j) (x := a) (by rw [List.getElem?_append_left (List.getElem?_eq_some_iff.1 ha).1]; exact ha)
        rwa [addN, Nat.zero_add] at this
      rw [hlen7] at hv7
      subst hv7
      have HOLD := Lib.hid hold; have HO7 := Lib.hid ho7; have HB7 := Lib.hid hb7
      have HLB7 := Lib.hid (show ∀ a ∈ L ++ [1 + q], 1 ≤ a ∧ a ≤ 80 from fun a ha => by
        rw [List.mem_append, List.mem_singleton] at ha
        rcases ha with ha | rfl
        · exact HLB.out a ha
        · omega)
      have HL7 := Lib.hid (show (L ++ [1 + q]).length = k + 1 by rw [List.length_append, HL.out]; rfl)
      clear hold ho7 hb7 hsl7 hoa7 hlen7 eL hg7 hil
      have hkz0 : (0 : Int) ≤ (k : Int) := by omega
      have hkz1 : (k : Int) < (k : Int) + 1 := by omega
      have hkz2 : k < k + 1 := by omega
      by_cases hzr : z ≤ 1 + q
      · by_cases hb0 : b < 0
        · have HBN := Lib.hid (HBE.out.new hzr (.inl hb0))
          rw [HL.out] at HBN
          go_wp2_with fail
          go_quiet (fail)
          go_wp2_with fail
          exact ⟨⟨k + 1, L ++ [1 + q], k, by omega, by omega, by go_num, rfl, HL7.out, HLB7.out, HBN.out, OwnS.drewN HO7.out _, HB7.out.drewN _⟩, by simp [intOf]; omega⟩
        · obtain ⟨j, hj⟩ := Int.eq_ofNat_of_zero_le (Int.not_lt.1 hb0)
          subst hj
          obtain ⟨a, ha⟩ : ∃ a, L[j]? = some a := ⟨_, List.getElem?_eq_getElem (by rw [HL.out]; omega)⟩
          have hja := HOLD.out j a ha
          have HA := Lib.hid ha; clear ha
          have hj0 : (0 : Int) ≤ (j : Int) := by omega
          have hj1 : (j : Int) < (k : Int) + 1 := by omega
          have hj2 : j < k + 1 := by omega
          by_cases hgt : a < 1 + q
          · have HBN := Lib.hid (HBE.out.new hzr (.inr ⟨j, a, rfl, HA.out, hgt⟩))
            rw [HL.out] at HBN
            go_wp2_with fail
            go_quiet (fail)
            go_wp2_with fail
            exact ⟨⟨k + 1, L ++ [1 + q], k, by omega, by omega, by go_num, rfl, HL7.out, HLB7.out, HBN.out, OwnS.drewN HO7.out _, HB7.out.drewN _⟩, by simp [intOf]; omega⟩
          · have HBN := Lib.hid (HBE.out.same (x := 1 + q) (.inr ⟨j, a, rfl, HA.out, by omega⟩))
            go_wp2_with fail
            go_quiet (fail)
            go_wp2_with fail
            exact ⟨⟨k + 1, L ++ [1 + q], j, by omega, by omega, by go_num, rfl, HL7.out, HLB7.out, HBN.out, OwnS.drewN HO7.out _, HB7.out.drewN _⟩, by simp [intOf]; omega⟩
      · have HBN := Lib.hid (HBE.out.same (x := 1 + q) (.inl (by omega)))
        have hzr2 : 1 + q < z := by omega
        have hzd : decide (z ≤ 1 + q) = false := by simpa using hzr2
        clear hzr
        go_wp2_with fail
        go_quiet (fail)
        go_wp2_with fail
        exact ⟨⟨k + 1, L ++ [1 + q], b, by omega, by omega, by go_num, rfl, HL7.out, HLB7.out, HBN.out, OwnS.drewN HO7.out _, HB7.out.drewN _⟩, by simp [intOf]; omega⟩
    · obtain ⟨A1, c1, hv1, hoa1, _, _⟩ := OwnS.ownA HOW.out
      have hlen1 : (ints L).length = k := by rw [ints_len, HL.out]
      have hsl1 := hoa1.sl
      rw [hlen1] at hv1 hsl1
      subst hv1
      have HSL := Lib.hid hsl1
      have HHW := Lib.hid (HH3.out.step HB5.out); have HKW := Lib.hid (HK3.out.step HB5.out); have HBW := Lib.hid (HB4.out.trans HB5.out)
      clear hsl1 hoa1 hlen1 HOW HB5 HX HOX
      have hstop : (n : Int) ≤ (k : Int) ∨ ((k : Int) < (n : Int) ∧ 12 ≤ (k : Int)) := by omega
      have hk12b : (k : Int) ≤ 12 := by omega
      rcases hstop with hs | ⟨hs, hs2⟩
      all_goals
        go_wp2_with fail
        go_loopw [88] (fun i wr2 => ∃ j : Nat, j ≤ k ∧ i = .int .i64 j ∧ HouseIs wr2 ⟨g, 0, none⟩ r [(⟨#[120]⟩, withBids ⟨#[120]⟩ v z (bidsOf plainB (L.take j)))] ∧ HouseIs wr2 ⟨g', 0, none⟩ r' [(⟨#[120]⟩, withBids ⟨#[120]⟩ v z (bidsOf (moreB b mo) (L.take j)))] ∧ Sl I64 wr2 wr2.heap.size A1 k (ints L) ∧ Bel w wr2) (fun i _ => k - (intOf i).toNat)
        case atStart => exact ⟨0, by omega, rfl, HHW.out, HKW.out, HSL.out, HBW.out⟩
        case round =>
          obtain ⟨j, hjk, rfl, hH, hK, hsl, hb⟩ := hrel
          have HHJ := Lib.hid hH; have HKJ := Lib.hid hK; have HSJ := Lib.hid hsl; have HBJ := Lib.hid hb; clear hH hK hsl hb
          by_cases hltj : j < k
          · obtain ⟨a, ha⟩ : ∃ a, L[j]? = some a := ⟨_, List.getElem?_eq_getElem (by rw [HL.out]; exact hltj)⟩
            have hab := HLB.out a (List.mem_of_getElem? ha)
            have hlen : (L.take j).length = j := by rw [List.length_take, HL.out]; omega
            obtain ⟨ad, _, rfl, _, _, _⟩ := HSJ.out.at_ (k := j) hltj
            have hc1 := ints_cell HSJ.out ha
            have hP := bidsOf_take (f := plainB) ha
            have hM := bidsOf_take (f := moreB b mo) ha
            have hNP := hasBid_places plainB (L.take j) j (by rw [hlen]; exact Int.le_refl _)
            have hNM := hasBid_places (moreB b mo) (L.take j) j (by rw [hlen]; exact Int.le_refl _)
            have hLP : (bidsOf plainB (L.take j)).length = j := by rw [bidsOf_len, hlen]
            have hLM : (bidsOf (moreB b mo) (L.take j)).length = j := by rw [bidsOf_len, hlen]
            have HA := Lib.hid ha; have HP := Lib.hid hP; have HM := Lib.hid hM; have HNP := Lib.hid hNP; have HNM := Lib.hid hNM; have HLP := Lib.hid hLP; have HLM := Lib.hid hLM
            clear ha hlen hP hM hNP hNM hLP hLM
            go_wp2_with fail
            refine (bid_one ⟨g, 0, none⟩ r ⟨#[120]⟩ (withBids ⟨#[120]⟩ v z (bidsOf plainB (L.take j))) j a 5 _ HHJ.out hne rfl (by show (5 : Int) ≤ 9; omega) (by omega) (by omega) (by omega) (by omega) HNP.out (by show (bidsOf plainB (L.take j)).length ≤ 1000; rw [HLP.out]; omega)).mono ?_
            rintro _ w6 ⟨rfl, hH, hg2⟩
            have HK6 := Lib.hid (HouseIs.apart HHJ.out HKJ.out hg2 hrr hgr)
            have HH6 := Lib.hid (show HouseIs w6 ⟨g, 0, none⟩ r [(⟨#[120]⟩, withBids ⟨#[120]⟩ v z (bidsOf plainB (L.take (j + 1))))] by rw [HP.out]; exact hH)
            have HS6 := Lib.hid (HHJ.out.sl hg2 HSJ.out)
            have HB6 := Lib.hid (HBJ.out.gxb hg2 hr)
            clear hH hg2 HHJ HKJ HBJ HSJ hc1
            have hc2 := ints_cell HS6.out HA.out
            by_cases hjb : (j : Int) = b
            · have hbb : ((j : Int) == b) = true := by simpa using hjb
              have HMV := Lib.hid (show moreB b mo j a = a + mo by unfold moreB; rw [if_pos hjb])
              clear hjb
              go_wp2_with fail
              refine (within_is more 100 mo _ HMO.out (by omega) hm1 hm2).mono ?_
              rintro _ w7 ⟨rfl, rfl⟩
              go_wp2_with fail
              refine (bid_one ⟨g', 0, none⟩ r' ⟨#[120]⟩ (withBids ⟨#[120]⟩ v z (bidsOf (moreB b mo) (L.take j))) j (a + mo) 5 _ HK6.out hne' rfl (by show (5 : Int) ≤ 9; omega) (by omega) (by omega) (by omega) (by omega) HNM.out (by show (bidsOf (moreB b mo) (L.take j)).length ≤ 1000; rw [HLM.out]; omega)).mono ?_
              rintro _ w8 ⟨rfl, hH, hg2⟩
              have HH8 := Lib.hid (HouseIs.apart HK6.out HH6.out hg2 (Ne.symm hrr) hgr2)
              have HK8 := Lib.hid (show HouseIs w8 ⟨g', 0, none⟩ r' [(⟨#[120]⟩, withBids ⟨#[120]⟩ v z (bidsOf (moreB b mo) (L.take (j + 1))))] by rw [HM.out, HMV.out]; exact hH)
              have HS8 := Lib.hid (HK6.out.sl hg2 HS6.out)
              have HB8 := Lib.hid (HB6.out.gxb hg2 hrw')
              clear hH hg2 HH6 HK6 HB6 HS6 hc2
              go_wp2_with fail
              exact ⟨⟨j + 1, by omega, by go_num, HH8.out, HK8.out, HS8.out, HB8.out⟩, by simp [intOf]; omega⟩
            · have hbb : ((j : Int) == b) = false := by simpa using hjb
              have HMV := Lib.hid (show moreB b mo j a = a by unfold moreB; rw [if_neg hjb])
              clear hjb
              go_wp2_with fail
              refine (bid_one ⟨g', 0, none⟩ r' ⟨#[120]⟩ (withBids ⟨#[120]⟩ v z (bidsOf (moreB b mo) (L.take j))) j a 5 _ HK6.out hne' rfl (by show (5 : Int) ≤ 9; omega) (by omega) (by omega) (by omega) (by omega) HNM.out (by show (bidsOf (moreB b mo) (L.take j)).length ≤ 1000; rw [HLM.out]; omega)).mono ?_
              rintro _ w8 ⟨rfl, hH, hg2⟩
              have HH8 := Lib.hid (HouseIs.apart HK6.out HH6.out hg2 (Ne.symm hrr) hgr2)
              have HK8 := Lib.hid (show HouseIs w8 ⟨g', 0, none⟩ r' [(⟨#[120]⟩, withBids ⟨#[120]⟩ v z (bidsOf (moreB b mo) (L.take (j + 1))))] by rw [HM.out, HMV.out]; exact hH)
              have HS8 := Lib.hid (HK6.out.sl hg2 HS6.out)
              have HB8 := Lib.hid (HB6.out.gxb hg2 hrw')
              clear hH hg2 HH6 HK6 HB6 HS6 hc2
              go_wp2_with fail
              exact ⟨⟨j + 1, by omega, by go_num, HH8.out, HK8.out, HS8.out, HB8.out⟩, by simp [intOf]; omega⟩
          · have ekj : j = k := by omega
            cases ekj
            have htk : L.take k = L := List.take_of_length_le (by rw [HL.out]; exact Nat.le_refl _)
            have hH := HHJ.out; have hK := HKJ.out
            rw [htk] at hH hK
            have HHE := Lib.hid hH; have HKE := Lib.hid hK
            clear hH hK htk HHJ HKJ
            go_wp2_with fail
            refine (settle_due ⟨g, 0, none⟩ r ⟨#[120]⟩ (withBids ⟨#[120]⟩ v z (bidsOf plainB L)) 10 _ HHE.out hne rfl rfl (by show (9 : Int) < 10; omega) (by show (bidsOf plainB L).length < 20; rw [bidsOf_len, HL.out]; omega)).mono ?_
            rintro _ w6 ⟨g6, c6, rfl, hget, hg6, hH, hg2⟩
            have HK6 := Lib.hid (HouseIs.apart HHE.out HKE.out hg2 hrr hgr); have HB6 := Lib.hid (HBJ.out.gxb hg2 hr); have HG6 := Lib.hid hget; have HS6 := Lib.hid (HHE.out.sl hg2 HSJ.out)
            have hr6 := HKE.out.2.lt
            clear hH hg2 hget HHE HKE HBJ HSJ
            go_wp2_with fail
            refine (settle_due ⟨g', 0, none⟩ r' ⟨#[120]⟩ (withBids ⟨#[120]⟩ v z (bidsOf (moreB b mo) L)) 10 _ HK6.out hne' rfl rfl (by show (9 : Int) < 10; omega) (by show (bidsOf (moreB b mo) L).length < 20; rw [bidsOf_len, HL.out]; omega)).mono ?_
            rintro _ w7 ⟨g7, c7, rfl, hget, hg7, hH, hg2⟩
            have HB7 := Lib.hid (HB6.out.gxb hg2 hrw')
            have hga : get? GAuctionResult w7 ⟨g6, 0, none⟩ = some (endR (withBids ⟨#[120]⟩ v z (bidsOf plainB L))) := GX.getS hg2 HG6.out (by show g6 ≠ r'; omega)
            have hsl7 := HK6.out.sl hg2 HS6.out
            clear hH hg2 HK6 HB6 HG6 HS6
            have HGA := Lib.hid hga; have HGB := Lib.hid hget; have HS7 := Lib.hid hsl7
            clear hga hget hsl7
            rcases HBE.out with ⟨rfl, hnone⟩ | ⟨kb, a, rfl, hka, hza, h3, h4⟩
            · have hga := HGA.out; have hgb := HGB.out
              rw [wins_none (f := plainB) (fun _ _ => rfl) hnone] at hga
              rw [wins_none (f := moreB (-1) mo) (fun j x => by unfold moreB; rw [if_neg (by omega)]) hnone] at hgb
              have a0 := cell_zero (GAuctionResult.at_name hga)
              have a1 : w7.cell? ⟨g6, 1, none⟩ = some (.int .i64 (-1)) := by simpa using cell_off (by omega) (GAuctionResult.at_winner hga)
              have a2 : w7.cell? ⟨g6, 2, none⟩ = some (.int .i64 0) := by simpa using cell_off (by omega) (GAuctionResult.at_price hga)
              have b1 : w7.cell? ⟨g7, 1, none⟩ = some (.int .i64 (-1)) := by simpa using cell_off (by omega) (GAuctionResult.at_winner hgb)
              clear hga hgb hnone
              go_wp2_with fail
              refine (wakesA_any _).mono ?_
              rintro _ w8 ⟨rfl, hb8⟩
              have HB8 := Lib.hid (HB7.out.trans hb8); clear hb8
              go_wp2_with fail
              go_ret
              exact ⟨rfl, HB8.out⟩
            · have hga := HGA.out; have hgb := HGB.out
              rw [wins_plain hka hza h3 h4] at hga
              rw [wins_more hmo0 hka hza h3 h4] at hgb
              have hkk : kb < k := by have := (List.getElem?_eq_some_iff.1 hka).1; rw [HL.out] at this; exact this
              obtain ⟨ad, _, rfl, _, _, _⟩ := HS7.out.at_ (k := kb) hkk
              have hca := ints_cell HS7.out hka
              have hle := secP_le (b := (kb : Int)) hza h4 k
              have hge := secP_ge z (kb : Int) L k
              rw [HL.out] at hga hgb
              have HKA := Lib.hid hka; have H4 := Lib.hid h4
              clear hka h3 h4
              have hkb0 : (0 : Int) ≤ (kb : Int) := by omega
              have hkb1 : (kb : Int) < (k : Int) := by omega
              obtain ⟨sp, hsp⟩ : ∃ s, secP z (kb : Int) L k = s := ⟨_, rfl⟩
              rw [hsp] at hga hgb hle hge
              have HSP := Lib.hid hsp; clear hsp
              have a0 := cell_zero (GAuctionResult.at_name hga)
              have a1 : w7.cell? ⟨g6, 1, none⟩ = some (.int .i64 (kb : Int)) := by simpa using cell_off (by omega) (GAuctionResult.at_winner hga)
              have b1 : w7.cell? ⟨g7, 1, none⟩ = some (.int .i64 (kb : Int)) := by simpa using cell_off (by omega) (GAuctionResult.at_winner hgb)
              have HGA2 := Lib.hid hga; have HGB2 := Lib.hid hgb; clear hga hgb
              go_wp2_with fail
              go_loopw [18, 164] (fun s i wr => ∃ j : Nat, j ≤ k ∧ i = .int .i64 j ∧ s = .int .i64 (secP z kb L j) ∧ ∃ q, wr = w7.drewN q) (fun _ i _ => k - (intOf i).toNat)
              case atStart => exact ⟨0, by omega, rfl, rfl, 0, rfl⟩
              case round =>
                obtain ⟨j, hjk, rfl, rfl, q, rfl⟩ := hrel
                by_cases hjlt : j < k
                · obtain ⟨x, hx⟩ : ∃ x, L[j]? = some x := ⟨_, List.getElem?_eq_getElem (by rw [HL.out]; exact hjlt)⟩
                  have hcx := ints_cell HS7.out hx
                  have hst := secP_step (z := z) (b := (kb : Int)) hx
                  have hj0 : (0 : Int) ≤ (j : Int) := by omega
                  have hj1 : (j : Int) < (k : Int) := by omega
                  clear hx
                  by_cases hjb : (j : Int) = (kb : Int)
                  · rw [if_neg (fun h => h.2 hjb)] at hst
                    have hbb : ((j : Int) != (kb : Int)) = false := by simpa using hjb
                    have HST := Lib.hid hst; clear hst hjb
                    go_wp2_with fail
                    exact ⟨⟨j + 1, by omega, by go_num, by rw [HST.out], q, rfl⟩, by simp [intOf]; omega⟩
                  · have hbb : ((j : Int) != (kb : Int)) = true := by simpa using hjb
                    by_cases hzx : z ≤ x
                    · rw [if_pos ⟨hzx, hjb⟩] at hst
                      have HST := Lib.hid hst; clear hst hjb
                      go_wp2_with fail
                      exact ⟨⟨j + 1, by omega, by go_num, by rw [HST.out], q, rfl⟩, by simp [intOf]; omega⟩
                    · rw [if_neg (fun h => hzx h.1)] at hst
                      have HST := Lib.hid hst; clear hst hjb
                      have hzx2 : x < z := by omega
                      have hzd : decide (z ≤ x) = false := by simpa using hzx2
                      clear hzx
                      go_wp2_with fail
                      exact ⟨⟨j + 1, by omega, by go_num, by rw [HST.out], q, rfl⟩, by simp [intOf]; omega⟩
                · have ejk : j = k := by omega
                  cases ejk
                  have hga := HGA2.out; have hgb := HGB2.out
                  have HSQ := HSP.out
                  rw [HSQ]
                  clear HSQ
                  cases v
                  · have a2 : w7.cell? ⟨g6, 2, none⟩ = some (.int .i64 a) := by simpa using cell_off (by omega) (GAuctionResult.at_price hga)
                    clear hga hgb
                    go_wp2_with fail
                    refine (wakesA_any _).mono ?_
                    rintro _ w8 ⟨rfl, hb8⟩
                    have HB8 := Lib.hid ((HB7.out.drewN q).trans hb8); clear hb8
                    go_wp2_with fail
                    go_ret
                    exact ⟨rfl, HB8.out⟩
                  · have a2 : w7.cell? ⟨g6, 2, none⟩ = some (.int .i64 sp) := by simpa using cell_off (by omega) (GAuctionResult.at_price hga)
                    have b2 : w7.cell? ⟨g7, 2, none⟩ = some (.int .i64 sp) := by simpa using cell_off (by omega) (GAuctionResult.at_price hgb)
                    clear hga hgb
                    go_wp2_with fail
                    refine (wakesA_any _).mono ?_
                    rintro _ w8 ⟨rfl, hb8⟩
                    have HB8 := Lib.hid ((HB7.out.drewN q).trans hb8); clear hb8
                    go_wp2_with fail
                    go_ret
                    exact ⟨rfl, HB8.out⟩
end Go.Proofs.Yteockodnfempfaa
