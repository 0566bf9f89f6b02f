/- A house of one auction: what each call does to it. Conditions: those named in each theorem. -/
import Derived.Test.YteockodnfempfaaAuQ
import Derived.Test.YteockodnfempfaaAuR
namespace Go.Proofs.Yteockodnfempfaa
open Go Go.RowKit Go.Gv Go.Sort

theorem open_is (c : Int) (H' : MHouse) (p : Addr) (r : Nat) (H : MHouse) (name : ByteArray) (v : Bool) (reserve close now : Int) (w : World) (ho : openR H name reserve close now = c) (hO : openH H name v reserve close now = H') (hH : HouseIs w p r H) (hp : p.block ≠ r) (hn : name.size ≤ maxLen) (hlen : H.length ≤ maxLen) :
    Calls Try.prog 35 #[.pointer (some p), .string name, .bool v, .int .i64 reserve, .int .u64 close, .int .u64 now] w fun e w' => e = .returned (.int .i64 c) ∧ HouseIs w' p r H' ∧ GX r w w' := by
  subst ho; subst hO; exact open_any p r H name v reserve close now w hH hp hn hlen
theorem bid_is (c : Int) (H' : MHouse) (p : Addr) (r : Nat) (H : MHouse) (name : ByteArray) (client amount now : Int) (w : World) (ho : bidR H name client amount now = c) (hO : bidH H name client amount now = H') (hH : HouseIs w p r H) (hp : p.block ≠ r) (hbig : ∀ x, mget H name = some x → x.bids.length ≤ 1000000) :
    Calls Try.prog 36 #[.pointer (some p), .string name, .int .i64 client, .int .i64 amount, .int .u64 now] w fun e w' => e = .returned (.int .i64 c) ∧ HouseIs w' p r H' ∧ GX r w w' := by
  subst ho; subst hO; exact bid_any p r H name client amount now w hH hp hbig
theorem openH_no {H : MHouse} {name : ByteArray} {v : Bool} {reserve close now : Int} (h : openR H name reserve close now ≠ 0) : openH H name v reserve close now = H := by unfold openH; rw [if_neg h]
theorem open_first {name : ByteArray} {reserve close now : Int} (hn : nameB name = true) (h0 : 0 ≤ reserve) (h1 : reserve ≤ 1099511627776) (hc : now < close) : openR [] name reserve close now = 0 := by
  unfold openR badOpen
  have a : ¬ reserve < 0 := by omega
  have b : ¬ 1099511627776 < reserve := by omega
  have c : ¬ close ≤ now := by omega
  simp [hn, a, b, c, mget_nil]
theorem open_first_H {name : ByteArray} {v : Bool} {reserve close now : Int} (h : openR [] name reserve close now = 0) : openH [] name v reserve close now = [(name, newSale name v reserve close)] := by
  unfold openH
  rw [if_pos h]; unfold mset; simp
theorem open_there {k : ByteArray} {x : MSale} {reserve close now : Int} (hn : nameB k = true) (h0 : 0 ≤ reserve) (h1 : reserve ≤ 1099511627776) : openR [(k, x)] k reserve close now = 5 := by
  unfold openR badOpen
  have a : ¬ reserve < 0 := by omega
  have b : ¬ 1099511627776 < reserve := by omega
  rw [mget_one]
  simp [hn, a, b]
theorem bidR_one (k : ByteArray) (x : MSale) (c a now : Int) : bidR [(k, x)] k c a now = if x.settled = true ∨ x.close < now then 11 else if badBid c a = true then 1 else if hasBid x.bids c = true then 5 else 0 := by
  unfold bidR; rw [mget_one]
theorem bid_ok {k : ByteArray} {x : MSale} {c a now : Int} (hs : x.settled = false) (hc : now ≤ x.close) (hc0 : 0 ≤ c) (hc1 : c < 100) (ha0 : 1 ≤ a) (ha1 : a ≤ 1099511627776) (hn : hasBid x.bids c = false) : bidR [(k, x)] k c a now = 0 := by
  rw [bidR_one]
  unfold badBid
  have e1 : ¬ x.close < now := by omega
  have e2 : ¬ a < 1 := by omega
  have e3 : ¬ 1099511627776 < a := by omega
  have e4 : ¬ c < 0 := by omega
  have e5 : ¬ 100 ≤ c := by omega
  simp [hs, e1, e2, e3, e4, e5, hn]
theorem bid_ok_H {k : ByteArray} {x : MSale} {c a now : Int} (h : bidR [(k, x)] k c a now = 0) : bidH [(k, x)] k c a now = [(k, x.bid c a)] := by
  unfold bidH
  rw [mget_one]
  simp only
  rw [if_pos h, mset_one]
theorem bid_shut {k : ByteArray} {x : MSale} {c a now : Int} (h : x.settled = true ∨ x.close < now) : bidR [(k, x)] k c a now = 11 := by rw [bidR_one, if_pos h]
theorem bidH_no {k : ByteArray} {x : MSale} {c a now : Int} (h : bidR [(k, x)] k c a now ≠ 0) : bidH [(k, x)] k c a now = [(k, x)] := by
  unfold bidH
  rw [mget_one]
  simp only
  rw [if_neg h]
/-- A bid that is taken, by a house of one auction. -/
theorem bid_one (p : Addr) (r : Nat) (k : ByteArray) (x : MSale) (c a now : Int) (w : World) (hH : HouseIs w p r [(k, x)]) (hp : p.block ≠ r) (hs : x.settled = false) (hc : now ≤ x.close) (hc0 : 0 ≤ c) (hc1 : c < 100) (ha0 : 1 ≤ a) (ha1 : a ≤ 1099511627776) (hn : hasBid x.bids c = false) (hl : x.bids.length ≤ 1000) :
    Calls Try.prog 36 #[.pointer (some p), .string k, .int .i64 c, .int .i64 a, .int .u64 now] w fun e w' => e = .returned (.int .i64 0) ∧ HouseIs w' p r [(k, x.bid c a)] ∧ GX r w w' := by
  have h := bid_ok (k := k) hs hc hc0 hc1 ha0 ha1 hn
  refine bid_is 0 _ p r _ k c a now w h (bid_ok_H h) hH hp (fun y hy => ?_)
  rw [mget_one] at hy
  injection hy with hy; subst hy; omega
theorem bid_no (p : Addr) (r : Nat) (k : ByteArray) (x : MSale) (c a now : Int) (w : World) (hH : HouseIs w p r [(k, x)]) (hp : p.block ≠ r) (hs : x.settled = true ∨ x.close < now) (hl : x.bids.length ≤ 1000) :
    Calls Try.prog 36 #[.pointer (some p), .string k, .int .i64 c, .int .i64 a, .int .u64 now] w fun e w' => e = .returned (.int .i64 11) ∧ HouseIs w' p r [(k, x)] ∧ GX r w w' := by
  have h := bid_shut (k := k) (c := c) (a := a) hs
  refine bid_is 11 _ p r _ k c a now w h (bidH_no (by rw [h]; decide)) hH hp (fun y hy => ?_)
  rw [mget_one] at hy
  injection hy with hy; subst hy; omega
/-- What is due is settled: one result. -/
def SettledOne (w : World) (p : Addr) (r : Nat) (k : ByteArray) (x : MSale) (e : Ending) (w' : World) : Prop :=
  ∃ g c : Nat, e = .returned (.slice (some ⟨g, 0, none⟩) 1 c) ∧ get? GAuctionResult w' ⟨g, 0, none⟩ = some (endR x) ∧ w.heap.size ≤ g ∧ HouseIs w' p r [(k, doneM x)] ∧ GX r w w'
theorem settle_due (p : Addr) (r : Nat) (k : ByteArray) (x : MSale) (now : Int) (w : World) (hH : HouseIs w p r [(k, x)]) (hp : p.block ≠ r) (hk : x.name = k) (hs : x.settled = false) (hc : x.close < now) (hl : x.bids.length < 20) :
    Calls Try.prog 37 #[.pointer (some p), .int .u64 now] w (SettledOne w p r k x) := by
  have hd : dueB now x = true := by unfold dueB; simp [hs, hc]
  refine (settle_any p r [(k, x)] now w hH hp (fun q hq => ?_) (by simp) (fun q hq => ?_)).mono ?_
  · obtain rfl : q = (k, x) := by simpa using hq
    exact hk
  · obtain rfl : q = (k, x) := by simpa using hq
    exact hl
  · rintro e w' ⟨D, v, rfl, hD, _, hown, hH', hg⟩
    rw [dueM_one, if_pos hd] at hD
    obtain rfl := perm_one hD
    rw [settle_one, if_pos hd] at hH'
    obtain ⟨A, c, rfl, hoa, _, _⟩ := OwnS.ownA hown
    obtain ⟨g, rfl, hg1, _, _⟩ := OwnA.place hoa (by simp)
    obtain ⟨ad, y, he, _, hy, hget⟩ := hoa.sl.at_ (k := 0) (by simp)
    obtain rfl : ad = ⟨g, 0, none⟩ := by injection he with he; exact he.symm
    rw [Nat.zero_mul, Addr.add_zero'] at hget
    simp at hy; subst hy
    exact ⟨g, c, rfl, hget, hg1, hH', hg⟩
def SettledNone (w : World) (p : Addr) (r : Nat) (k : ByteArray) (x : MSale) (e : Ending) (w' : World) : Prop :=
  ∃ (A : Option Addr) (c : Nat), e = .returned (.slice A 0 c) ∧ HouseIs w' p r [(k, x)] ∧ GX r w w'
theorem settle_not (p : Addr) (r : Nat) (k : ByteArray) (x : MSale) (now : Int) (w : World) (hH : HouseIs w p r [(k, x)]) (hp : p.block ≠ r) (hk : x.name = k) (hs : x.settled = true ∨ now ≤ x.close) (hl : x.bids.length < 20) :
    Calls Try.prog 37 #[.pointer (some p), .int .u64 now] w (SettledNone w p r k x) := by
  have hd : ¬ dueB now x = true := by
    unfold dueB
    rcases hs with h | h
    · simp [h]
    · have : ¬ x.close < now := by omega
      simp [this]
  refine (settle_any p r [(k, x)] now w hH hp (fun q hq => ?_) (by simp) (fun q hq => ?_)).mono ?_
  · obtain rfl : q = (k, x) := by simpa using hq
    exact hk
  · obtain rfl : q = (k, x) := by simpa using hq
    exact hl
  · rintro e w' ⟨D, v, rfl, hD, _, hown, hH', hg⟩
    rw [dueM_one, if_neg hd] at hD
    obtain rfl := perm_none hD
    rw [settle_one, if_neg hd] at hH'
    obtain ⟨A, c, rfl, _, _, _⟩ := OwnS.ownA hown
    exact ⟨A, c, rfl, hH', hg⟩
end Go.Proofs.Yteockodnfempfaa
