/- The app: made, buried, counted, cloned. Conditions: those named in each theorem. -/
import Derived.Test.YtgeimnknmljplaaDoorP7
import Derived.Test.YtgeimnknmljplaaDoorP2
import Derived.Test.YtgeimnknmljplaaDoorP4
import Derived.Lib.ItoaLen
/- The app: what it holds, what is done. Conditions: those named in each theorem. -/
namespace Go.Proofs.YtgeimnknmljplaaDoor
open Go Go.RowKit Go.Gv Go.Sort Go.Proofs

/-- Amounts that may be. -/
def BidOk (b : GAuctionBid) : Prop := (0 ≤ b.client ∧ b.client < 100) ∧ 1 ≤ b.amount ∧ b.amount ≤ 1099511627776
def SaleOk (x : MSale) : Prop := (∀ b ∈ x.bids, BidOk b) ∧ (0 ≤ x.reserve ∧ x.reserve ≤ 1099511627776) ∧ (-1 ≤ x.result.winner ∧ x.result.winner < 100) ∧ 0 ≤ x.result.price ∧ x.result.price ≤ 1099511627776
theorem endR_ok {x : MSale} (h : SaleOk x) : (-1 ≤ (endR x).winner ∧ (endR x).winner < 100) ∧ 0 ≤ (endR x).price ∧ (endR x).price ≤ 1099511627776 := by
  have hm : ∀ b ∈ endBids x, BidOk b := fun b hb => by
    unfold endBids at hb
    have := (perm_sortL _ _).mem_iff.1 hb
    exact h.1 b (List.mem_filter.1 this).1
  unfold endR
  cases hE : endBids x with
  | nil => exact ⟨⟨Int.le_refl _, (by decide : (-1 : Int) < 100)⟩, Int.le_refl _, (by decide : (0 : Int) ≤ 1099511627776)⟩
  | cons b r =>
    rw [hE] at hm
    have hb := hm b (by simp)
    obtain ⟨⟨b1, b2⟩, b3, b4⟩ := hb
    obtain ⟨_, ⟨r1, r2⟩, _⟩ := h
    refine ⟨⟨by simp only; omega, by simp only; omega⟩, ?_⟩
    simp only [endPrice]
    split
    · cases r with
      | nil => exact ⟨r1, r2⟩
      | cons c l =>
        obtain ⟨_, c3, c4⟩ := hm c (by simp)
        exact ⟨by simp only; omega, c4⟩
    · exact ⟨by omega, b4⟩
def HouseOk (H : MHouse) : Prop := Named H ∧ ∀ q ∈ H, SaleOk q.2
theorem HouseOk.nil : HouseOk [] := ⟨fun q h => by simp at h, by simp⟩
theorem HouseOk.set {H : MHouse} (h : HouseOk H) {k : ByteArray} {x : MSale} (hk : x.name = k) (hx : SaleOk x) : HouseOk (mset H k x) := by
  refine ⟨h.1.set hk, fun q hq => ?_⟩
  unfold mset at hq
  split at hq
  · rw [List.mem_map] at hq
    obtain ⟨p, hp, rfl⟩ := hq
    split
    · exact hx
    · exact h.2 p hp
  · rw [List.mem_append, List.mem_singleton] at hq
    rcases hq with hq | rfl
    · exact h.2 q hq
    · exact hx
theorem HouseOk.openH {H : MHouse} (h : HouseOk H) (name : ByteArray) (v : Bool) (reserve close now : Int) : HouseOk (openH H name v reserve close now) := by
  unfold Go.Proofs.YtgeimnknmljplaaDoor.openH
  split
  · rename_i h0
    refine h.set rfl ⟨(fun b hb => nomatch hb), ?_, ⟨(by decide : (-1 : Int) ≤ 0), (by decide : (0 : Int) < 100)⟩, Int.le_refl _, (by decide : (0 : Int) ≤ 1099511627776)⟩
    unfold openR at h0
    split at h0
    · cases h0
    · rename_i hb
      unfold badOpen at hb
      simp only [Bool.or_eq_true, Bool.not_eq_true', decide_eq_true_eq] at hb
      show 0 ≤ reserve ∧ reserve ≤ 1099511627776
      omega
  · exact h
theorem HouseOk.bidH {H : MHouse} (h : HouseOk H) (name : ByteArray) (client amount now : Int) : HouseOk (bidH H name client amount now) := by
  unfold Go.Proofs.YtgeimnknmljplaaDoor.bidH
  cases hm : mget H name with
  | none => exact h
  | some x =>
    show HouseOk (if bidR H name client amount now = 0 then mset H name (x.bid client amount) else H)
    split
    · rename_i h0
      have hx : (name, x) ∈ H := mget_in hm
      have hs := h.2 _ hx
      refine h.set (h.1 _ hx) ⟨fun b hb => ?_, hs.2⟩
      rw [show (x.bid client amount).bids = x.bids ++ [⟨client, amount⟩] from rfl, List.mem_append, List.mem_singleton] at hb
      rcases hb with hb | rfl
      · exact hs.1 b hb
      · unfold bidR at h0
        rw [hm] at h0
        simp only at h0
        split at h0
        · cases h0
        · split at h0
          · cases h0
          · rename_i hbad
            unfold badBid at hbad
            simp only [Bool.or_eq_true, decide_eq_true_eq] at hbad
            show (0 ≤ client ∧ client < 100) ∧ 1 ≤ amount ∧ amount ≤ 1099511627776
            omega
    · exact h
theorem HouseOk.settleH {H : MHouse} (h : HouseOk H) (now : Int) : HouseOk (settleH H now) := by
  refine ⟨h.1.settle now, fun q hq => ?_⟩
  unfold Go.Proofs.YtgeimnknmljplaaDoor.settleH at hq
  rw [List.mem_map] at hq
  obtain ⟨p, hp, rfl⟩ := hq
  have hs := h.2 p hp
  split
  · exact ⟨hs.1, hs.2.1, endR_ok hs⟩
  · exact hs
def RegOk (Q : MReg) : Prop := Q.length ≤ 64 ∧ ∀ x ∈ Q, 0 ≤ x.2 ∧ x.2 < 100
theorem RegOk.nil : RegOk [] := ⟨by simp, by simp⟩
theorem RegOk.reserve {Q : MReg} (h : RegOk Q) (item : ByteArray) (client : Int) : RegOk (reserveQ Q item client) := by
  unfold reserveQ
  split
  · rename_i h0
    unfold reserveR at h0
    split at h0
    · rename_i hm
      unfold mayB at hm
      simp only [Bool.and_eq_true, decide_eq_true_eq] at hm
      split at h0
      · cases h0
      · rename_i hnone
        split at h0
        · cases h0
        · have hnk : item ∉ Q.map (·.1) := mget_none.1 (by simpa using hnone)
          unfold mset
          rw [if_neg hnk]
          refine ⟨by rw [List.length_append, List.length_singleton]; omega, fun x hx => ?_⟩
          rw [List.mem_append, List.mem_singleton] at hx
          rcases hx with hx | rfl
          · exact h.2 x hx
          · exact hm.2
    · cases h0
  · exact h
theorem RegOk.release {Q : MReg} (h : RegOk Q) (item : ByteArray) (client : Int) : RegOk (releaseQ Q item client) := by
  unfold releaseQ
  split
  · unfold mdel
    exact ⟨Nat.le_trans (List.length_filter_le _ _) h.1, fun x hx => h.2 x (List.mem_filter.1 hx).1⟩
  · exact h
theorem mget_inR {Q : MReg} {k : ByteArray} {v : Int} (hx : mget Q k = some v) : (k, v) ∈ Q := by
  unfold mget at hx
  cases hf : Q.find? (fun p => decide (p.1 = k)) with
  | none => rw [hf] at hx; cases hx
  | some p =>
    rw [hf] at hx
    injection hx with hx
    have h1 := List.find?_some hf
    have h2 := List.mem_of_find?_eq_some hf
    simp only [decide_eq_true_eq] at h1
    rw [← h1, ← hx]
    exact h2
structure MApp where
  house : MHouse
  reg : MReg
  n : Int
/-- An app at a: its house at g over the map r, its registry at p over the map q. -/
structure AppIs (w : World) (a g r p q : Nat) (M : MApp) (kk : Nat) : Prop where
  cells : w.heap[a]? = some (.cells #[.pointer (some ⟨g, 0, none⟩), .pointer (some ⟨p, 0, none⟩), .int .i64 M.n] 45 (0, 0))
  house : HouseIs w ⟨g, 0, none⟩ r M.house
  reg : RegIs w ⟨p, 0, none⟩ q M.reg
  apart : (g ≠ r ∧ p ≠ q ∧ r ≠ q) ∧ (g ≠ q ∧ p ≠ r) ∧ (a ≠ g ∧ a ≠ p) ∧ a ≠ r ∧ a ≠ q
  ok : HouseOk M.house
  good : GoodH M.house kk
  regs : RegOk M.reg
  count : 0 ≤ M.n ∧ M.n ≤ kk
/-- What an act changes of an app's blocks. -/
def footA (a r q : Nat) (k : Nat) : Prop := k = a ∨ k = r ∨ k = q
section
variable {w w' : World} {a g r p q kk : Nat} {M : MApp}
theorem AppIs.lt (h : AppIs w a g r p q M kk) : a < w.heap.size := by
  have := h.cells
  rcases Nat.lt_or_ge a w.heap.size with h1 | h1
  · exact h1
  · rw [Array.getElem?_eq_none h1] at this; cases this
theorem AppIs.at0 (h : AppIs w a g r p q M kk) : w.cell? ⟨a, 0, none⟩ = some (.pointer (some ⟨g, 0, none⟩)) := by unfold World.cell?; rw [h.cells]; rfl
theorem AppIs.at1 (h : AppIs w a g r p q M kk) : w.cell? ⟨a, 1, none⟩ = some (.pointer (some ⟨p, 0, none⟩)) := by unfold World.cell?; rw [h.cells]; rfl
theorem AppIs.at2 (h : AppIs w a g r p q M kk) : w.cell? ⟨a, 2, none⟩ = some (.int .i64 M.n) := by unfold World.cell?; rw [h.cells]; rfl
theorem AppIs.free (h : AppIs w a g r p q M kk) : blkFree w a = true := by unfold blkFree; rw [h.cells]; rfl
theorem AppIs.mono {j : Nat} (h : AppIs w a g r p q M kk) (hj : kk ≤ j) : AppIs w a g r p q M j := ⟨h.cells, h.house, h.reg, h.apart, h.ok, h.good.mono hj, h.regs, h.count.1, by have := h.count.2; omega⟩
theorem AppIs.bel (h : AppIs w a g r p q M kk) (hb : Bel w w') : AppIs w' a g r p q M kk := ⟨(Below.block hb a h.lt).trans h.cells, h.house.step hb, h.reg.step hb, h.apart, h.ok, h.good, h.regs, h.count⟩
theorem AppIs.noBid (h : AppIs w a g r p q M kk) : NoBid w a := by
  intro u x hx e
  have h0 := GAuctionBid.at_client hx
  have h1 := GAuctionBid.at_amount hx
  have hc := h.cells
  unfold World.cell? at h0 h1
  rw [add_block, e, hc] at h0 h1
  have e0 : u.add 0 = u := by unfold Addr.add; rw [if_pos rfl]
  have e1 : (u.add 1).off = u.off + 1 := by unfold Addr.add; rw [if_neg (by decide)]
  rw [e0] at h0
  simp only [e1] at h0 h1
  split at h0
  · cases h0
  · split at h1
    · cases h1
    · match hu : u.off with
      | 0 => rw [hu] at h0; cases h0
      | 1 => rw [hu] at h0; cases h0
      | k + 2 => rw [hu] at h1; cases h1
theorem AppIs.tick (h : AppIs w a g r p q M kk) : AppIs (w.setCell ⟨a, 2, none⟩ (.int .i64 (M.n + 1))) a g r p q { M with n := M.n + 1 } (kk + 1) := by
  have hc : Chg (fun k => k = a) w (w.setCell ⟨a, 2, none⟩ (.int .i64 (M.n + 1))) := ⟨rfl, rfl, rfl, by simp, fun k _ hn => Below.heap_setCell _ _ _ _ hn⟩
  obtain ⟨h1, h2, h3, h4, h5⟩ := h.apart
  refine ⟨?_, h.house.off2 (S := fun k => k = a) (fun k e => by subst e; exact h.noBid) hc (fun e => h3.1 e.symm) (fun e => h4 e.symm), h.reg.chg hc (fun e => h3.2 e.symm) (fun e => h5 e.symm), h.apart, h.ok, h.good.mono (by omega), h.regs, ?_⟩
  · rw [heap_setCell_same w a 2 _ _ _ h.cells]
    rfl
  · have := h.count
    exact ⟨by show 0 ≤ M.n + 1; omega, by show M.n + 1 ≤ ((kk + 1 : Nat) : Int); omega⟩
theorem AppIs.putHouse {H' : MHouse} {j : Nat} (h : AppIs w a g r p q M kk) (hg : GX r w w') (hH : HouseIs w' ⟨g, 0, none⟩ r H') (hok : HouseOk H') (hgd : GoodH H' j) (hj : kk ≤ j) : AppIs w' a g r p q { M with house := H' } j := by
  obtain ⟨h1, h2, h3, h4, h5⟩ := h.apart
  exact ⟨(hg.block a h.lt (fun e => h4 (Option.some.inj e))).trans h.cells, hH, h.reg.gx hg h2.2 (fun e => h1.2.2 e.symm), h.apart, hok, hgd, h.regs, h.count.1, by have := h.count.2; show M.n ≤ (j : Int); omega⟩
theorem AppIs.putReg {Q' : MReg} (h : AppIs w a g r p q M kk) (hg : GX q w w') (hQ : RegIs w' ⟨p, 0, none⟩ q Q') (hl : RegOk Q') : AppIs w' a g r p q { M with reg := Q' } kk := by
  obtain ⟨h1, h2, h3, h4, h5⟩ := h.apart
  exact ⟨(hg.block a h.lt (fun e => h5 (Option.some.inj e))).trans h.cells, h.house.gx h.reg.2 hg h1.2.2 h2.1, hQ, h.apart, h.ok, h.good, hl, h.count⟩
end
/-! ### What is done with a payload -/
def toldI (e : Int) : ByteArray := toldB e.toNat
theorem told_is (e : Int) (w : World) (h0 : 0 ≤ e) (h1 : e < 100) : Calls Tryd.prog 15 #[.int .i64 e] w fun r w' => r = .returned (.string (toldI e)) ∧ w' = w := by
  obtain ⟨n, rfl⟩ := Int.eq_ofNat_of_zero_le h0
  exact told_any n w (by omega)
theorem openR_range (H : MHouse) (name : ByteArray) (reserve close now : Int) : 0 ≤ openR H name reserve close now ∧ openR H name reserve close now < 100 := by
  unfold openR
  repeat' split
  all_goals omega
theorem bidR_range (H : MHouse) (name : ByteArray) (client amount now : Int) : 0 ≤ bidR H name client amount now ∧ bidR H name client amount now < 100 := by
  unfold bidR
  repeat' split
  all_goals omega
theorem reserveR_range (Q : MReg) (item : ByteArray) (client : Int) : 0 ≤ reserveR Q item client ∧ reserveR Q item client < 100 := by
  unfold reserveR
  repeat' split
  all_goals omega
theorem releaseR_range (Q : MReg) (item : ByteArray) (client : Int) : 0 ≤ releaseR Q item client ∧ releaseR Q item client < 100 := by
  unfold releaseR
  repeat' split
  all_goals omega
theorem resultR_range (H : MHouse) (name : ByteArray) : 0 ≤ (resultR H name).2 ∧ (resultR H name).2 < 100 := by
  unfold resultR
  repeat' split
  all_goals simp only
  all_goals omega
theorem resultR_ok {H : MHouse} (h : HouseOk H) (name : ByteArray) : (-1 ≤ (resultR H name).1.winner ∧ (resultR H name).1.winner < 100) ∧ 0 ≤ (resultR H name).1.price ∧ (resultR H name).1.price ≤ 1099511627776 := by
  unfold resultR
  cases hm : mget H name with
  | none => exact ⟨⟨(by decide : (-1 : Int) ≤ 0), (by decide : (0 : Int) < 100)⟩, Int.le_refl _, (by decide : (0 : Int) ≤ 1099511627776)⟩
  | some x =>
    simp only
    split
    · exact (h.2 _ (mget_in hm)).2.2
    · exact ⟨⟨(by decide : (-1 : Int) ≤ 0), (by decide : (0 : Int) < 100)⟩, Int.le_refl _, (by decide : (0 : Int) ≤ 1099511627776)⟩
def sErr : ByteArray := ⟨#[101, 114, 114, 111, 114, 32, 50]⟩
def itoaB (n : Int) : ByteArray := ⟨(Lib.itoa n).toArray⟩
def wonB (x : GAuctionResult) : ByteArray := ⟨#[119, 111, 110, 32]⟩ ++ itoaB x.winner ++ ⟨#[32]⟩ ++ itoaB x.price
def resultS (M : MApp) (name : ByteArray) : ByteArray := if (resultR M.house name).2 = 0 then if (resultR M.house name).1.winner < 0 then ⟨#[110, 111, 98, 111, 100, 121]⟩ else wonB (resultR M.house name).1 else toldI (resultR M.house name).2
def ownerS (M : MApp) (item : ByteArray) : ByteArray := match mget M.reg item with | none => ⟨#[110, 111, 110, 101]⟩ | some who => itoaB who
def wd (W : List ByteArray) (i : Nat) : ByteArray := W.getD i ByteArray.empty
def openOk (W : List ByteArray) : Bool := numB (wd W 3) && (numB (wd W 4) && (((wd W 2).toList == [102, 105, 114, 115, 116]) || ((wd W 2).toList == [115, 101, 99, 111, 110, 100])))
def openA (M : MApp) (W : List ByteArray) (now : Int) : ByteArray × MApp :=
  if openOk W = true then (toldI (openR M.house (wd W 1) (numI (wd W 3)) (numI (wd W 4)) now), { M with house := openH M.house (wd W 1) ((wd W 2).toList == [115, 101, 99, 111, 110, 100]) (numI (wd W 3)) (numI (wd W 4)) now }) else (sErr, M)
def bidA (M : MApp) (W : List ByteArray) (who now : Int) : ByteArray × MApp :=
  if numB (wd W 2) = true then (toldI (bidR M.house (wd W 1) who (numI (wd W 2)) now), { M with house := bidH M.house (wd W 1) who (numI (wd W 2)) now }) else (sErr, M)
def doA (M : MApp) (W : List ByteArray) (who now : Int) : ByteArray × MApp :=
  if ((wd W 0).toList == [110, 111, 116, 101]) = true then (toldI 0, M)
  else if ((wd W 0).toList == [97, 117, 99, 116, 105, 111, 110]) = true ∧ W.length = 5 then openA M W now
  else if ((wd W 0).toList == [98, 105, 100]) = true ∧ W.length = 3 then bidA M W who now
  else if W.length ≠ 2 then (sErr, M)
  else if ((wd W 0).toList == [114, 101, 115, 117, 108, 116]) = true then (resultS M (wd W 1), M)
  else if ((wd W 0).toList == [114, 101, 115, 101, 114, 118, 101]) = true then (toldI (reserveR M.reg (wd W 1) who), { M with reg := reserveQ M.reg (wd W 1) who })
  else if ((wd W 0).toList == [114, 101, 108, 101, 97, 115, 101]) = true then (toldI (releaseR M.reg (wd W 1) who), { M with reg := releaseQ M.reg (wd W 1) who })
  else if ((wd W 0).toList == [111, 119, 110, 101, 114]) = true then (ownerS M (wd W 1), M)
  else (sErr, M)
/-- The clock has gone on: what is due is settled, and one more is done. -/
def settleA (M : MApp) (now : Int) : MApp := { M with house := settleH M.house now, n := M.n + 1 }
def execA (M : MApp) (who now : Int) (pl : ByteArray) : ByteArray × MApp := doA (settleA M now) (wordsM pl) who now
end Go.Proofs.YtgeimnknmljplaaDoor
/- The app's commands: open, result, owner. Conditions: those named in each theorem. -/
namespace Go.Proofs.YtgeimnknmljplaaDoor
open Go Go.RowKit Go.Gv Go.Sort Go.Proofs

theorem var?_bel {P : Program} {w w' : World} {n : String} {cs : Array Value} (hb : Bel w w') (h : w.var? P n = some cs) : w'.var? P n = some cs := by
  unfold World.var? at h ⊢
  cases hg : P.globalNamed n with
  | none => rw [hg] at h; cases h
  | some g =>
    rw [hg] at h
    simp only [Option.bind_some] at h ⊢
    cases hh : w.heap[g]? with
    | none => rw [hh] at h; cases h
    | some o =>
      have hlt : g < w.heap.size := (Array.getElem?_eq_some_iff.1 hh).1
      rw [Below.block hb g hlt, hh]
      rw [hh] at h
      exact h
theorem LibIs.bel {w w' : World} (h : LibIs w) (hb : Bel w w') : LibIs w' := ⟨by obtain ⟨m, hm⟩ := h.most; exact ⟨m, GB.cell hb hm⟩, var?_bel hb h.tab⟩
/-- Words at a slice. -/
def WordsAt (w : World) (A : Option Addr) (n : Nat) (W : List ByteArray) : Prop := Sl StrV w w.heap.size A n (W.map StrV.mk)
theorem WordsAt.bel {w w' : World} {A : Option Addr} {n : Nat} {W : List ByteArray} (h : WordsAt w A n W) (hb : Bel w w') : WordsAt w' A n W := Sl.stepB h hb
theorem WordsAt.len {w : World} {A : Option Addr} {n : Nat} {W : List ByteArray} (h : WordsAt w A n W) : W.length = n := by have := h.1; simpa using this
theorem WordsAt.place {w : World} {A : Option Addr} {n : Nat} {W : List ByteArray} (h : WordsAt w A n W) (hn : 0 < n) : ∃ ad, A = some ad ∧ ad.block < w.heap.size ∧ w.cell? ad = some (.string (wd W 0)) ∧ ∀ i < n, 0 < i → w.cell? ⟨ad.block, ad.off + i, none⟩ = some (.string (wd W i)) := by
  obtain ⟨ad, hA, hb, hall⟩ := h.2 hn
  have key : ∀ i < n, w.cell? (ad.add i) = some (.string (wd W i)) := fun i hi => by
    have hi2 : i < W.length := by rw [h.len]; exact hi
    have hg := hall i ⟨W[i]⟩ (by rw [List.getElem?_map, List.getElem?_eq_getElem hi2]; rfl)
    rw [show Enc.n StrV = 1 from rfl, Nat.mul_one] at hg
    have := get1 rfl hg
    rw [this]
    unfold wd
    rw [List.getD_eq_getElem?_getD, List.getElem?_eq_getElem hi2]
    rfl
  exact ⟨ad, hA, hb, cell_zero (key 0 hn), fun i hi h0 => cell_off h0 (key i hi)⟩
set_option maxRecDepth 100000 in
set_option maxHeartbeats 2000000 in
theorem openA_any (a g r p q kk : Nat) (M : MApp) (W : List ByteArray) (A : Option Addr) (now : Int) (w : World) (hA : AppIs w a g r p q M kk) (hW : WordsAt w A 5 W) (hs : ∀ i, (wd W i).size ≤ maxLen) :
    Calls Tryd.prog 16 #[.pointer (some ⟨a, 0, none⟩), .slice A 5 5, .int .u64 now] w fun e w' => e = .returned (.string (openA M W now).1) ∧ AppIs w' a g r p q (openA M W now).2 kk ∧ GX r w w' := by
  obtain ⟨ad, rfl, hadb, c0, hcell⟩ := hW.place (by omega)
  have c1 := hcell 1 (by omega) (by omega)
  have c2 := hcell 2 (by omega) (by omega)
  have c3 := hcell 3 (by omega) (by omega)
  have c4 := hcell 4 (by omega) (by omega)
  have HA := Lib.hid hA; have HS := Lib.hid hs
  obtain ⟨s1, hs1⟩ : ∃ s, wd W 1 = s := ⟨_, rfl⟩
  obtain ⟨s2, hs2⟩ : ∃ s, wd W 2 = s := ⟨_, rfl⟩
  obtain ⟨s3, hs3⟩ : ∃ s, wd W 3 = s := ⟨_, rfl⟩
  obtain ⟨s4, hs4⟩ : ∃ s, wd W 4 = s := ⟨_, rfl⟩
  have z1 : s1.size ≤ maxLen := by rw [← hs1]; exact hs 1
  have z3 : s3.size ≤ maxLen := by rw [← hs3]; exact hs 3
  have z4 : s4.size ≤ maxLen := by rw [← hs4]; exact hs 4
  rw [hs1] at c1; rw [hs2] at c2; rw [hs3] at c3; rw [hs4] at c4
  obtain ⟨b3, hb3⟩ : ∃ b, numB s3 = b := ⟨_, rfl⟩
  obtain ⟨b4, hb4⟩ : ∃ b, numB s4 = b := ⟨_, rfl⟩
  obtain ⟨n3, hn3⟩ : ∃ b, numI s3 = b := ⟨_, rfl⟩
  obtain ⟨n4, hn4⟩ : ∃ b, numI s4 = b := ⟨_, rfl⟩
  have hnb := numI_bound s4
  rw [hn4] at hnb
  obtain ⟨bf, hbf⟩ : ∃ b, (s2.toList == [102, 105, 114, 115, 116]) = b := ⟨_, rfl⟩
  obtain ⟨bs, hbs⟩ : ∃ b, (s2.toList == [115, 101, 99, 111, 110, 100]) = b := ⟨_, rfl⟩
  have HO := Lib.hid (show openA M W now = if (b3 && (b4 && (bf || bs))) = true then (toldI (openR M.house s1 n3 n4 now), { M with house := openH M.house s1 bs n3 n4 now }) else (sErr, M) by
    unfold openA openOk
    rw [hs1, hs2, hs3, hs4, hb3, hb4, hn3, hn4, hbf, hbs])
  have HN3 := Lib.hid hb3; have HN4 := Lib.hid hb4; have HI3 := Lib.hid hn3; have HI4 := Lib.hid hn4
  have at0 := hA.at0
  clear hcell hs1 hs2 hs3 hs4 hb3 hb4 hn3 hn4 hA hW hs
  go_enter Tryd.func16, Tryd.ntmps16
  go_wp2_with fail
  refine (number_any s3 w z3).mono ?_
  rintro _ w1 ⟨rfl, rfl⟩
  rw [HN3.out, HI3.out]
  go_wp2_with fail
  refine (number_any s4 w1 z4).mono ?_
  rintro _ w2 ⟨rfl, rfl⟩
  rw [HN4.out, HI4.out]
  go_upto_region 3 with fail
  by_cases hok : (b3 && (b4 && (bf || bs))) = true
  · have HV := Lib.hid (HO.out.trans (if_pos hok))
    have hor : b3 = true ∧ b4 = true ∧ (bf = true ∨ (bf = false ∧ bs = true)) := by
      cases b3 <;> cases b4 <;> cases bf <;> cases bs <;> simp_all
    clear hok
    obtain ⟨rfl, rfl, rfl | ⟨rfl, rfl⟩⟩ := hor
    all_goals
    go_wp2_with fail
    have hg4 : (0 : Int) ≤ n4 ∧ n4 ≤ 18446744073709551615 := by omega
    have e1 : IntKind.u64.wrap n4 = n4 := IntWalk.u64_in _ hg4
    have hhc := HA.out.house
    refine wp_region_G GB [15, 16, 17] GB.rf (by kernel_rfl) ?_
    refine wpG_looks 3 18 [0,1,2,3,4,5,6,7,8,9,10,11,12,13,14] rfl GB.rf GB.tr (by kernel_rfl) (fun _ _ _ _ hd h => And.intro (hd ▸ And.left h) (And.right h)) rfl (by kernel_rfl) ?_
    intro ι W9 hne CW
    have g0 := fun z => GB.cell (CW.out z).undrew at0
    have g1 := fun z => GB.cell (CW.out z).undrew c1
    have g2 := fun z => GB.cell (CW.out z).undrew c2
    repeat (refine wpLooksG_step (fun K hK => ?_); go_simp; refine hK _ ?_; clear hK K)
    refine wpLooksG_nil ?_
    clear g0 g1 g2 CW hne W9 ι
    refine wpG_force 15 _ rfl (by kernel_rfl) rfl fun wa hwa K hK => ?_
    go_simp
    have hAa := HA.out.bel hwa.undrew
    refine (open_any ⟨g, 0, none⟩ r M.house s1 _ n3 n4 now wa hAa.house hAa.apart.1.1 z1 (by have := hAa.good.1; unfold maxLen; omega)).mono ?_
    rintro _ wb ⟨rfl, hHb, hgb⟩
    refine hK _ _ (fun h => absurd (by simp) h) ?_
    clear hK K
    have hAb := hAa.putHouse hgb hHb (hAa.ok.openH _ _ _ _ _) (hAa.good.openH _ _ _ _ _) (Nat.le_refl _)
    refine wpG_force 16 _ rfl (by kernel_rfl) rfl fun wc hwc K hK => ?_
    go_simp
    refine (told_is (openR M.house s1 n3 n4 now) wc (openR_range _ _ _ _ _).1 (openR_range _ _ _ _ _).2).mono ?_
    rintro _ wd ⟨rfl, rfl⟩
    refine hK _ _ (fun h => absurd (by simp) h) ?_
    clear hK K
    refine wpG_force 17 _ rfl (by kernel_rfl) rfl fun we hwe K hK => ?_
    go_simp
    refine hK _ _ (fun h => absurd (by simp) h) ?_
    clear hK K
    refine wpG_end (by kernel_rfl) (fun wn hwn => ?_) _
    have hbn : Bel wb wn := GB.tr _ _ _ (GB.tr _ _ _ hwc hwe) hwn
    have HAN := Lib.hid (hAb.bel hbn)
    have HGN := Lib.hid (GX.tr _ _ _ (GX.tr _ _ _ (GX.of_bel hwa.undrew r) hgb) (GX.of_bel hbn r))
    clear hAb hbn hwn hwe hwc hgb hHb hAa hwa
    go_wp2_with fail
    go_ret
    rw [HV.out]
    exact ⟨rfl, HAN.out, HGN.out⟩
  · have HV := Lib.hid (HO.out.trans (if_neg hok))
    have hor : b3 = false ∨ (b3 = true ∧ b4 = false) ∨ (b3 = true ∧ b4 = true ∧ bf = false ∧ bs = false) := by
      cases b3 <;> cases b4 <;> cases bf <;> cases bs <;> simp_all
    clear hok
    rcases hor with rfl | ⟨rfl, rfl⟩ | ⟨rfl, rfl, rfl, rfl⟩
    all_goals
    go_wp2_with fail
    go_ret
    rw [HV.out]
    exact ⟨rfl, HA.out, GX.rf _⟩
theorem grow_bel (w : World) (os : Array Obj) : Bel w (grow w os) := ⟨rfl, rfl, rfl, by simp [grow], fun k hk => by show (w.heap ++ os)[k]? = _; rw [Array.getElem?_append_left hk]⟩
theorem itoaB_size (n : Int) (h0 : -9223372036854775808 ≤ n) (h1 : n ≤ 9223372036854775807) : (itoaB n).size ≤ 21 := by
  have := Lib.itoa_length_le n h0 h1
  show (Lib.itoa n).toArray.size ≤ 21
  rw [List.size_toArray]
  exact this
theorem itoa_any (n : Int) (w : World) (h0 : -9223372036854775808 ≤ n) (h1 : n ≤ 9223372036854775807) (h : LibIs w) :
    Calls Tryd.prog 31 #[.int .i64 n] w fun e w' => e = .returned (.string (itoaB n)) ∧ Bel w w' := by
  refine (Any.strconv_Itoa Tryd.itoa n h0 h1 w h.tab).mono ?_
  rintro _ _ ⟨rfl, k, os, rfl⟩
  exact ⟨rfl, ((Bel.refl w).drewN k).trans (grow_bel _ _)⟩
set_option maxRecDepth 100000 in
set_option maxHeartbeats 1000000 in
theorem ownerA_any (a g r p q kk : Nat) (M : MApp) (item : ByteArray) (w : World) (hA : AppIs w a g r p q M kk) (hL : LibIs w) :
    Calls Tryd.prog 22 #[.pointer (some ⟨a, 0, none⟩), .string item] w fun e w' => e = .returned (.string (ownerS M item)) ∧ Bel w w' := by
  have at1 := hA.at1
  have HA := Lib.hid hA; have HL := Lib.hid hL
  clear hA hL
  go_enter Tryd.func22, Tryd.ntmps22
  go_wp2_with fail
  refine (owner_any ⟨p, 0, none⟩ q M.reg item w HA.out.reg).mono ?_
  rintro _ w1 ⟨rfl, rfl⟩
  cases hq : mget M.reg item with
  | none =>
    have HO := Lib.hid (show ownerS M item = ⟨#[110, 111, 110, 101]⟩ by unfold ownerS; rw [hq])
    simp only [Option.getD_none, Option.isSome_none]
    clear hq
    go_wp2_with fail
    go_ret
    exact ⟨by rw [HO.out]; rfl, Bel.refl _⟩
  | some who =>
    have HO := Lib.hid (show ownerS M item = itoaB who by unfold ownerS; rw [hq])
    have hb := HA.out.regs.2 _ (mget_inR hq)
    simp only at hb
    simp only [Option.getD_some, Option.isSome_some]
    clear hq
    go_wp2_with fail
    refine (itoa_any who w1 (by omega) (by omega) HL.out).mono ?_
    rintro _ w2 ⟨rfl, hb2⟩
    have HB := Lib.hid hb2
    clear hb2
    go_wp2_with fail
    go_ret
    exact ⟨by rw [HO.out]; rfl, HB.out⟩
set_option maxRecDepth 100000 in
set_option maxHeartbeats 1000000 in
theorem resultA_any (a g r p q kk : Nat) (M : MApp) (name : ByteArray) (w : World) (hA : AppIs w a g r p q M kk) (hL : LibIs w) :
    Calls Tryd.prog 19 #[.pointer (some ⟨a, 0, none⟩), .string name] w fun e w' => e = .returned (.string (resultS M name)) ∧ Bel w w' := by
  have at0 := hA.at0
  have HA := Lib.hid hA; have HL := Lib.hid hL
  have hrr := resultR_range M.house name
  have hro := resultR_ok hA.ok name
  obtain ⟨⟨y, ey⟩, hye⟩ : ∃ z, resultR M.house name = z := ⟨_, rfl⟩
  have HR := Lib.hid (show resultS M name = if ey = 0 then if y.winner < 0 then ⟨#[110, 111, 98, 111, 100, 121]⟩ else wonB y else toldI ey by unfold resultS; rw [hye])
  rw [hye] at hrr hro
  simp only at hrr hro
  have HYE := Lib.hid hye
  clear hA hL hye
  go_enter Tryd.func19, Tryd.ntmps19
  go_wp2_with fail
  refine (result_any ⟨g, 0, none⟩ r M.house name w HA.out.house).mono ?_
  rintro _ w1 ⟨rfl, hb1⟩
  rw [HYE.out]
  have HB1 := Lib.hid hb1
  have HG := Lib.hid (get?_new (w := w1) 68 y)
  clear hb1
  go_upto_region 2 with fail
  have HB2 := Lib.hid (HB1.out.alloc (.cells (GAuctionResult.enc y).toArray 68))
  change Hid (get? GAuctionResult (w1.alloc (.cells (GAuctionResult.enc y).toArray 68)) ⟨w1.heap.size, 0, none⟩ = some y) at HG
  obtain ⟨ya, hya⟩ : ∃ ya, w1.heap.size = ya := ⟨_, rfl⟩
  rw [hya] at HG ⊢
  generalize w1.alloc (.cells (GAuctionResult.enc y).toArray 68) = w2 at HG HB2 ⊢
  clear hya
  have f1 : w2.cell? ⟨ya, 1, none⟩ = some (.int .i64 y.winner) := by simpa using cell_off (by omega) (GAuctionResult.at_winner HG.out)
  have f2 : w2.cell? ⟨ya, 2, none⟩ = some (.int .i64 y.price) := by simpa using cell_off (by omega) (GAuctionResult.at_price HG.out)
  by_cases he : ey = 0
  · by_cases hw : y.winner < 0
    · have HV := Lib.hid (HR.out.trans ((if_pos he).trans (if_pos hw)))
      subst he
      go_wp2_with fail
      go_ret
      exact ⟨by rw [HV.out]; rfl, HB2.out⟩
    · have HV := Lib.hid (HR.out.trans ((if_pos he).trans (if_neg hw)))
      subst he
      go_wp2_with fail
      have hL2 := HL.out.bel HB2.out
      have HL2 := Lib.hid hL2
      have z1 := itoaB_size y.winner (by omega) (by omega)
      have z2 := itoaB_size y.price (by omega) (by omega)
      obtain ⟨sa, hsa⟩ : ∃ s, itoaB y.winner = s := ⟨_, rfl⟩
      obtain ⟨sb, hsb⟩ : ∃ s, itoaB y.price = s := ⟨_, rfl⟩
      rw [hsa] at z1; rw [hsb] at z2
      have HSA := Lib.hid hsa; have HSB := Lib.hid hsb
      have b1 : -9223372036854775808 ≤ y.winner ∧ y.winner ≤ 9223372036854775807 := by omega
      have b2 : -9223372036854775808 ≤ y.price ∧ y.price ≤ 9223372036854775807 := by omega
      have q1 : ¬ 9223372036854775807 < 4 + sa.size := by omega
      have q2 : ¬ 9223372036854775807 < 4 + sa.size + 1 := by omega
      have q3 : ¬ 9223372036854775807 < 4 + sa.size + 1 + sb.size := by omega
      clear hsa hsb hL2
      refine wp_region_G GB [] GB.rf (by kernel_rfl) ?_
      refine wpG_looks 0 10 [0,1,2,3,4,5,6,7,8,9] rfl GB.rf GB.tr (by kernel_rfl) (fun _ _ _ _ hd h => And.intro (hd ▸ And.left h) (And.right h)) rfl (by kernel_rfl) ?_
      intro ι W9 hne CW
      have g1 := fun z => GB.cell (CW.out z).undrew f1
      have g2 := fun z => GB.cell (CW.out z).undrew f2
      refine wpLooksG_step (fun K hK => ?_); go_simp; refine hK _ ?_; clear hK K
      refine wpLooksG_step (fun K hK => ?_); go_simp; refine hK _ ?_; clear hK K
      refine wpLooksG_step (fun K hK => ?_); go_simp
      refine ⟨_, fun z => itoa_any y.winner (W9 z) b1.1 b1.2 (HL2.out.bel (CW.out z).undrew), hK _ ?_⟩
      clear hK K
      rw [HSA.out]
      refine wpLooksG_step (fun K hK => ?_); go_simp; refine hK _ ?_; clear hK K
      refine wpLooksG_step (fun K hK => ?_); go_simp; refine hK _ ?_; clear hK K
      refine wpLooksG_step (fun K hK => ?_); go_simp; refine hK _ ?_; clear hK K
      refine wpLooksG_step (fun K hK => ?_); go_simp; refine hK _ ?_; clear hK K
      refine wpLooksG_step (fun K hK => ?_); go_simp
      refine ⟨_, fun z => itoa_any y.price (W9 z) b2.1 b2.2 (HL2.out.bel (CW.out z).undrew), hK _ ?_⟩
      clear hK K
      rw [HSB.out]
      repeat (refine wpLooksG_step (fun K hK => ?_); go_simp; refine hK _ ?_; clear hK K)
      refine wpLooksG_nil ?_
      clear g1 g2 CW hne W9 ι
      refine wpG_end (by kernel_rfl) (fun wn hwn => ?_) _
      have HBN := Lib.hid (HB2.out.trans hwn.undrew)
      have HWB := Lib.hid (show wonB y = ⟨#[119, 111, 110, 32]⟩ ++ sa ++ ⟨#[32]⟩ ++ sb by unfold wonB; rw [HSA.out, HSB.out])
      clear hwn
      go_wp2_with fail
      go_ret
      exact ⟨by rw [HV.out, HWB.out]; rfl, HBN.out⟩
  · have HV := Lib.hid (HR.out.trans (if_neg he))
    go_wp2_with fail
    refine (told_is ey w2 hrr.1 hrr.2).mono ?_
    rintro _ w3 ⟨rfl, rfl⟩
    go_wp2_with fail
    go_ret
    exact ⟨by rw [HV.out]; rfl, HB2.out⟩
end Go.Proofs.YtgeimnknmljplaaDoor
/- The app: a payload is done. Conditions: those named in each theorem. -/
namespace Go.Proofs.YtgeimnknmljplaaDoor
open Go Go.RowKit Go.Gv Go.Sort Go.Proofs

def bytesB (ys : List U8) : ByteArray := ⟨(ys.map U8.v).toArray⟩
theorem bytesB_size (ys : List U8) : (bytesB ys).size = ys.length := by
  show (ys.map U8.v).toArray.size = _
  rw [List.size_toArray, List.length_map]
theorem bytes_conv {w : World} {B0 : Nat} {B : Option Addr} {n c : Nat} {ys : List U8} (h : Sl U8 w B0 B n ys) : (convert 35 9 (.slice B n c)).run Tryd.prog w = .ok (.string (bytesB ys)) w := by
  cases B with
  | none =>
    have hn : n = 0 := by
      rcases Nat.eq_zero_or_pos n with h0 | h0
      · exact h0
      · obtain ⟨ad, e, _⟩ := h.2 h0; cases e
    subst hn
    obtain rfl : ys = [] := List.length_eq_zero_iff.1 h.1
    rw [run_convert_bytes_string w _ _ 5 none 0 c (by kernel_rfl) (by kernel_rfl) (by kernel_rfl)]
    rfl
  | some ad =>
    have hl : (ys.map U8.v).length = n := by rw [List.length_map]; exact h.1
    have := run_convert_bytes_back (P := Tryd.prog) w 35 9 5 ad c (ys.map U8.v) (by kernel_rfl) (by kernel_rfl) (by kernel_rfl) (fun j hj => by
      have hj2 : j < n := by rw [← hl]; exact hj
      obtain ⟨ad', x, e, _, hx, hg⟩ := h.at_ (k := j) hj2
      injection e with e
      subst e
      have hc := get1 (α := U8) rfl hg
      rw [show Enc.n U8 = 1 from rfl, Nat.mul_one] at hc
      rw [hc]
      have hxj : (ys.map U8.v)[j] = x.v := by
        have h1 : (ys.map U8.v)[j]? = some x.v := by rw [List.getElem?_map, hx]; rfl
        rw [List.getElem?_eq_getElem hj] at h1
        exact Option.some.inj h1
      rw [hxj]
      rfl)
    rw [hl] at this
    exact this
theorem split_sizes (sep : ByteArray) : ∀ (k : Nat) (s : ByteArray), ∀ t ∈ Lib.splitB sep 0 k s, t.size ≤ s.size
  | 0, s, t, ht => by
    rw [Lib.splitB_zero, List.mem_singleton] at ht
    subst ht; exact Nat.le_refl _
  | k + 1, s, t, ht => by
    by_cases hm : Lib.indexB s sep = -1
    · rw [Lib.splitB_miss _ _ _ _ hm, List.mem_singleton] at ht
      subst ht; exact Nat.le_refl _
    · unfold Lib.splitB at ht
      rw [if_neg (by simpa using hm)] at ht
      rw [List.mem_cons] at ht
      rcases ht with rfl | ht
      · rw [ByteArray.size_extract]; omega
      · have := split_sizes sep k _ t ht
        rw [ByteArray.size_extract] at this
        omega
theorem wd_size (s : ByteArray) (i : Nat) : (wd (wordsM s) i).size ≤ s.size := by
  unfold wd
  rw [List.getD_eq_getElem?_getD]
  cases h : (wordsM s)[i]? with
  | none => exact Nat.zero_le _
  | some t => exact split_sizes _ _ _ t (List.mem_of_getElem? h)
theorem AppIs.chgFoot {w w' : World} {a r q : Nat} {S : Nat → Prop} (h : Chg S w w') (hS : ∀ k, S k → footA a r q k) : Chg (footA a r q) w w' := h.sub hS
theorem gx_foot {w w' : World} {a r q : Nat} (h : GX r w w') : Chg (footA a r q) w w' := Chg.of_grown h fun _ e => .inr (.inl (Option.some.inj e).symm)
theorem gx_footQ {w w' : World} {a r q : Nat} (h : GX q w w') : Chg (footA a r q) w w' := Chg.of_grown h fun _ e => .inr (.inr (Option.some.inj e).symm)
/-- What a payload that is done leaves. -/
def ExecR (w : World) (a g r p q kk : Nat) (R : ByteArray × MApp) (e : Ending) (w' : World) : Prop := e = .returned (.string R.1) ∧ AppIs w' a g r p q R.2 kk ∧ Chg (footA a r q) w w'
/-- The clock goes on: one more is done, what is due is settled. -/
theorem ticked {w w1 : World} {a g r p q kk : Nat} {M : MApp} (hA : AppIs w a g r p q M kk) (hb : Bel w w1) : AppIs (w1.setCell ⟨a, 2, none⟩ (.int .i64 (M.n + 1))) a g r p q { M with n := M.n + 1 } (kk + 1) ∧ Chg (footA a r q) w (w1.setCell ⟨a, 2, none⟩ (.int .i64 (M.n + 1))) :=
  ⟨(hA.bel hb).tick, (Chg.of_bel hb _).tr (⟨rfl, rfl, rfl, by simp, fun k _ hn => Below.heap_setCell _ _ _ _ (fun e => hn (.inl e))⟩)⟩
set_option maxRecDepth 100000 in
set_option maxHeartbeats 4000000 in
theorem exec_any (w0 : World) (a g r p q kk : Nat) (M : MApp) (x : GEntry) (B : Option Addr) (n c : Nat) (ys : List U8) (w : World) (hL : LibIs w0) (hw : Bel w0 w) (hA : AppIs w a g r p q M kk) (hF : ∀ k, footA a r q k → w0.heap.size ≤ k)
    (hy : Sl U8 w w.heap.size B n ys) (hB : 0 < n → ∀ ad, B = some ad → ¬ footA a r q ad.block) (hn : n ≤ 1000000) (hkk : kk ≤ 1000) :
    Calls Tryd.prog 8 #[.pointer (some ⟨a, 0, none⟩), x.val, .slice B n c] w (ExecR w a g r p q (kk + 2) (execA M x.name.client x.time (bytesB ys))) := by
  have hcn := hA.count
  have at2 := hA.at2
  have z2 : w.frozen? ⟨a, 2, none⟩ = false := frozen_of_free (a := ⟨a, 2, none⟩) hA.free
  have e1 : IntKind.i64.wrap (M.n + 1) = M.n + 1 := IntWalk.i64_in _ (by omega)
  obtain ⟨hA2', hC2'⟩ := ticked hA (Bel.refl w)
  have hal := hA.lt
  have hrl := hA.house.2.lt
  have hb2 := (Bel.refl (w.setCell ⟨a, 2, none⟩ (.int .i64 (M.n + 1)))).alloc (.cells (GEntry.enc x).toArray 32)
  have hg2 := get?_new (w := w.setCell ⟨a, 2, none⟩ (.int .i64 (M.n + 1))) 32 x
  rw [show (w.setCell ⟨a, 2, none⟩ (.int .i64 (M.n + 1))).heap.size = w.heap.size by simp] at hg2
  have HL := Lib.hid hL; have HW := Lib.hid hw; have HF := Lib.hid hF; have HY := Lib.hid hy; have HB := Lib.hid hB
  have HA2 := Lib.hid (hA2'.bel hb2); have HC2 := Lib.hid (hC2'.tr (Chg.of_bel hb2 _)); have HG2 := Lib.hid hg2
  obtain ⟨R, hR⟩ : ∃ R, execA M x.name.client x.time (bytesB ys) = R := ⟨_, rfl⟩
  rw [hR]
  have HRR := Lib.hid hR
  clear hA2' hC2' hg2 hL hw hF hy hB hA hb2 hR
  go_enter Tryd.func8, Tryd.ntmps8
  go_upto_region 2 with fail
  change Hid (get? GEntry ((w.setCell ⟨a, 2, none⟩ (.int .i64 (M.n + 1))).alloc (.cells (GEntry.enc x).toArray 32)) ⟨w.heap.size, 0, none⟩ = some x) at HG2
  obtain ⟨be, hbe⟩ : ∃ be, w.heap.size = be := ⟨_, rfl⟩
  rw [hbe] at HG2 hal hrl ⊢
  generalize (w.setCell ⟨a, 2, none⟩ (.int .i64 (M.n + 1))).alloc (.cells (GEntry.enc x).toArray 32) = w2 at HA2 HC2 HG2 ⊢
  clear hbe at2 z2 e1
  have at0 := HA2.out.at0
  have ft : w2.cell? ⟨be, 34, none⟩ = some (.int .u64 x.time) := by simpa using cell_off (by omega) (GEntry.at_time HG2.out)
  refine wp_region_G GB [6] GB.rf (by kernel_rfl) ?_
  refine wpG_looks 1 7 [0,1,2,3,4,5] rfl GB.rf GB.tr (by kernel_rfl) (fun _ _ _ _ hd h => And.intro (hd ▸ And.left h) (And.right h)) rfl (by kernel_rfl) ?_
  intro ι W9 hne CW
  have g0 := fun z => GB.cell (CW.out z).undrew at0
  have g1 := fun z => GB.cell (CW.out z).undrew ft
  repeat (refine wpLooksG_step (fun K hK => ?_); go_simp; refine hK _ ?_; clear hK K)
  refine wpLooksG_nil ?_
  clear g0 g1 CW hne W9 ι at0 ft
  refine wpG_force 6 _ rfl (by kernel_rfl) rfl fun wa hwa K hK => ?_
  go_simp
  have hAa := HA2.out.bel hwa.undrew
  refine (settle_any ⟨g, 0, none⟩ r M.house x.time wa hAa.house hAa.apart.1.1 hAa.ok.1 (by have := hAa.good.1; simp only at this; omega) (fun q hq => by have := (hAa.good.2 q hq).2; omega)).mono ?_
  rintro _ wb ⟨D, v, rfl, _, _, _, hHb, hgb⟩
  refine hK _ _ (fun h => absurd (by simp) h) ?_
  clear hK K
  refine wpG_end (by kernel_rfl) (fun wn hwn => ?_) _
  have hA3 : AppIs wn a g r p q (settleA M x.time) (kk + 1) := (hAa.putHouse hgb hHb (hAa.ok.settleH _) (hAa.good.settleH _) (Nat.le_refl _)).bel hwn
  have hC3 : Chg (footA a r q) w wn := ((HC2.out.tr (Chg.of_bel hwa.undrew _)).tr (gx_foot hgb)).tr (Chg.of_bel hwn _)
  have hG3 : get? GEntry wn ⟨be, 0, none⟩ = some x := GB.get hwn (GX.getS hgb (GB.get hwa.undrew HG2.out) (by show be ≠ r; omega))
  have hY3 := Sl.chg hC3 HY.out (fun h0 ad e => HB.out h0 ad e)
  have hL3 := HL.out.bel (Chg.bel2 HW.out hC3 HF.out)
  obtain ⟨s, hs⟩ : ∃ s, bytesB ys = s := ⟨_, rfl⟩
  have hsz : s.size = n := by rw [← hs, bytesB_size]; exact HY.out.1
  have hcv := bytes_conv (c := c) hY3
  have HRS := HRR.out
  rw [hs] at hcv HRS
  try rw [hs]
  have HA3 := Lib.hid hA3; have HC3 := Lib.hid hC3; have HG3 := Lib.hid hG3; have HL3 := Lib.hid hL3
  clear hA3 hC3 hG3 hY3 hL3 hwn hgb hHb hAa hwa hs HA2 HC2 HG2
  go_wp2_with fail
  refine (words_any s wn (by omega) HL3.out).mono ?_
  rintro _ w5 ⟨A, rfl, hsl, hb5⟩
  have hlen1 : 0 < (wordsM s).length := by rw [wordsM_len]; omega
  have HWD := Lib.hid (show ∀ i, (wd (wordsM s) i).size ≤ maxLen from fun i => by have := wd_size s i; unfold maxLen; omega)
  obtain ⟨W, hWe⟩ : ∃ W, wordsM s = W := ⟨_, rfl⟩
  obtain ⟨M1, hM1⟩ : ∃ M1, settleA M x.time = M1 := ⟨_, rfl⟩
  have HE := Lib.hid (show R = doA M1 W x.name.client x.time by rw [← HRS]; unfold execA; rw [hWe, hM1])
  rw [hM1] at HA3
  rw [hWe] at hsl hlen1 HWD ⊢
  obtain ⟨nw, hnw⟩ : ∃ nw, W.length = nw := ⟨_, rfl⟩
  rw [hnw] at hsl hlen1 ⊢
  have HWA := Lib.hid (show WordsAt w5 A nw W from hsl)
  obtain ⟨ad, rfl, hadb, c0, hcell⟩ := HWA.out.place hlen1
  have HCL := Lib.hid hcell
  have HA5 := Lib.hid (HA3.out.bel hb5); have HC5 := Lib.hid (HC3.out.tr (Chg.of_bel hb5 _)); have HL5 := Lib.hid (HL3.out.bel hb5)
  have fc : w5.cell? ⟨be, 0, none⟩ = some (.int .i64 x.name.client) := cell_zero (GName.at_client (by simpa [Addr.add] using GEntry.at_name (GB.get hb5 HG3.out)))
  have ft : w5.cell? ⟨be, 34, none⟩ = some (.int .u64 x.time) := by simpa using cell_off (by omega) (GEntry.at_time (GB.get hb5 HG3.out))
  obtain ⟨who, hwho⟩ : ∃ z, x.name.client = z := ⟨_, rfl⟩
  obtain ⟨now, hnow⟩ : ∃ z, x.time = z := ⟨_, rfl⟩
  rw [hwho] at fc; rw [hnow] at ft
  rw [hwho, hnow] at HE
  try rw [hnow]
  have hp0 : (0 : Int) < (nw : Int) := by omega
  obtain ⟨s0, hs0⟩ : ∃ s, wd W 0 = s := ⟨_, rfl⟩
  rw [hs0] at c0
  obtain ⟨b1, hb1⟩ : ∃ b, (s0.toList == [110, 111, 116, 101]) = b := ⟨_, rfl⟩
  obtain ⟨b2, hb2⟩ : ∃ b, (s0.toList == [97, 117, 99, 116, 105, 111, 110]) = b := ⟨_, rfl⟩
  obtain ⟨b3, hb3⟩ : ∃ b, (s0.toList == [98, 105, 100]) = b := ⟨_, rfl⟩
  obtain ⟨b4, hb4⟩ : ∃ b, (s0.toList == [114, 101, 115, 117, 108, 116]) = b := ⟨_, rfl⟩
  obtain ⟨b5, hb5'⟩ : ∃ b, (s0.toList == [114, 101, 115, 101, 114, 118, 101]) = b := ⟨_, rfl⟩
  obtain ⟨b6, hb6⟩ : ∃ b, (s0.toList == [114, 101, 108, 101, 97, 115, 101]) = b := ⟨_, rfl⟩
  obtain ⟨b7, hb7⟩ : ∃ b, (s0.toList == [111, 119, 110, 101, 114]) = b := ⟨_, rfl⟩
  have HD := Lib.hid (show doA M1 W who now = if b1 = true then (toldI 0, M1) else if b2 = true ∧ nw = 5 then openA M1 W now else if b3 = true ∧ nw = 3 then bidA M1 W who now else if nw ≠ 2 then (sErr, M1)
    else if b4 = true then (resultS M1 (wd W 1), M1) else if b5 = true then (toldI (reserveR M1.reg (wd W 1) who), { M1 with reg := reserveQ M1.reg (wd W 1) who })
    else if b6 = true then (toldI (releaseR M1.reg (wd W 1) who), { M1 with reg := releaseQ M1.reg (wd W 1) who }) else if b7 = true then (ownerS M1 (wd W 1), M1) else (sErr, M1) by
    unfold doA
    rw [hs0, hb1, hb2, hb3, hb4, hb5', hb6, hb7, hnw])
  clear hs0 hnw hWe hM1 hwho hnow hsl hcell hb5 HG3 HA3 HC3 HL3 hsz HY HB HRS HRR
  cases b1
  · go_upto_region 7 with fail
    go_cut [37] (fun v wx => v = .bool (b2 && decide (nw = 5)) ∧ wx = w5)
    case first => as_aux_lemma =>
      cases b2
      · go_wp2_with fail
        go_meet
        exact ⟨rfl, rfl⟩
      · by_cases h5 : nw = 5
        · have h6 : ((nw : Int) == 5) = true := by rw [beq_iff_eq]; omega
          have H5 := Lib.hid h5
          clear h5
          go_wp2_with fail
          go_meet
          exact ⟨by rw [decide_eq_true H5.out]; rfl, rfl⟩
        · have h6 : ((nw : Int) == 5) = false := by rw [beq_eq_false_iff_ne]; omega
          have H5 := Lib.hid h5
          clear h5
          go_wp2_with fail
          go_meet
          exact ⟨by rw [decide_eq_false H5.out]; rfl, rfl⟩
    case rest =>
    obtain ⟨rfl, hwx⟩ := hcut
    obtain rfl : w5 = wc := hwx.symm
    by_cases hB : (b2 && decide (nw = 5)) = true
    · rw [hB]
      rw [Bool.and_eq_true, decide_eq_true_eq] at hB
      obtain ⟨rfl, rfl⟩ := hB
      have HV := Lib.hid (HD.out.trans ((if_neg (by decide)).trans (if_pos ⟨rfl, rfl⟩)))
      go_wp2_with fail
      refine (openA_any a g r p q (kk + 1) M1 W (some ad) now w5 HA5.out HWA.out HWD.out).mono ?_
      rintro _ w6 ⟨rfl, hA6, hg6⟩
      have HA6 := Lib.hid hA6; have HC6 := Lib.hid (HC5.out.tr (gx_foot hg6))
      clear hA6 hg6
      go_wp2_with fail
      go_ret
      rw [HE.out, HV.out]
      exact ⟨rfl, HA6.out.mono (by omega), HC6.out⟩
    have HD2 := Lib.hid (HD.out.trans ((if_neg (by decide)).trans (if_neg (show ¬ (b2 = true ∧ nw = 5) by rw [Bool.and_eq_true, decide_eq_true_eq] at hB; exact hB))))
    rw [show (b2 && decide (nw = 5)) = false by simpa using hB]
    clear hB HD
    go_upto_region 9 with fail
    go_cut [52] (fun v wx => v = .bool (b3 && decide (nw = 3)) ∧ wx = w5)
    case first => as_aux_lemma =>
      cases b3
      · go_wp2_with fail
        go_meet
        exact ⟨rfl, rfl⟩
      · by_cases h5 : nw = 3
        · have h6 : ((nw : Int) == 3) = true := by rw [beq_iff_eq]; omega
          have H5 := Lib.hid h5
          clear h5
          go_wp2_with fail
          go_meet
          exact ⟨by rw [decide_eq_true H5.out]; rfl, rfl⟩
        · have h6 : ((nw : Int) == 3) = false := by rw [beq_eq_false_iff_ne]; omega
          have H5 := Lib.hid h5
          clear h5
          go_wp2_with fail
          go_meet
          exact ⟨by rw [decide_eq_false H5.out]; rfl, rfl⟩
    case rest =>
    obtain ⟨rfl, hwx⟩ := hcut
    obtain rfl : w5 = wc := hwx.symm
    by_cases hB : (b3 && decide (nw = 3)) = true
    · rw [hB]
      rw [Bool.and_eq_true, decide_eq_true_eq] at hB
      obtain ⟨rfl, rfl⟩ := hB
      have HV0 := Lib.hid (HD2.out.trans (if_pos ⟨rfl, rfl⟩))
      have c1 := HCL.out 1 (by omega) (by omega)
      have c2 := HCL.out 2 (by omega) (by omega)
      have at0 := HA5.out.at0
      have hz2 := HWD.out 2
      obtain ⟨bn, hbn⟩ : ∃ b, numB (wd W 2) = b := ⟨_, rfl⟩
      have HBN := Lib.hid hbn
      clear hbn
      go_wp2_with fail
      refine (number_any (wd W 2) w5 hz2).mono ?_
      rintro _ w6 ⟨rfl, rfl⟩
      rw [HBN.out]
      cases bn
      · have HV := Lib.hid (HV0.out.trans (show bidA M1 W who now = (sErr, M1) by unfold bidA; rw [HBN.out]; rfl))
        go_wp2_with fail
        go_ret
        rw [HE.out, HV.out]
        exact ⟨rfl, HA5.out.mono (by omega), HC5.out⟩
      · have HV := Lib.hid (HV0.out.trans (show bidA M1 W who now = (toldI (bidR M1.house (wd W 1) who (numI (wd W 2)) now), { M1 with house := bidH M1.house (wd W 1) who (numI (wd W 2)) now }) by unfold bidA; rw [HBN.out]; rfl))
        go_wp2_with fail
        refine wp_region_G GB [11, 12, 13] GB.rf (by kernel_rfl) ?_
        refine wpG_looks 3 14 [0,1,2,3,4,5,6,7,8,9,10] rfl GB.rf GB.tr (by kernel_rfl) (fun _ _ _ _ hd h => And.intro (hd ▸ And.left h) (And.right h)) rfl (by kernel_rfl) ?_
        intro ι W9 hne CW
        have g0 := fun z => GB.cell (CW.out z).undrew at0
        have g1 := fun z => GB.cell (CW.out z).undrew c1
        have g2 := fun z => GB.cell (CW.out z).undrew ft
        repeat (refine wpLooksG_step (fun K hK => ?_); go_simp; refine hK _ ?_; clear hK K)
        refine wpLooksG_nil ?_
        clear g0 g1 g2 CW hne W9 ι
        refine wpG_force 11 _ rfl (by kernel_rfl) rfl fun wa hwa K hK => ?_
        go_simp
        have hAa := HA5.out.bel hwa.undrew
        refine (bid_any ⟨g, 0, none⟩ r M1.house (wd W 1) who (numI (wd W 2)) now wa hAa.house hAa.apart.1.1 (fun y hy => by have := (hAa.good.2 _ (mget_in hy)).2; simp only at this; omega)).mono ?_
        rintro _ wb ⟨rfl, hHb, hgb⟩
        refine hK _ _ (fun h => absurd (by simp) h) ?_
        clear hK K
        have hAb := hAa.putHouse hgb hHb (hAa.ok.bidH _ _ _ _) (hAa.good.bidH _ _ _ _) (by omega)
        refine wpG_force 12 _ rfl (by kernel_rfl) rfl fun wc' hwc K hK => ?_
        go_simp
        refine (told_is (bidR M1.house (wd W 1) who (numI (wd W 2)) now) wc' (bidR_range _ _ _ _ _).1 (bidR_range _ _ _ _ _).2).mono ?_
        rintro _ wd' ⟨rfl, rfl⟩
        refine hK _ _ (fun h => absurd (by simp) h) ?_
        clear hK K
        refine wpG_force 13 _ rfl (by kernel_rfl) rfl fun we hwe K hK => ?_
        go_simp
        refine hK _ _ (fun h => absurd (by simp) h) ?_
        clear hK K
        refine wpG_end (by kernel_rfl) (fun wn' hwn => ?_) _
        have hbn : Bel wb wn' := GB.tr _ _ _ (GB.tr _ _ _ hwc hwe) hwn
        have HAN := Lib.hid (hAb.bel hbn)
        have HGN := Lib.hid (((HC5.out.tr (Chg.of_bel hwa.undrew _)).tr (gx_foot hgb)).tr (Chg.of_bel hbn (footA a r q)))
        clear hAb hbn hwn hwe hwc hgb hHb hAa hwa
        go_wp2_with fail
        go_ret
        rw [HE.out, HV.out]
        exact ⟨rfl, HAN.out.mono (by omega), HGN.out⟩
    have HD3 := Lib.hid (HD2.out.trans (if_neg (show ¬ (b3 = true ∧ nw = 3) by rw [Bool.and_eq_true, decide_eq_true_eq] at hB; exact hB)))
    rw [show (b3 && decide (nw = 3)) = false by simpa using hB]
    clear hB HD2
    by_cases hn2 : nw = 2
    · subst hn2
      have c1 := HCL.out 1 (by omega) (by omega)
      have at0 := HA5.out.at0
      have at1 := HA5.out.at1
      have HD4 := Lib.hid (HD3.out.trans (if_neg (by decide)))
      clear HD3
      cases b4
      · cases b5
        · cases b6
          · cases b7
            · have HV := Lib.hid (HD4.out.trans ((if_neg (by decide)).trans ((if_neg (by decide)).trans ((if_neg (by decide)).trans (if_neg (by decide))))))
              go_wp2_with fail
              go_ret
              rw [HE.out, HV.out]
              exact ⟨rfl, HA5.out.mono (by omega), HC5.out⟩
            · have HV := Lib.hid (HD4.out.trans ((if_neg (by decide)).trans ((if_neg (by decide)).trans ((if_neg (by decide)).trans (if_pos rfl)))))
              go_wp2_with fail
              refine (ownerA_any a g r p q (kk + 1) M1 (wd W 1) w5 HA5.out HL5.out).mono ?_
              rintro _ w6 ⟨rfl, hb6⟩
              have HA6 := Lib.hid (HA5.out.bel hb6); have HC6 := Lib.hid (HC5.out.tr (Chg.of_bel hb6 (footA a r q)))
              clear hb6
              go_wp2_with fail
              go_ret
              rw [HE.out, HV.out]
              exact ⟨rfl, HA6.out.mono (by omega), HC6.out⟩
          · have HV := Lib.hid (HD4.out.trans ((if_neg (by decide)).trans ((if_neg (by decide)).trans (if_pos rfl))))
            go_wp2_with fail
            refine wp_region_G GB [8, 9, 10] GB.rf (by kernel_rfl) ?_
            refine wpG_looks 3 11 [0,1,2,3,4,5,6,7] rfl GB.rf GB.tr (by kernel_rfl) (fun _ _ _ _ hd h => And.intro (hd ▸ And.left h) (And.right h)) rfl (by kernel_rfl) ?_
            intro ι W9 hne CW
            have g0 := fun z => GB.cell (CW.out z).undrew at1
            have g1 := fun z => GB.cell (CW.out z).undrew c1
            repeat (refine wpLooksG_step (fun K hK => ?_); go_simp; refine hK _ ?_; clear hK K)
            refine wpLooksG_nil ?_
            clear g0 g1 CW hne W9 ι
            refine wpG_force 8 _ rfl (by kernel_rfl) rfl fun wa hwa K hK => ?_
            go_simp
            have hAa := HA5.out.bel hwa.undrew
            refine (release_any ⟨p, 0, none⟩ q M1.reg (wd W 1) who wa hAa.reg hAa.apart.1.2.1 (HWD.out 1)).mono ?_
            rintro _ wb ⟨rfl, hHb, hgb⟩
            refine hK _ _ (fun h => absurd (by simp) h) ?_
            clear hK K
            have hAb := hAa.putReg hgb hHb (hAa.regs.release _ _)
            refine wpG_force 9 _ rfl (by kernel_rfl) rfl fun wc' hwc K hK => ?_
            go_simp
            refine (told_is (releaseR M1.reg (wd W 1) who) wc' (releaseR_range _ _ _).1 (releaseR_range _ _ _).2).mono ?_
            rintro _ wd' ⟨rfl, rfl⟩
            refine hK _ _ (fun h => absurd (by simp) h) ?_
            clear hK K
            refine wpG_force 10 _ rfl (by kernel_rfl) rfl fun we hwe K hK => ?_
            go_simp
            refine hK _ _ (fun h => absurd (by simp) h) ?_
            clear hK K
            refine wpG_end (by kernel_rfl) (fun wn' hwn => ?_) _
            have hbn : Bel wb wn' := GB.tr _ _ _ (GB.tr _ _ _ hwc hwe) hwn
            have HAN := Lib.hid (hAb.bel hbn)
            have HGN := Lib.hid (((HC5.out.tr (Chg.of_bel hwa.undrew _)).tr (gx_footQ hgb)).tr (Chg.of_bel hbn (footA a r q)))
            clear hAb hbn hwn hwe hwc hgb hHb hAa hwa
            go_wp2_with fail
            go_ret
            rw [HE.out, HV.out]
            exact ⟨rfl, HAN.out.mono (by omega), HGN.out⟩
        · have HV := Lib.hid (HD4.out.trans ((if_neg (by decide)).trans (if_pos rfl)))
          go_wp2_with fail
          refine wp_region_G GB [8, 9, 10] GB.rf (by kernel_rfl) ?_
          refine wpG_looks 3 11 [0,1,2,3,4,5,6,7] rfl GB.rf GB.tr (by kernel_rfl) (fun _ _ _ _ hd h => And.intro (hd ▸ And.left h) (And.right h)) rfl (by kernel_rfl) ?_
          intro ι W9 hne CW
          have g0 := fun z => GB.cell (CW.out z).undrew at1
          have g1 := fun z => GB.cell (CW.out z).undrew c1
          repeat (refine wpLooksG_step (fun K hK => ?_); go_simp; refine hK _ ?_; clear hK K)
          refine wpLooksG_nil ?_
          clear g0 g1 CW hne W9 ι
          refine wpG_force 8 _ rfl (by kernel_rfl) rfl fun wa hwa K hK => ?_
          go_simp
          have hAa := HA5.out.bel hwa.undrew
          refine (reserve_any ⟨p, 0, none⟩ q M1.reg (wd W 1) who wa hAa.reg hAa.apart.1.2.1 (HWD.out 1) (by have := hAa.regs.1; unfold maxLen; omega)).mono ?_
          rintro _ wb ⟨rfl, hHb, hgb⟩
          refine hK _ _ (fun h => absurd (by simp) h) ?_
          clear hK K
          have hAb := hAa.putReg hgb hHb (hAa.regs.reserve _ _)
          refine wpG_force 9 _ rfl (by kernel_rfl) rfl fun wc' hwc K hK => ?_
          go_simp
          refine (told_is (reserveR M1.reg (wd W 1) who) wc' (reserveR_range _ _ _).1 (reserveR_range _ _ _).2).mono ?_
          rintro _ wd' ⟨rfl, rfl⟩
          refine hK _ _ (fun h => absurd (by simp) h) ?_
          clear hK K
          refine wpG_force 10 _ rfl (by kernel_rfl) rfl fun we hwe K hK => ?_
          go_simp
          refine hK _ _ (fun h => absurd (by simp) h) ?_
          clear hK K
          refine wpG_end (by kernel_rfl) (fun wn' hwn => ?_) _
          have hbn : Bel wb wn' := GB.tr _ _ _ (GB.tr _ _ _ hwc hwe) hwn
          have HAN := Lib.hid (hAb.bel hbn)
          have HGN := Lib.hid (((HC5.out.tr (Chg.of_bel hwa.undrew _)).tr (gx_footQ hgb)).tr (Chg.of_bel hbn (footA a r q)))
          clear hAb hbn hwn hwe hwc hgb hHb hAa hwa
          go_wp2_with fail
          go_ret
          rw [HE.out, HV.out]
          exact ⟨rfl, HAN.out.mono (by omega), HGN.out⟩
      · have HV := Lib.hid (HD4.out.trans (if_pos rfl))
        go_wp2_with fail
        refine (resultA_any a g r p q (kk + 1) M1 (wd W 1) w5 HA5.out HL5.out).mono ?_
        rintro _ w6 ⟨rfl, hb6⟩
        have HA6 := Lib.hid (HA5.out.bel hb6); have HC6 := Lib.hid (HC5.out.tr (Chg.of_bel hb6 (footA a r q)))
        clear hb6
        go_wp2_with fail
        go_ret
        rw [HE.out, HV.out]
        exact ⟨rfl, HA6.out.mono (by omega), HC6.out⟩
    · have HV := Lib.hid (HD3.out.trans (if_pos hn2))
      have hn3 : ¬ (nw : Int) = 2 := by omega
      go_wp2_with fail
      go_ret
      rw [HE.out, HV.out]
      exact ⟨rfl, HA5.out.mono (by omega), HC5.out⟩
  · have HV := Lib.hid (HD.out.trans (if_pos rfl))
    go_wp2_with fail
    refine (told_is 0 w5 (by decide) (by decide)).mono ?_
    rintro _ w6 ⟨rfl, rfl⟩
    go_wp2_with fail
    go_ret
    rw [HE.out, HV.out]
    exact ⟨rfl, HA5.out.mono (by omega), HC5.out⟩
end Go.Proofs.YtgeimnknmljplaaDoor
/- The app: made, buried, counted, cloned. Conditions: those named in each theorem. -/
namespace Go.Proofs.YtgeimnknmljplaaDoor
open Go Go.RowKit Go.Gv Go.Sort Go.Proofs

/-- What changes elsewhere leaves an app as it is. -/
theorem AppIs.off {S : Nat → Prop} {w w' : World} {a g r p q kk : Nat} {M : MApp} (h : AppIs w a g r p q M kk) (hO : ∀ k, S k → NoBid w k) (hc : Chg S w w') (h1 : ¬ S a) (h2 : ¬ S g) (h3 : ¬ S r) (h4 : ¬ S p) (h5 : ¬ S q) : AppIs w' a g r p q M kk :=
  ⟨(hc.block a h.lt h1).trans h.cells, h.house.off2 hO hc h2 h3, h.reg.chg hc h4 h5, h.apart, h.ok, h.good, h.regs, h.count⟩
theorem AppIs.noBids {w : World} {a g r p q kk : Nat} {M : MApp} (h : AppIs w a g r p q M kk) : ∀ k, footA a r q k → NoBid w k := by
  rintro k (rfl | rfl | rfl)
  · exact h.noBid
  · obtain ⟨_, m, hm, _⟩ := h.house
    exact NoBid.map hm
  · exact NoBid.map h.reg.2
def M0 : MApp := ⟨[], [], 0⟩
theorem appIs_new {w : World} {g r p q : Nat} {H : MHouse} {Q : MReg} {n : Int} {kk : Nat} (hH : HouseIs w ⟨g, 0, none⟩ r H) (hQ : RegIs w ⟨p, 0, none⟩ q Q) (h1 : g ≠ r) (h2 : p ≠ q) (h3 : r ≠ q) (h4 : g ≠ q) (h5 : p ≠ r) (hok : HouseOk H) (hg : GoodH H kk) (hr : RegOk Q) (hn : 0 ≤ n ∧ n ≤ kk) :
    AppIs (w.alloc (.cells (GAppApp.enc ⟨some ⟨g, 0, none⟩, some ⟨p, 0, none⟩, n⟩).toArray 45)) w.heap.size g r p q ⟨H, Q, n⟩ kk := by
  have hb := (Bel.refl w).alloc (.cells (GAppApp.enc ⟨some ⟨g, 0, none⟩, some ⟨p, 0, none⟩, n⟩).toArray 45)
  have l1 := World.block_lt_of_cell? w _ hH.1
  have l2 := World.block_lt_of_cell? w _ hQ.1
  have l3 := hH.2.lt
  have l4 := hQ.ltr
  simp only at l1 l2
  exact ⟨heap_alloc_new w _, hH.step hb, hQ.step hb, ⟨⟨h1, h2, h3⟩, ⟨h4, h5⟩, ⟨by omega, by omega⟩, by omega, by omega⟩, hok, hg, hr, hn⟩
theorem newApp_any (w : World) : Calls Tryd.prog 5 #[] w fun e w' => ∃ a g r p q, e = .returned (.pointer (some ⟨a, 0, none⟩)) ∧ AppIs w' a g r p q M0 0 ∧ (∀ k, w.heap.size ≤ k ∨ ¬ (footA a r q k ∨ k = g ∨ k = p)) ∧ Bel w w' := by
  go_enter Tryd.func5, Tryd.ntmps5
  go_wp2_with fail
  refine (new_any _).mono ?_
  rintro _ w1 ⟨g, r, rfl, hH, hg, hr, hne, hlt, hb1⟩
  have HH := Lib.hid hH; have HB1 := Lib.hid hb1
  have hrl := hH.2.lt
  have hz1 := hb1.size
  clear hH hb1
  go_wp2_with fail
  refine (newReg_any _).mono ?_
  rintro _ w2 ⟨p, q, rfl, hQ, hp, hq, hne2, hlt2, hb2⟩
  have HH2 := Lib.hid (HH.out.step hb2); have HQ := Lib.hid hQ; have HB2 := Lib.hid (HB1.out.trans hb2)
  have hz2 := hb2.size
  have hql := hQ.ltr
  clear hQ hb2
  go_wp2_with fail
  go_ret
  refine ⟨w2.heap.size, g, r, p, q, rfl, appIs_new HH2.out HQ.out hne hne2 (by omega) (by omega) (by omega) HouseOk.nil (GoodH.nil 0) RegOk.nil ⟨Int.le_refl _, Int.le_refl _⟩, ?_, HB2.out.alloc _⟩
  intro k
  rcases Nat.lt_or_ge k w.heap.size with h | h
  · refine .inr ?_
    unfold footA
    omega
  · exact .inl h
theorem count_any (a g r p q kk : Nat) (M : MApp) (w : World) (hA : AppIs w a g r p q M kk) : Calls Tryd.prog 23 #[.pointer (some ⟨a, 0, none⟩)] w fun e w' => e = .returned (.int .i64 M.n) ∧ w' = w := by
  have at2 := hA.at2
  clear hA
  go_enter Tryd.func23, Tryd.ntmps23
  go_wp2_with fail
  go_ret
  exact ⟨rfl, rfl⟩
def sBuried : ByteArray := ⟨#[98, 117, 114, 105, 101, 100]⟩
end Go.Proofs.YtgeimnknmljplaaDoor
