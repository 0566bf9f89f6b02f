/- What Settle's comparison computes. Conditions: those named in each theorem. -/
import Derived.Test.YtgeimnknmljplaaDoorP2
import Derived.Test.YtgeimnknmljplaaDoorP3
import Derived.Lib.SliceRun
import Derived.Deep.DeepCutAuto
import Derived.Test.YtgeimnknmljplaaDoorP1
import Derived.StillTailTactics
import Derived.Sort.Grow
/- Auctions: what a house reads as; names. Conditions: those named in each theorem. -/
namespace Go.Proofs.YtgeimnknmljplaaDoor
open Go Go.RowKit Go.Gv

/-! ### The model -/
structure MSale where
  name : ByteArray
  vickrey : Bool
  reserve : Int
  close : Int
  bids : List GAuctionBid
  settled : Bool
  result : GAuctionResult
abbrev MHouse := List (ByteArray × MSale)
def MSale.at (x : MSale) (h : Hdr) : GAuctionSale := ⟨x.name, x.vickrey, x.reserve, x.close, h, x.settled, x.result⟩
def SaleIs (w : World) (s : GAuctionSale) (x : MSale) : Prop := ∃ h : Hdr, s = x.at h ∧ Sl GAuctionBid w w.heap.size h.a h.len x.bids ∧ h.len ≤ h.cap ∧ h.cap ≤ maxLen
def HRel (w : World) : List (ByteArray × GAuctionSale) → MHouse → Prop
  | [], [] => True
  | p :: m, q :: H => (p.1 = q.1 ∧ SaleIs w p.2 q.2) ∧ HRel w m H
  | _, _ => False
theorem SaleIs.step {w w' : World} {s : GAuctionSale} {x : MSale} (h : SaleIs w s x) (hb : Bel w w') : SaleIs w' s x := by
  obtain ⟨hd, h1, h2, h3⟩ := h
  exact ⟨hd, h1, h2.stepB hb, h3⟩
section
variable {w w' : World}
theorem HRel.step (hb : Bel w w') : ∀ {m : List (ByteArray × GAuctionSale)} {H : MHouse}, HRel w m H → HRel w' m H
  | [], [], h => h
  | _ :: _, _ :: _, h => ⟨⟨h.1.1, h.1.2.step hb⟩, HRel.step hb h.2⟩
  | [], _ :: _, h => h.elim
  | _ :: _, [], h => h.elim
theorem HRel.keys : ∀ {m : List (ByteArray × GAuctionSale)} {H : MHouse}, HRel w m H → m.map (·.1) = H.map (·.1)
  | [], [], _ => rfl
  | _ :: _, _ :: _, h => by simp only [List.map_cons]; rw [h.1.1, HRel.keys h.2]
  | [], _ :: _, h => h.elim
  | _ :: _, [], h => h.elim
theorem HRel.len {m : List (ByteArray × GAuctionSale)} {H : MHouse} (h : HRel w m H) : m.length = H.length := by
  have := congrArg List.length h.keys; simpa using this
theorem HRel.get (k : ByteArray) : ∀ {m : List (ByteArray × GAuctionSale)} {H : MHouse}, HRel w m H → (mget m k = none ∧ mget H k = none) ∨ ∃ s x, mget m k = some s ∧ mget H k = some x ∧ SaleIs w s x
  | [], [], _ => .inl ⟨rfl, rfl⟩
  | p :: m, q :: H, h => by
    simp only [mget_cons, h.1.1]
    by_cases e : q.1 = k
    · simp only [e, if_true]
      exact .inr ⟨p.2, q.2, rfl, rfl, h.1.2⟩
    · simp only [e, if_false]
      exact HRel.get k h.2
  | [], _ :: _, h => h.elim
  | _ :: _, [], h => h.elim
theorem HRel.app {m2 : List (ByteArray × GAuctionSale)} {H2 : MHouse} (h2 : HRel w m2 H2) : ∀ {m : List (ByteArray × GAuctionSale)} {H : MHouse}, HRel w m H → HRel w (m ++ m2) (H ++ H2)
  | [], [], _ => h2
  | _ :: _, _ :: _, h => ⟨h.1, HRel.app h2 h.2⟩
  | [], _ :: _, h => h.elim
  | _ :: _, [], h => h.elim
theorem HRel.upd {k : ByteArray} {s : GAuctionSale} {x : MSale} (hs : SaleIs w s x) : ∀ {m : List (ByteArray × GAuctionSale)} {H : MHouse}, HRel w m H → HRel w (m.map fun p => if p.1 = k then (k, s) else p) (H.map fun p => if p.1 = k then (k, x) else p)
  | [], [], _ => trivial
  | p :: m, q :: H, h => by
    simp only [List.map_cons]
    refine ⟨?_, HRel.upd hs h.2⟩
    by_cases e : q.1 = k
    · rw [if_pos (h.1.1.trans e), if_pos e]; exact ⟨rfl, hs⟩
    · rw [if_neg (fun e' => e (h.1.1.symm.trans e')), if_neg e]; exact h.1
  | [], _ :: _, h => h.elim
  | _ :: _, [], h => h.elim
theorem HRel.set {k : ByteArray} {s : GAuctionSale} {x : MSale} (hs : SaleIs w s x) {m : List (ByteArray × GAuctionSale)} {H : MHouse} (h : HRel w m H) : HRel w (mset m k s) (mset H k x) := by
  unfold mset
  rw [h.keys]
  split
  · exact h.upd hs
  · exact HRel.app (m2 := [(k, s)]) (H2 := [(k, x)]) ⟨⟨rfl, hs⟩, trivial⟩ h
end
/-- Block r is a map of auctions. -/
def HouseAt (w : World) (r : Nat) (H : MHouse) : Prop := ∃ m, mapAt ByteArray GAuctionSale w r = some m ∧ HRel w m H
/-- At p lies a house over the map in block r. -/
def HouseIs (w : World) (p : Addr) (r : Nat) (H : MHouse) : Prop := w.cell? p = some (.map (some r)) ∧ HouseAt w r H
section
variable {w w' : World} {p : Addr} {r : Nat} {H : MHouse}
theorem HouseAt.lt (h : HouseAt w r H) : r < w.heap.size := by obtain ⟨m, hm, _⟩ := h; exact mapAt_lt hm
theorem HouseAt.step (h : HouseAt w r H) (hb : Bel w w') : HouseAt w' r H := by
  obtain ⟨m, hm, hr⟩ := h
  exact ⟨m, (mapAt_below hb (mapAt_lt hm)).trans hm, hr.step hb⟩
theorem HouseIs.step (h : HouseIs w p r H) (hb : Bel w w') : HouseIs w' p r H := ⟨GB.cell hb h.1, h.2.step hb⟩
theorem _root_.Go.Gv.Sl.mput_ {α : Type} [Enc α] {K V : Type} [DecidableEq K] [KEnc K] [VEnc V] {P : Program} {tK tM tV : TypeId} (L : KeyLaws P tK K) (hM : P.underlying tM = some (.map tK tV)) {m : List (K × V)} (h : mapAt K V w r = some m) (k : K) (v : V) {A : Option Addr} {n : Nat} {xs : List α} (hs : Sl α w w.heap.size A n xs) :
    Sl α (mput P tM w r k v) (mput P tM w r k v).heap.size A n xs := by
  refine ⟨hs.1, fun hn => ?_⟩
  obtain ⟨ad, e, hb, hc⟩ := hs.2 hn
  exact ⟨ad, e, by rw [mput_size L hM h]; exact hb, fun j x hj => by rw [mput_get L hM h]; exact hc j x hj⟩
theorem SaleIs.put {m : List (ByteArray × GAuctionSale)} (hm : mapAt ByteArray GAuctionSale w r = some m) (k : ByteArray) (v : GAuctionSale) {s : GAuctionSale} {x : MSale} (h : SaleIs w s x) : SaleIs (mput Tryd.prog 59 w r k v) s x := by
  obtain ⟨hd, h1, h2, h3⟩ := h
  exact ⟨hd, h1, h2.mput_ kl9 um59 hm k v, h3⟩
theorem HRel.mono (hw : ∀ s x, SaleIs w s x → SaleIs w' s x) : ∀ {m : List (ByteArray × GAuctionSale)} {H : MHouse}, HRel w m H → HRel w' m H
  | [], [], h => h
  | _ :: _, _ :: _, h => ⟨⟨h.1.1, hw _ _ h.1.2⟩, HRel.mono hw h.2⟩
  | [], _ :: _, h => h.elim
  | _ :: _, [], h => h.elim
theorem HRel.put {m0 : List (ByteArray × GAuctionSale)} (hm : mapAt ByteArray GAuctionSale w r = some m0) (k : ByteArray) (v : GAuctionSale) {m : List (ByteArray × GAuctionSale)} {H : MHouse} (h : HRel w m H) : HRel (mput Tryd.prog 59 w r k v) m H :=
  HRel.mono (fun _ _ hs => SaleIs.put hm k v hs) h
theorem HouseAt.put {m : List (ByteArray × GAuctionSale)} (hm : mapAt ByteArray GAuctionSale w r = some m) (hr : HRel w m H) {k : ByteArray} {v : GAuctionSale} {x : MSale} (hs : SaleIs w v x) : HouseAt (mput Tryd.prog 59 w r k v) r (mset H k x) :=
  ⟨mset m k v, mapAt_mput kl9 um59 hm k v, (hr.put hm k v).set (hs.put hm k v)⟩
theorem GX.of_bel (h : Bel w w') (r : Nat) : GX r w w' := ⟨Below.os h, Below.tape h, Below.output h, Below.size h, fun k hk _ => Below.block h k hk⟩
theorem GX.cell {v : Value} (h : GX r w w') (hc : w.cell? p = some v) (hp : p.block ≠ r) : w'.cell? p = some v :=
  (World.cell?_of_block (w := w) (h.block _ (World.block_lt_of_cell? w _ hc) (fun e => hp (by injection e)))).trans hc
end
/-! ### Names -/
def nameB (s : ByteArray) : Bool := (s.data.toList.all fun c => decide (97 ≤ c.toNat) && decide (c.toNat ≤ 122)) && (decide (1 ≤ s.size) && decide (s.size ≤ 16))
end Go.Proofs.YtgeimnknmljplaaDoor
/- What word.Name, auction.New and Open compute. Conditions: those named in each theorem. -/
namespace Go.Proofs.YtgeimnknmljplaaDoor
open Go Go.RowKit Go.Gv

def letB (c : UInt8) : Bool := decide (97 ≤ c.toNat) && decide (c.toNat ≤ 122)
theorem take_snocB (s : ByteArray) (k : Nat) (h : k < s.size) : s.data.toList.take (k + 1) = s.data.toList.take k ++ [s[k]] := by
  rw [List.take_succ_eq_append_getElem (by simpa using h)]; rfl
theorem nameB_eq (s : ByteArray) : nameB s = (s.data.toList.all letB && (decide (1 ≤ s.size) && decide (s.size ≤ 16))) := rfl
theorem all_no {s : ByteArray} {k : Nat} (h : k < s.size) (hc : letB s[k] = false) : s.data.toList.all letB = false := by
  rw [List.all_eq_false]
  exact ⟨s[k], by
    have : s[k] = s.data.toList[k]'(by simpa using h) := rfl
    rw [this]; exact List.getElem_mem _, by rw [hc]; simp⟩
set_option maxHeartbeats 400000 in
theorem name_any (s : ByteArray) (w : World) (hs : s.size ≤ maxLen) :
    Calls Tryd.prog 48 #[.string s] w fun e w' => e = .returned (.bool (nameB s)) ∧ w = w' := by
  unfold maxLen at hs
  go_enter Tryd.func48, Tryd.ntmps48
  go_wp2
  go_loop [3] (fun i => ∃ k : Nat, k ≤ s.size ∧ i = .int .i64 k ∧ (s.data.toList.take k).all letB = true) (fun i => s.size - (intOf i).toNat)
  case atStart => exact ⟨0, Nat.zero_le _, rfl, rfl⟩
  case round =>
    obtain ⟨k, hk, rfl, hall⟩ := hrel
    have HA := Lib.hid hall; clear hall
    by_cases hlt : k < s.size
    · have hts := Lib.hid (take_snocB s k hlt)
      have hno := Lib.hid (fun hc => all_no hlt hc)
      obtain ⟨c, hc⟩ : ∃ c, s[k] = c := ⟨_, rfl⟩
      have HC := Lib.hid hc
      by_cases h1 : (c.toNat : Int) < 97
      · have hb : letB s[k] = false := by rw [hc]; unfold letB; simp; omega
        have HB := Lib.hid hb; clear hb
        go_wp2
        go_ret
        refine ⟨ret_bool ?_, rfl⟩
        rw [nameB_eq, hno.out HB.out]; rfl
      · by_cases h2 : 122 < (c.toNat : Int)
        · have hb : letB s[k] = false := by rw [hc]; unfold letB; simp; omega
          have HB := Lib.hid hb; clear hb
          go_wp2
          go_ret
          refine ⟨ret_bool ?_, rfl⟩
          rw [nameB_eq, hno.out HB.out]; rfl
        · have hb : letB s[k] = true := by rw [hc]; unfold letB; simp; omega
          have HB := Lib.hid hb; clear hb
          go_wp2
          go_round
          case rel => exact ⟨k + 1, by omega, by go_num, by rw [hts.out, List.all_append, HA.out]; simp [HB.out]⟩
          case measure => simp [intOf]; omega
    · have hall : s.data.toList.all letB = true := by
        have := HA.out
        rwa [List.take_of_length_le (by simp; omega)] at this
      have HA2 := Lib.hid hall; clear hall
      by_cases h1 : 1 ≤ s.size
      · by_cases h2 : s.size ≤ 16
        · go_wp2
          go_ret
          exact ⟨ret_bool (by rw [nameB_eq, HA2.out]; simp [h1]; omega), rfl⟩
        · go_wp2
          go_ret
          exact ⟨ret_bool (by rw [nameB_eq, HA2.out]; simp [h2]; omega), rfl⟩
      · go_wp2
        go_ret
        exact ⟨ret_bool (by rw [nameB_eq, HA2.out]; simp [h1]), rfl⟩
theorem name_is (r : Bool) (s : ByteArray) (w : World) (hr : nameB s = r) (hs : s.size ≤ maxLen) :
    Calls Tryd.prog 48 #[.string s] w fun e w' => e = .returned (.bool r) ∧ w' = w := by subst hr; exact flipC (name_any s w hs)

theorem new_any (w : World) : Calls Tryd.prog 11 #[] w fun e w' => ∃ g r : Nat, e = .returned (.pointer (some ⟨g, 0, none⟩)) ∧ HouseIs w' ⟨g, 0, none⟩ r [] ∧ w.heap.size ≤ g ∧ w.heap.size ≤ r ∧ g ≠ r ∧ g < w'.heap.size ∧ Bel w w' := by
  have hmm := @run_makeMap Tryd.prog
  go_enter Tryd.func11, Tryd.ntmps11
  go_wp2
  go_ret
  refine ⟨w.heap.size + 1, w.heap.size, rfl, ⟨?_, ?_⟩, by omega, by omega, by omega, by simp, ((Bel.refl w).alloc _).alloc _⟩
  · exact cell_zero (GAuctionHouse.at_m (nw61 (w.alloc (.map #[] 0)) (w.heap.size + 1) ⟨some w.heap.size⟩ (by simp)))
  · exact ⟨[], (mapAt_alloc _ (mapAt_new _ _ w)), trivial⟩
end Go.Proofs.YtgeimnknmljplaaDoor
/- What Open computes. Conditions: those named in each theorem. -/
namespace Go.Proofs.YtgeimnknmljplaaDoor
open Go Go.RowKit Go.Gv

def badOpen (name : ByteArray) (reserve : Int) : Bool := !nameB name || (decide (reserve < 0) || decide (1099511627776 < reserve))
def openR (H : MHouse) (name : ByteArray) (reserve close now : Int) : Int :=
  if badOpen name reserve = true then 1 else if (mget H name).isSome = true then 5 else if close ≤ now then 4 else if 64 ≤ H.length then 7 else 0
def newSale (name : ByteArray) (v : Bool) (reserve close : Int) : MSale := ⟨name, v, reserve, close, [], false, default⟩
def openH (H : MHouse) (name : ByteArray) (v : Bool) (reserve close now : Int) : MHouse := if openR H name reserve close now = 0 then mset H name (newSale name v reserve close) else H

def Opened (w : World) (p : Addr) (r : Nat) (H : MHouse) (name : ByteArray) (v : Bool) (reserve close now : Int) (e : Ending) (w' : World) : Prop :=
  e = .returned (.int .i64 (openR H name reserve close now)) ∧ HouseIs w' p r (openH H name v reserve close now) ∧ GX r w w'
theorem opened_no {w w' : World} {p : Addr} {r : Nat} {H : MHouse} {name : ByteArray} {v : Bool} {reserve close now c : Int} (hH : HouseIs w p r H) (hb : Bel w w') (hc : openR H name reserve close now = c) (h0 : c ≠ 0) :
    Opened w p r H name v reserve close now (.returned (.int .i64 c)) w' := by
  subst hc
  refine ⟨rfl, ?_, GX.of_bel hb r⟩
  unfold openH
  rw [if_neg h0]
  exact hH.step hb
theorem houseIs_put {w : World} {p : Addr} {r : Nat} {H : MHouse} {m : List (ByteArray × GAuctionSale)} (hc : w.cell? p = some (.map (some r))) (hp : p.block ≠ r) (hm : mapAt ByteArray GAuctionSale w r = some m) (hr : HRel w m H) {k : ByteArray} {v : GAuctionSale} {x : MSale} (hs : SaleIs w v x) :
    HouseIs (mput Tryd.prog 59 w r k v) p r (mset H k x) ∧ GX r w (mput Tryd.prog 59 w r k v) := by
  have hg : GX r w (mput Tryd.prog 59 w r k v) := mput_grown kl9 um59 hm k v
  exact ⟨⟨GX.cell hg hc hp, HouseAt.put hm hr hs⟩, hg⟩
set_option maxRecDepth 100000 in
set_option maxHeartbeats 1000000 in
theorem open_any (p : Addr) (r : Nat) (H : MHouse) (name : ByteArray) (v : Bool) (reserve close now : Int) (w : World) (hH : HouseIs w p r H) (hp : p.block ≠ r) (hn : name.size ≤ maxLen) (hlen : H.length ≤ maxLen) :
    Calls Tryd.prog 32 #[.pointer (some p), .string name, .bool v, .int .i64 reserve, .int .u64 close, .int .u64 now] w (Opened w p r H name v reserve close now) := by
  obtain ⟨hc, m, hm, hr⟩ := hH
  have HH := Lib.hid (show HouseIs w p r H from ⟨hc, m, hm, hr⟩)
  have hrl := mapAt_lt hm
  have hml := hr.len
  have HR := Lib.hid hr; clear hr
  unfold maxLen at hlen
  obtain ⟨s0, hs0, hsH⟩ : ∃ s0 : GAuctionSale, (mget m name).getD default = s0 ∧ (mget m name).isSome = (mget H name).isSome := by
    refine ⟨_, rfl, ?_⟩
    rcases HR.out.get name with ⟨h1, h2⟩ | ⟨s, x, h1, h2, _⟩
    · rw [h1, h2]; rfl
    · rw [h1, h2]; rfl
  obtain ⟨is, his⟩ : ∃ is, (mget H name).isSome = is := ⟨_, rfl⟩
  rw [his] at hsH
  obtain ⟨n, hnl⟩ : ∃ n, H.length = n := ⟨_, rfl⟩
  rw [hnl] at hml hlen
  have HIS := Lib.hid his; have HNL := Lib.hid hnl; have HML := Lib.hid hml
  have HBA := Lib.hid ((Bel.refl w).alloc (.cells (GAuctionSale.enc s0).toArray 70))
  clear his hnl hml
  have hcA : ∀ o, (w.alloc o).cell? p = some (.map (some r)) := fun o => GB.cell (GB.al w o) hc
  have hmA : ∀ o, mapAt ByteArray GAuctionSale (w.alloc o) r = some m := fun o => mapAt_alloc o hm
  have hlenrun : ∀ o, (Builtin.len_ #[59] 3 #[.map (some r)]).run Tryd.prog (w.alloc o) = .ok (.int .i64 (n : Int)) (w.alloc o) := fun o => by
    rw [Gv.run_len_map kl9 um59 (hmA o) 3, HML.out]
  obtain ⟨nb, hnb⟩ : ∃ nb, nameB name = nb := ⟨_, rfl⟩
  have HNB := Lib.hid hnb; clear hnb
  by_cases hbad : badOpen name reserve = true
  · have HO := Lib.hid (show openR H name reserve close now = 1 by unfold openR; rw [if_pos hbad])
    have hb2 : (!nb || (decide (reserve < 0) || decide (1099511627776 < reserve))) = true := by rw [← HNB.out]; exact hbad
    clear hbad
    cases nb
    · clear hb2
      go_enter Tryd.func32, Tryd.ntmps32
      go_wp2_with fail
      refine (name_is false name _ HNB.out hn).mono ?_
      rintro _ w1 ⟨rfl, rfl⟩
      go_wp2_with fail
      go_ret
      exact opened_no HH.out HBA.out HO.out (by decide)
    · by_cases h1 : reserve < 0
      · clear hb2
        go_enter Tryd.func32, Tryd.ntmps32
        go_wp2_with fail
        refine (name_is true name _ HNB.out hn).mono ?_
        rintro _ w1 ⟨rfl, rfl⟩
        go_wp2_with fail
        go_ret
        exact opened_no HH.out HBA.out HO.out (by decide)
      · have h2 : 1099511627776 < reserve := by simpa [h1] using hb2
        clear hb2
        go_enter Tryd.func32, Tryd.ntmps32
        go_wp2_with fail
        refine (name_is true name _ HNB.out hn).mono ?_
        rintro _ w1 ⟨rfl, rfl⟩
        go_wp2_with fail
        go_ret
        exact opened_no HH.out HBA.out HO.out (by decide)
  · have hb2 : nb = true ∧ ¬ reserve < 0 ∧ ¬ 1099511627776 < reserve := by
      have : badOpen name reserve = false := by simpa using hbad
      unfold badOpen at this
      rw [HNB.out] at this
      simpa [and_assoc] using this
    obtain ⟨rfl, h1, h2⟩ := hb2
    have HBD := Lib.hid hbad; clear hbad
    cases is
    · by_cases h4 : close ≤ now
      · have HO := Lib.hid (show openR H name reserve close now = 4 by unfold openR; rw [if_neg HBD.out, if_neg (by rw [HIS.out]; decide), if_pos h4])
        go_enter Tryd.func32, Tryd.ntmps32
        go_wp2_with fail
        refine (name_is true name _ HNB.out hn).mono ?_
        rintro _ w1 ⟨rfl, rfl⟩
        go_wp2_with fail
        go_ret
        exact opened_no HH.out HBA.out HO.out (by decide)
      · by_cases h64 : 64 ≤ n
        · have HO := Lib.hid (show openR H name reserve close now = 7 by unfold openR; rw [if_neg HBD.out, if_neg (by rw [HIS.out]; decide), if_neg h4, if_pos (by rw [HNL.out]; exact h64)])
          go_enter Tryd.func32, Tryd.ntmps32
          go_wp2_with fail
          refine (name_is true name _ HNB.out hn).mono ?_
          rintro _ w1 ⟨rfl, rfl⟩
          go_wp2_with fail
          go_ret
          exact opened_no HH.out HBA.out HO.out (by decide)
        · have HO := Lib.hid (show openR H name reserve close now = 0 by unfold openR; rw [if_neg HBD.out, if_neg (by rw [HIS.out]; decide), if_neg h4, if_neg (by rw [HNL.out]; exact h64)])
          have hput := houseIs_put (p := p) (k := name) (v := (newSale name v reserve close).at default) (x := newSale name v reserve close) (hcA (.cells (GAuctionSale.enc s0).toArray 70)) hp (hmA _) (HR.out.step HBA.out) ⟨default, rfl, Sl.nil, Nat.le_refl _, Nat.zero_le _⟩
          have HP := Lib.hid hput; clear hput
          go_enter Tryd.func32, Tryd.ntmps32
          go_wp2_with fail
          refine (name_is true name _ HNB.out hn).mono ?_
          rintro _ w1 ⟨rfl, rfl⟩
          go_wp2_with fail
          go_ret
          refine ⟨by rw [HO.out]; rfl, ?_, GX.tr _ _ _ (GX.of_bel HBA.out r) HP.out.2⟩
          have := HP.out.1
          unfold openH
          rw [if_pos HO.out]
          exact this
    · have HO := Lib.hid (show openR H name reserve close now = 5 by unfold openR; rw [if_neg HBD.out, if_pos HIS.out])
      go_enter Tryd.func32, Tryd.ntmps32
      go_wp2_with fail
      refine (name_is true name _ HNB.out hn).mono ?_
      rintro _ w1 ⟨rfl, rfl⟩
      go_wp2_with fail
      go_ret
      exact opened_no HH.out HBA.out HO.out (by decide)
end Go.Proofs.YtgeimnknmljplaaDoor
/- What the helps of Bid compute. Conditions: those named in each theorem. -/
namespace Go.Proofs.YtgeimnknmljplaaDoor
open Go Go.RowKit Go.Gv

def hasBid (bs : List GAuctionBid) (c : Int) : Bool := bs.any fun b => b.client == c
theorem bidFn_any (b : GAuctionBid) (g : Nat) (c : Int) (w : World) (hc : w.cell? ⟨g, 0, none⟩ = some (.int .i64 c)) :
    Calls Tryd.prog 34 #[b.val, .pointer (some ⟨g, 0, none⟩)] w fun e w' => e = .returned (.bool (b.client == c)) ∧ Bel w w' := by
  have hcA : ∀ o, (w.alloc o).cell? ⟨g, 0, none⟩ = some (.int .i64 c) := fun o => GB.cell (GB.al w o) hc
  go_enter Tryd.func34, Tryd.ntmps34
  go_wp2
  go_ret
  exact ⟨rfl, (Bel.refl w).alloc _⟩
theorem bidFn_is (r : Bool) (b : GAuctionBid) (g : Nat) (c : Int) (w : World) (hr : (b.client == c) = r) (hc : w.cell? ⟨g, 0, none⟩ = some (.int .i64 c)) :
    Calls Tryd.prog 34 #[b.val, .pointer (some ⟨g, 0, none⟩)] w fun e w' => e = .returned (.bool r) ∧ Bel w w' := by subst hr; exact bidFn_any b g c w hc
def IndexIs (bs : List GAuctionBid) (c : Int) (w : World) (e : Ending) (w' : World) : Prop := ∃ i : Int, e = .returned (.int .i64 i) ∧ decide (0 ≤ i) = hasBid bs c ∧ Bel w w'
set_option maxHeartbeats 1000000 in
theorem indexBid_any (A : Option Addr) (n k g : Nat) (bs : List GAuctionBid) (c : Int) (w : World) (hx : Sl GAuctionBid w w.heap.size A n bs) (hn : n ≤ maxLen) (hc : w.cell? ⟨g, 0, none⟩ = some (.int .i64 c)) :
    Calls Tryd.prog 49 #[.slice A n k, .func (.func 34) #[] #[.pointer (some ⟨g, 0, none⟩)]] w (IndexIs bs c w) := by
  unfold maxLen at hn
  have H := Lib.hid hx; have HC := Lib.hid hc; clear hx hc
  go_enter Tryd.func49, Tryd.ntmps49
  go_wp2
  go_loopw [8] (fun i wr => ∃ j : Nat, j ≤ n ∧ i = .int .i64 j ∧ hasBid (bs.take j) c = false ∧ Bel w wr) (fun i _ => n - (intOf i).toNat)
  case atStart => exact ⟨0, by omega, rfl, rfl, Bel.refl _⟩
  case round =>
    obtain ⟨j, hj, rfl, hno, hb⟩ := hrel
    have HNO := Lib.hid hno; have HB := Lib.hid hb; clear hno hb
    by_cases hlt : j < n
    · obtain ⟨ad, b, rfl, _, hbk, hgb⟩ := (H.out.stepB HB.out).at_ (k := j) hlt
      have HBK := Lib.hid hbk; clear hbk
      change get? GAuctionBid wr (ad.add (j * 2)) = some b at hgb
      obtain ⟨r, hr⟩ : ∃ r, (b.client == c) = r := ⟨_, rfl⟩
      have HR := Lib.hid hr; clear hr
      have hstep : hasBid (bs.take (j + 1)) c = r := by
        have hno := HNO.out
        unfold hasBid at hno ⊢
        rw [nodup_step HBK.out, List.any_append, hno]; simpa using HR.out
      have HS := Lib.hid hstep; clear hstep
      go_wp2_with fail
      refine (bidFn_is r b g c _ HR.out (GB.cell HB.out HC.out)).mono ?_
      rintro _ w1 ⟨rfl, hb1⟩
      have HB1 := Lib.hid (HB.out.trans hb1); clear hb1
      cases r
      · go_wp2
        go_roundw
        case rel => exact ⟨j + 1, by omega, by go_num, HS.out, HB1.out⟩
        case measure => simp [intOf] <;> omega
      · have hany : hasBid bs c = true := by
          have := HS.out
          unfold hasBid at this ⊢
          rw [List.any_eq_true] at this ⊢
          obtain ⟨y, hy, hyc⟩ := this
          exact ⟨y, List.mem_of_mem_take hy, hyc⟩
        have HA := Lib.hid hany; clear hany
        go_wp2
        go_ret
        exact ⟨j, rfl, by rw [HA.out]; simp, HB1.out⟩
    · have hall : hasBid bs c = false := by
        have := HNO.out
        rwa [List.take_of_length_le (by rw [H.out.1]; omega)] at this
      have HA := Lib.hid hall; clear hall
      go_wp2
      go_ret
      exact ⟨-1, rfl, by rw [HA.out]; rfl, HB.out⟩
theorem hasBid_any (r : Bool) (A : Option Addr) (n k g : Nat) (bs : List GAuctionBid) (c : Int) (w : World) (hr : hasBid bs c = r) (hx : Sl GAuctionBid w w.heap.size A n bs) (hn : n ≤ maxLen) (hc : w.cell? ⟨g, 0, none⟩ = some (.int .i64 c)) :
    Calls Tryd.prog 33 #[.slice A n k, .func (.func 34) #[] #[.pointer (some ⟨g, 0, none⟩)]] w fun e w' => e = .returned (.bool r) ∧ Bel w w' := by
  have H := Lib.hid hx; have HC := Lib.hid hc; have HR := Lib.hid hr; clear hx hc hr
  go_enter Tryd.func33, Tryd.ntmps33
  go_wp2_with fail
  refine (indexBid_any A n k g bs c w H.out hn HC.out).mono ?_
  rintro _ w1 ⟨i, rfl, hi, hb⟩
  have HB := Lib.hid hb; have HI := Lib.hid hi; clear hb hi
  go_wp2
  go_ret
  exact ⟨ret_bool (by rw [HI.out, HR.out]), HB.out⟩
set_option maxRecDepth 100000 in
theorem cloneBid_any (A : Option Addr) (n k : Nat) (bs : List GAuctionBid) (w : World) (hx : Sl GAuctionBid w w.heap.size A n bs) (hn : n * 16 ≤ 140737488355328) :
    Calls Tryd.prog 35 #[.slice A n k] w fun e w' => ∃ v, e = .returned v ∧ OwnS w' w.heap.size 82 v bs ∧ Bel w w' := by
  have H := Lib.hid hx; have HN := Lib.hid hn; clear hx hn
  have hq : ∀ (w : World) (a : Option Addr) (n c : Nat), (binOp .eql 66 (.slice a n c) (.slice none 0 0)).run Tryd.prog w = .ok (.bool a.isNone) w := fun w a n c => Lib.run_eql_slice_nil w _ _ a n c 0 0 (Tryd.underlying66)
  cases A with
  | none =>
    have h0 : n = 0 := by
      rcases Nat.eq_zero_or_pos n with h | h
      · exact h
      · obtain ⟨ad, e, _⟩ := H.out.2 h; cases e
    subst h0
    have hbs : bs = [] := List.eq_nil_of_length_eq_zero H.out.1
    subst hbs
    go_enter Tryd.func35, Tryd.ntmps35
    go_wp2
    go_ret
    exact ⟨_, rfl, OwnS.nil _ _ _, Bel.refl _⟩
  | some ad =>
    go_enter Tryd.func35, Tryd.ntmps35
    go_wp2
    generalize hrun : Sem.run _ (gAppend _ _ _) _ = rr
    have ho0 : OwnS (w.alloc (.cells #[] 82)) w.heap.size 82 (.slice (some ⟨w.heap.size, 0, none⟩) 0 0) ([] : List GAuctionBid) :=
      ⟨rfl, .inr ⟨w.heap.size, 0, #[], rfl, Nat.le_refl _, heap_alloc_new w _, Nat.le_refl _, Nat.zero_le _, rfl, rfl⟩⟩
    have hn := HN.out
    obtain ⟨v', w', rfl, ho, hg, hob⟩ := append_spec hrun ei66 ho0 (H.out.stepB ((Bel.refl w).alloc _)) (by simp only [List.length_nil]; unfold maxLen; omega) (by simp only [List.length_nil]; omega) (by simp)
    clear hrun hn
    have hbel : Bel w w' := ((Bel.refl w).alloc _).appS hg ho0 (Nat.le_refl _)
    clear ho0 hg hob
    have HO := Lib.hid ho; have HB := Lib.hid hbel
    clear ho hbel
    go_wp2
    go_ret
    exact ⟨_, rfl, HO.out, HB.out⟩
end Go.Proofs.YtgeimnknmljplaaDoor
/- Regions with two operations ready at once; a field of a struct written. Conditions: those named in each theorem. -/
namespace Go.Gv
open Go Go.RowKit
section
variable {P : Program} {md : Region.Mode} {Q : Exit → Act → World → Prop} {G : World → World → Prop} {T : List Nat}
/-- Two operations are ready. -/
theorem wpG_two {l : List Oper} {fuel : Nat} {listed : Array Bool} {a : Act} {w : World} (t1 t2 : Nat) (o1 o2 : Oper) (ho1 : nthO l t1 = some o1) (ho2 : nthO l t2 = some o2) (hr : (Region.ready md l.toArray listed == [t1, t2]) = true) (hg1 : o1.guard = none) (hg2 : o2.guard = none)
    (h1 : ∀ w', G w w' → ∀ K : Act → World → Prop, (∀ a' w'', (t1 ∉ T → G w' w'') → wpG P md l.toArray Q G T fuel (listed.setIfInBounds t1 true) a' w'' → K a' w'') → o1.wp P a w' K Q)
    (h2 : ∀ w', G w w' → ∀ K : Act → World → Prop, (∀ a' w'', (t2 ∉ T → G w' w'') → wpG P md l.toArray Q G T fuel (listed.setIfInBounds t2 true) a' w'' → K a' w'') → o2.wp P a w' K Q) : wpG P md l.toArray Q G T (fuel + 1) listed a w := by
  have ho1 : l.toArray[t1]? = some o1 := by rw [← ho1, nthO_eq]; simp
  have ho2 : l.toArray[t2]? = some o2 := by rw [← ho2, nthO_eq]; simp
  have hr' : Region.ready md l.toArray listed = [t1, t2] := by simpa using hr
  refine ⟨fun h0 => (by rw [hr'] at h0; cases h0), fun i hi w' hw' => ?_⟩
  rw [hr'] at hi
  simp only [List.mem_cons, List.not_mem_nil, or_false] at hi
  unfold Go.wpOp
  rcases hi with rfl | rfl
  · simp only [ho1]
    rw [if_pos (by simp [Region.wanted, hg1])]
    exact .inl (h1 w' hw' _ fun a' w'' k1 k2 => ⟨k1, k2⟩)
  · simp only [ho2]
    rw [if_pos (by simp [Region.wanted, hg2])]
    exact .inl (h2 w' hw' _ fun a' w'' k1 k2 => ⟨k1, k2⟩)
theorem wpLooksG_on {ops : Array Oper} {ι : Type} {W : ι → World} {K : Act → Prop} {a : Act} {o : Oper} {rest : List Oper} (v : Value) (hw : Region.wanted o (yielded ops a.tmps) = true) (hv : ∀ z, lookUponG P G (W z) v ((execOp a.eval o).run P (W z))) (h : wpLooksG P ops G W K rest (a.put o.dst v)) : wpLooksG P ops G W K (o :: rest) a := by
  unfold wpLooksG
  rw [if_pos hw]
  exact ⟨v, hv, h⟩
theorem wpLooksG_off {ops : Array Oper} {ι : Type} {W : ι → World} {K : Act → Prop} {a : Act} {o : Oper} {rest : List Oper} (hw : Region.wanted o (yielded ops a.tmps) = false) (h : wpLooksG P ops G W K rest (a.put o.dst undef)) : wpLooksG P ops G W K (o :: rest) a := by
  unfold wpLooksG
  rw [if_neg (by rw [hw]; decide)]
  exact h
end
theorem get?_poke {α : Type} [Enc α] {w : World} {g j : Nat} {x y : α} {v : Value} (h : get? α w ⟨g, 0, none⟩ = some x) (hy : Enc.enc y = (Enc.enc x).set j v) : get? α (w.setCell ⟨g, j, none⟩ v) ⟨g, 0, none⟩ = some y := by
  have hadd : ∀ i, (⟨g, 0, none⟩ : Addr).add i = ⟨g, i, none⟩ := fun i => by unfold Addr.add; split <;> simp_all
  rw [get?_iff] at h ⊢
  intro i u hu
  have hlen : (Enc.enc x).length = Enc.n α := Enc.len x
  rw [hadd]
  have hi : i < (Enc.enc x).length := by have := (List.getElem?_eq_some_iff.1 hu).1; rw [Enc.len] at this; omega
  have hx := h i _ (List.getElem?_eq_getElem hi)
  rw [hadd] at hx
  rw [hy] at hu
  by_cases e : j = i
  · subst e
    rw [World.cell?_setCell_same w _ v hx]
    rw [List.getElem?_set_self hi] at hu; exact hu
  · rw [World.cell?_setCell_other w _ _ v (fun h => e (by injection h)), hx]
    rw [List.getElem?_set_ne e, List.getElem?_eq_getElem hi] at hu; exact hu
end Go.Gv
/- What Bid computes. Conditions: those named in each theorem. -/
namespace Go.Proofs.YtgeimnknmljplaaDoor
open Go Go.RowKit Go.Gv

def badBid (client amount : Int) : Bool := (decide (amount < 1) || decide (1099511627776 < amount)) || (decide (client < 0) || decide (100 ≤ client))
def bidR (H : MHouse) (name : ByteArray) (client amount now : Int) : Int :=
  match mget H name with
  | none => 6
  | some x => if x.settled = true ∨ x.close < now then 11 else if badBid client amount = true then 1 else if hasBid x.bids client = true then 5 else 0
def MSale.bid (x : MSale) (client amount : Int) : MSale := { x with bids := x.bids ++ [⟨client, amount⟩] }
def bidH (H : MHouse) (name : ByteArray) (client amount now : Int) : MHouse :=
  match mget H name with
  | none => H
  | some x => if bidR H name client amount now = 0 then mset H name (x.bid client amount) else H
def Bidden (w : World) (p : Addr) (r : Nat) (H : MHouse) (name : ByteArray) (client amount now : Int) (e : Ending) (w' : World) : Prop :=
  e = .returned (.int .i64 (bidR H name client amount now)) ∧ HouseIs w' p r (bidH H name client amount now) ∧ GX r w w'
theorem bidden_no {w w' : World} {p : Addr} {r : Nat} {H : MHouse} {name : ByteArray} {client amount now c : Int} (hH : HouseIs w p r H) (hb : Bel w w') (hc : bidR H name client amount now = c) (h0 : c ≠ 0) :
    Bidden w p r H name client amount now (.returned (.int .i64 c)) w' := by
  subst hc
  refine ⟨rfl, ?_, GX.of_bel hb r⟩
  unfold bidH
  split
  · exact hH.step hb
  · rw [if_neg h0]; exact hH.step hb
theorem _root_.Go.Gv.Sl.setCell_ {α : Type} [Enc α] {w : World} {B : Nat} {A : Option Addr} {n : Nat} {xs : List α} (h : Sl α w B A n xs) (p : Addr) (u : Value) (hne : 0 < n → ∀ ad, A = some ad → ad.block ≠ p.block) : Sl α (w.setCell p u) B A n xs := by
  refine ⟨h.1, fun hn => ?_⟩
  obtain ⟨ad, e, hb, hc⟩ := h.2 hn
  exact ⟨ad, e, hb, fun k x hx => (get?_setCell p u (by rw [add_block]; exact hne hn ad e)).trans (hc k x hx)⟩
theorem sale_bids (x : MSale) (h h' : Hdr) : Enc.enc (x.at h') = (Enc.enc (x.at h)).set 4 (.slice h'.a h'.len h'.cap) := rfl

set_option maxRecDepth 100000 in
set_option maxHeartbeats 2000000 in
theorem bid_any (p : Addr) (r : Nat) (H : MHouse) (name : ByteArray) (client amount now : Int) (w : World) (hH : HouseIs w p r H) (hp : p.block ≠ r) (hbig : ∀ x, mget H name = some x → x.bids.length ≤ 1000000) :
    Calls Tryd.prog 18 #[.pointer (some p), .string name, .int .i64 client, .int .i64 amount, .int .u64 now] w (Bidden w p r H name client amount now) := by
  obtain ⟨hc, m, hm, hr⟩ := hH
  have HH := Lib.hid (show HouseIs w p r H from ⟨hc, m, hm, hr⟩)
  have hrl := mapAt_lt hm
  have hrl2 : r < w.heap.size + 1 := by omega
  have HR := Lib.hid hr; clear hr
  have hcA : ∀ o, (w.alloc o).cell? p = some (.map (some r)) := fun o => GB.cell (GB.al w o) hc
  have hcB : ∀ o o', ((w.alloc o).alloc o').cell? p = some (.map (some r)) := fun o o' => GB.cell (GB.al _ o') (hcA o)
  have HBA := Lib.hid fun (o : Obj) => ((Bel.refl w).alloc (.cells #[.int .i64 client] 3)).alloc o
  rcases HR.out.get name with ⟨hm0, hH0⟩ | ⟨s, x, hms, hHx, hsx⟩
  · have HO := Lib.hid (show bidR H name client amount now = 6 by unfold bidR; rw [hH0])
    clear hH0
    go_enter Tryd.func18, Tryd.ntmps18
    go_wp2_with fail
    go_ret
    exact bidden_no HH.out (HBA.out _) HO.out (by decide)
  · obtain ⟨hd, rfl, hsl, hdc, hdm⟩ := hsx
    have hb2 := hbig x hHx
    rw [hsl.1] at hb2
    have HSL := Lib.hid hsl; have HHX := Lib.hid hHx; clear hsl hHx hbig
    unfold maxLen at hdm
    by_cases h11 : x.settled = true ∨ x.close < now
    · have HO := Lib.hid (show bidR H name client amount now = 11 by unfold bidR; rw [HHX.out]; simp only; rw [if_pos h11])
      by_cases hst : x.settled = true
      · have hst2 : (x.at hd).settled = true := hst
        clear h11 hst
        go_enter Tryd.func18, Tryd.ntmps18
        go_wp2_with fail
        go_ret
        exact bidden_no HH.out (HBA.out _) HO.out (by decide)
      · have hcl : (x.at hd).close < now := by rcases h11 with h | h; exact absurd h hst; exact h
        have hst2 : (x.at hd).settled = false := Bool.eq_false_iff.2 hst
        clear h11 hst
        go_enter Tryd.func18, Tryd.ntmps18
        go_wp2_with fail
        go_ret
        exact bidden_no HH.out (HBA.out _) HO.out (by decide)
    · have hst2 : (x.at hd).settled = false := Bool.eq_false_iff.2 fun h => h11 (.inl h)
      have hcl : ¬ (x.at hd).close < now := fun h => h11 (.inr h)
      have H11 := Lib.hid h11; clear h11
      by_cases hbad : badBid client amount = true
      · have HO := Lib.hid (show bidR H name client amount now = 1 by unfold bidR; rw [HHX.out]; simp only; rw [if_neg H11.out, if_pos hbad])
        unfold badBid at hbad
        simp only [Bool.or_eq_true, decide_eq_true_eq] at hbad
        by_cases h1 : amount < 1
        · clear hbad
          go_enter Tryd.func18, Tryd.ntmps18
          go_wp2_with fail
          go_ret
          exact bidden_no HH.out (HBA.out _) HO.out (by decide)
        · by_cases h2 : 1099511627776 < amount
          · clear hbad
            go_enter Tryd.func18, Tryd.ntmps18
            go_wp2_with fail
            go_ret
            exact bidden_no HH.out (HBA.out _) HO.out (by decide)
          · by_cases h3 : client < 0
            · clear hbad
              go_enter Tryd.func18, Tryd.ntmps18
              go_wp2_with fail
              go_ret
              exact bidden_no HH.out (HBA.out _) HO.out (by decide)
            · have h4 : 100 ≤ client := by omega
              clear hbad
              go_enter Tryd.func18, Tryd.ntmps18
              go_wp2_with fail
              go_ret
              exact bidden_no HH.out (HBA.out _) HO.out (by decide)
      · have hnb : ¬ amount < 1 ∧ ¬ 1099511627776 < amount ∧ ¬ client < 0 ∧ ¬ 100 ≤ client := by
          have : badBid client amount = false := by simpa using hbad
          unfold badBid at this
          simp only [Bool.or_eq_false_iff, decide_eq_false_iff_not] at this
          exact ⟨this.1.1, this.1.2, this.2.1, this.2.2⟩
        obtain ⟨h1, h2, h3, h4⟩ := hnb
        have HBD := Lib.hid hbad; clear hbad
        have hcl1 : ∀ o, ((w.alloc (.cells #[.int .i64 client] 3)).alloc o).cell? ⟨w.heap.size, 0, none⟩ = some (.int .i64 client) := fun o => GB.cell (GB.al _ o) (by simp)
        obtain ⟨hb, hhb⟩ : ∃ hb, hasBid x.bids client = hb := ⟨_, rfl⟩
        have HHB := Lib.hid hhb; clear hhb
        cases hb
        · have HO := Lib.hid (show bidR H name client amount now = 0 by unfold bidR; rw [HHX.out]; simp only; rw [if_neg H11.out, if_neg HBD.out, if_neg (by rw [HHB.out]; decide)])
          go_enter Tryd.func18, Tryd.ntmps18
          go_wp2_with fail
          refine (hasBid_any false hd.a hd.len hd.cap w.heap.size x.bids client _ HHB.out (HSL.out.stepB (HBA.out _)) (by unfold maxLen; omega) (hcl1 _)).mono ?_
          rintro _ w1 ⟨rfl, hb1⟩
          have hB1 := (HBA.out (.cells (GAuctionSale.enc (x.at hd)).toArray 70)).trans hb1
          have hbox0 := nw70 (w.alloc (.cells #[.int .i64 client] 3)) (w.heap.size + 1) (x.at hd) (by simp)
          have hbox := GB.get hb1 hbox0
          have hfree : blkFree w1 (w.heap.size + 1) = true := (blkFree_keep (hb1.block _ (by simp))).trans (blkFree_new _ _ (by simp))
          have hcl2 := GB.cell hb1 (hcl1 _)
          have hsz1 : w.heap.size + 1 < w1.heap.size := by have := hb1.size; simp at this; omega
          have HB1 := Lib.hid hB1
          have HSL1 := Lib.hid (HSL.out.stepB hB1)
          have hfc : w1.cell? ⟨w.heap.size + 1, 4, none⟩ = some (.slice hd.a hd.len hd.cap) := by
            have h := GAuctionSale.at_bids hbox
            exact cell_off (a := ⟨w.heap.size + 1, 0, none⟩) (by omega) h
          clear hb1 hB1 hbox0 hcl1
          go_upto_region 10 with fail
          go_cut [60] (fun _ wx => ∃ hd' : Hdr, get? GAuctionSale wx ⟨w.heap.size + 1, 0, none⟩ = some (x.at hd') ∧ Sl GAuctionBid wx wx.heap.size hd'.a hd'.len (x.bids ++ [⟨client, amount⟩]) ∧ hd'.len ≤ hd'.cap ∧ hd'.cap ≤ maxLen ∧ Bel w wx)
          case first =>
            go_wp2
            refine wp_region_G GB [7, 9] GB.rf (by kernel_rfl) ?_
            refine wpG_looks 5 10 [0,1,3,4,5] rfl GB.rf GB.tr (by kernel_rfl) (fun _ _ _ _ hd h => And.intro (hd ▸ And.left h) (And.right h)) rfl (by kernel_rfl) ?_
            intro ι W hne CW
            have g0 : ∀ z, (W z).cell? ⟨w.heap.size + 1, 4, none⟩ = some (.slice hd.a hd.len hd.cap) := fun z => (CW.out z).cell hfc
            have g1 : ∀ z, (W z).cell? ⟨w.heap.size, 0, none⟩ = some (.int .i64 client) := fun z => (CW.out z).cell hcl2
            repeat (refine wpLooksG_step (fun K hK => ?_); go_simp; refine hK _ ?_; clear hK K)
            refine wpLooksG_nil ?_
            clear g0 g1 CW hne W ι
            have hlenb : x.bids.length ≤ 1000000 := by rw [HSL1.out.1]; exact hb2
            refine wpG_two 2 6 _ _ rfl rfl (by kernel_rfl) rfl rfl ?_ ?_
            · intro wa hwa K hK
              go_simp
              refine (cloneBid_any hd.a hd.len hd.cap x.bids wa (HSL1.out.stepB hwa.undrew) (by omega)).mono ?_
              rintro _ wb ⟨v, rfl, ho0, hb0⟩
              refine hK _ _ (fun _ => hb0) ?_
              clear hK K
              refine wpG_force 6 _ rfl (by kernel_rfl) rfl fun wc hwc K hK => ?_
              go_simp
              refine hK _ _ (fun _ => GB.al _ _) ?_
              clear hK K
              have hBC : Bel w1 (wc.alloc (.cells (GAuctionBid.enc ⟨client, amount⟩).toArray 82)) := ((hwa.undrew.trans hb0).trans hwc).alloc _
              have ho := (ho0.step hwc).step (GB.al wc (.cells (GAuctionBid.enc ⟨client, amount⟩).toArray 82))
              have hs : Sl GAuctionBid (wc.alloc (.cells (GAuctionBid.enc ⟨client, amount⟩).toArray 82)) (wc.alloc (.cells (GAuctionBid.enc ⟨client, amount⟩).toArray 82)).heap.size (some ⟨wc.heap.size, 0, none⟩) 1 [⟨client, amount⟩] := Sl.new_ (by rw [List.flatMap_cons, List.flatMap_nil, List.append_nil]; rfl) rfl rfl (by simp)
              have hbase : w1.heap.size ≤ wa.heap.size := hwa.undrew.size
              have hbs0 : wa.heap.size ≤ (wc.alloc (.cells (GAuctionBid.enc ⟨client, amount⟩).toArray 82)).heap.size := by have := Below.size hb0; have := Below.size hwc; simp; omega
              refine wpG_force 7 _ rfl (by kernel_rfl) rfl fun wd hwd K hK => ?_
              have hBD := hBC.trans hwd
              have hod := ho.step hwd
              have hsd := hs.stepB hwd
              have hbd := GB.get hBD hbox
              have hlo : x.bids.length ≤ 1000000 := hlenb
              go_simp
              generalize hrun : Sem.run _ (gAppend _ _ _) _ = rr
              obtain ⟨v', we, rfl, ho', hg', hob'⟩ := append_spec hrun ei66 hod hsd (by unfold maxLen; omega) (by omega) (Nat.le_trans hbs0 (Below.size hwd))
              clear hrun
              go_simp
              refine hK _ _ (fun h => absurd (by simp) h) ?_
              clear hK K
              have hlow : ∀ k, v.ownBlock = some k → w1.heap.size ≤ k := fun k hk => Nat.le_trans hbase (hod.lt k hk).1
              have hBE : Bel w1 we := hBD.appS hg' hod hbase
              refine wpG_force 8 _ rfl (by kernel_rfl) rfl fun wf hwf K hK => ?_
              go_simp
              refine hK _ _ (fun _ => GB.rf _) ?_
              clear hK K
              refine wpG_force 9 _ rfl (by kernel_rfl) rfl fun wg hwg K hK => ?_
              have hBG := (hBE.trans hwf).trans hwg
              have hog := (ho'.step hwf).step hwg
              have hbg := GB.get hBG hbox
              have hfg : blkFree wg (w.heap.size + 1) = true := (blkFree_keep (Below.block hBG _ hsz1)).trans hfree
              have hcg := GB.cell hBG hfc
              have hfr := frozen_of_free (a := ⟨w.heap.size + 1, 4, none⟩) hfg
              obtain ⟨A5, c5, rfl, hoa, hc5, hm5⟩ := OwnS.ownA hog
              obtain ⟨q, hq⟩ : ∃ q, (x.bids ++ [(⟨client, amount⟩ : GAuctionBid)]).length = q := ⟨_, rfl⟩
              have hsg := hoa.sl
              have hA5 : ∀ ad, A5 = some ad → w1.heap.size ≤ ad.block := by
                obtain ⟨A', c', hv, _, _, _, hf⟩ := OwnS.shape hog
                injection hv with e1 _ _; subst e1
                exact fun ad ha => Nat.le_trans hbase (hf ad ha).1
              have hbel2 : Bel w (wg.setCell ⟨w.heap.size + 1, 4, none⟩ (.slice A5 q c5)) := (HB1.out.trans hBG).setCell (by simp) _
              rw [hq] at hsg
              simp only [hq] at hc5 ⊢
              have hbox2 : get? GAuctionSale (wg.setCell ⟨w.heap.size + 1, 4, none⟩ (.slice A5 q c5)) ⟨w.heap.size + 1, 0, none⟩ = some (x.at ⟨A5, q, c5⟩) := get?_poke hbg (sale_bids x hd ⟨A5, q, c5⟩)
              have hsl2 : Sl GAuctionBid (wg.setCell ⟨w.heap.size + 1, 4, none⟩ (.slice A5 q c5)) (wg.setCell ⟨w.heap.size + 1, 4, none⟩ (.slice A5 q c5)).heap.size A5 q (x.bids ++ [⟨client, amount⟩]) := by
                have := hsg.setCell_ ⟨w.heap.size + 1, 4, none⟩ (.slice A5 q c5) (fun _ ad ha => by have := hA5 ad ha; simp only; omega)
                simpa using this
              have HX := Lib.hid hbox2; have HY := Lib.hid hsl2; have HZ := Lib.hid hbel2
              clear hbox2 hsl2 hbel2 hsg hoa hog hA5 hbg hfg hBE hlow ho' hg' hob' hod hsd hbd hBD ho hs hBC hlo hlenb hwd hwf hwg hBG
              go_simp
              refine hK _ _ (fun h => absurd (by simp) h) ?_
              clear hK K
              refine wpG_end (by kernel_rfl) (fun wn hwn => ?_) _
              have HR9 := Lib.hid (show ∃ hd' : Hdr, get? GAuctionSale wn ⟨w.heap.size + 1, 0, none⟩ = some (x.at hd') ∧ Sl GAuctionBid wn wn.heap.size hd'.a hd'.len (x.bids ++ [⟨client, amount⟩]) ∧ hd'.len ≤ hd'.cap ∧ hd'.cap ≤ maxLen ∧ Bel w wn from ⟨⟨A5, q, c5⟩, GB.get hwn HX.out, HY.out.stepB hwn, hc5, hm5, HZ.out.trans hwn⟩)
              clear HX HY HZ hwn hcg hfr
              go_wp2
              go_meet
              exact HR9.out
            · intro wa hwa K hK
              go_simp
              refine hK _ _ (fun _ => GB.al _ _) ?_
              clear hK K
              have hs0 : Sl GAuctionBid (wa.alloc (.cells (GAuctionBid.enc ⟨client, amount⟩).toArray 82)) (wa.alloc (.cells (GAuctionBid.enc ⟨client, amount⟩).toArray 82)).heap.size (some ⟨wa.heap.size, 0, none⟩) 1 [⟨client, amount⟩] := Sl.new_ (by rw [List.flatMap_cons, List.flatMap_nil, List.append_nil]; rfl) rfl rfl (by simp)
              refine wpG_force 2 _ rfl (by kernel_rfl) rfl fun wc hwc K hK => ?_
              go_simp
              have hBA : Bel w1 wc := (hwa.undrew.alloc _).trans hwc
              refine (cloneBid_any hd.a hd.len hd.cap x.bids wc (HSL1.out.stepB hBA) (by omega)).mono ?_
              rintro _ wb ⟨v, rfl, ho, hb0⟩
              refine hK _ _ (fun _ => hb0) ?_
              clear hK K
              have hBC : Bel w1 wb := hBA.trans hb0
              have hs := (hs0.stepB hwc).stepB hb0
              have hbase : w1.heap.size ≤ wc.heap.size := hBA.size
              have hbs0 : wc.heap.size ≤ wb.heap.size := Below.size hb0
              clear hs0 hBA hb0 hwc hwa
              refine wpG_force 7 _ rfl (by kernel_rfl) rfl fun wd hwd K hK => ?_
              have hBD := hBC.trans hwd
              have hod := ho.step hwd
              have hsd := hs.stepB hwd
              have hbd := GB.get hBD hbox
              have hlo : x.bids.length ≤ 1000000 := hlenb
              go_simp
              generalize hrun : Sem.run _ (gAppend _ _ _) _ = rr
              obtain ⟨v', we, rfl, ho', hg', hob'⟩ := append_spec hrun ei66 hod hsd (by unfold maxLen; omega) (by omega) (Nat.le_trans hbs0 (Below.size hwd))
              clear hrun
              go_simp
              refine hK _ _ (fun h => absurd (by simp) h) ?_
              clear hK K
              have hlow : ∀ k, v.ownBlock = some k → w1.heap.size ≤ k := fun k hk => Nat.le_trans hbase (hod.lt k hk).1
              have hBE : Bel w1 we := hBD.appS hg' hod hbase
              refine wpG_force 8 _ rfl (by kernel_rfl) rfl fun wf hwf K hK => ?_
              go_simp
              refine hK _ _ (fun _ => GB.rf _) ?_
              clear hK K
              refine wpG_force 9 _ rfl (by kernel_rfl) rfl fun wg hwg K hK => ?_
              have hBG := (hBE.trans hwf).trans hwg
              have hog := (ho'.step hwf).step hwg
              have hbg := GB.get hBG hbox
              have hfg : blkFree wg (w.heap.size + 1) = true := (blkFree_keep (Below.block hBG _ hsz1)).trans hfree
              have hcg := GB.cell hBG hfc
              have hfr := frozen_of_free (a := ⟨w.heap.size + 1, 4, none⟩) hfg
              obtain ⟨A5, c5, rfl, hoa, hc5, hm5⟩ := OwnS.ownA hog
              obtain ⟨q, hq⟩ : ∃ q, (x.bids ++ [(⟨client, amount⟩ : GAuctionBid)]).length = q := ⟨_, rfl⟩
              have hsg := hoa.sl
              have hA5 : ∀ ad, A5 = some ad → w1.heap.size ≤ ad.block := by
                obtain ⟨A', c', hv, _, _, _, hf⟩ := OwnS.shape hog
                injection hv with e1 _ _; subst e1
                exact fun ad ha => Nat.le_trans hbase (hf ad ha).1
              have hbel2 : Bel w (wg.setCell ⟨w.heap.size + 1, 4, none⟩ (.slice A5 q c5)) := (HB1.out.trans hBG).setCell (by simp) _
              rw [hq] at hsg
              simp only [hq] at hc5 ⊢
              have hbox2 : get? GAuctionSale (wg.setCell ⟨w.heap.size + 1, 4, none⟩ (.slice A5 q c5)) ⟨w.heap.size + 1, 0, none⟩ = some (x.at ⟨A5, q, c5⟩) := get?_poke hbg (sale_bids x hd ⟨A5, q, c5⟩)
              have hsl2 : Sl GAuctionBid (wg.setCell ⟨w.heap.size + 1, 4, none⟩ (.slice A5 q c5)) (wg.setCell ⟨w.heap.size + 1, 4, none⟩ (.slice A5 q c5)).heap.size A5 q (x.bids ++ [⟨client, amount⟩]) := by
                have := hsg.setCell_ ⟨w.heap.size + 1, 4, none⟩ (.slice A5 q c5) (fun _ ad ha => by have := hA5 ad ha; simp only; omega)
                simpa using this
              have HX := Lib.hid hbox2; have HY := Lib.hid hsl2; have HZ := Lib.hid hbel2
              clear hbox2 hsl2 hbel2 hsg hoa hog hA5 hbg hfg hBE hlow ho' hg' hob' hod hsd hbd hBD ho hs hBC hlo hlenb hwd hwf hwg hBG
              go_simp
              refine hK _ _ (fun h => absurd (by simp) h) ?_
              clear hK K
              refine wpG_end (by kernel_rfl) (fun wn hwn => ?_) _
              have HR9 := Lib.hid (show ∃ hd' : Hdr, get? GAuctionSale wn ⟨w.heap.size + 1, 0, none⟩ = some (x.at hd') ∧ Sl GAuctionBid wn wn.heap.size hd'.a hd'.len (x.bids ++ [⟨client, amount⟩]) ∧ hd'.len ≤ hd'.cap ∧ hd'.cap ≤ maxLen ∧ Bel w wn from ⟨⟨A5, q, c5⟩, GB.get hwn HX.out, HY.out.stepB hwn, hc5, hm5, HZ.out.trans hwn⟩)
              clear HX HY HZ hwn hcg hfr
              go_wp2
              go_meet
              exact HR9.out
          case rest =>
            obtain ⟨hd', hbx, hsx, hdc', hdm', hbx2⟩ := hcut
            obtain ⟨w5, rfl⟩ : ∃ w5 : World, w5 = wc := ⟨_, rfl⟩
            have HB5 := Lib.hid hbx2; have HSX := Lib.hid hsx
            clear hsx hbx2
            go_wp2
            refine wp_region_G GB [6] GB.rf (by kernel_rfl) ?_
            refine wpG_looks 1 7 [0,1,2,3,4,5] rfl GB.rf GB.tr (by kernel_rfl) (fun _ _ _ _ hd h => And.intro (hd ▸ And.left h) (And.right h)) rfl (by kernel_rfl) ?_
            intro ι W hne CW
            have hc5 := GB.cell HB5.out hc
            have g0 : ∀ z, (W z).cell? p = some (.map (some r)) := fun z => (CW.out z).cell hc5
            have g1 : ∀ z, get? GAuctionSale (W z) ⟨w.heap.size + 1, 0, none⟩ = some (x.at hd') := fun z => (CW.out z).get hbx
            repeat (refine wpLooksG_step (fun K hK => ?_); go_simp; refine hK _ ?_; clear hK K)
            refine wpLooksG_nil ?_
            clear g0 g1 CW hne W ι
            refine wpG_force 6 _ rfl (by kernel_rfl) rfl fun wa hwa K hK => ?_
            have hb := HB5.out.trans hwa.undrew
            have hcp := GB.cell hb hc
            have hmp := (mapAt_below hb hrl).trans hm
            have HP := Lib.hid (houseIs_put (p := p) (k := name) (v := x.at hd') (x := x.bid client amount) hcp hp hmp (HR.out.step hb) ⟨hd', rfl, HSX.out.stepB hwa.undrew, hdc', hdm'⟩)
            have HBB := Lib.hid hb
            clear hb hwa
            go_simp
            refine hK _ _ (fun h => absurd (by simp) h) ?_
            clear hK K
            refine wpG_end (by kernel_rfl) (fun wn hwn => ?_) _
            have HG := Lib.hid (GX.tr _ _ _ (GX.tr _ _ _ (GX.of_bel HBB.out r) HP.out.2) (GX.of_bel hwn r))
            have HP2 := Lib.hid (HP.out.1.step hwn)
            clear HP hwn
            go_wp2
            go_ret
            refine ⟨by rw [HO.out]; rfl, ?_, HG.out⟩
            unfold bidH
            rw [HHX.out]
            simp only
            rw [if_pos HO.out]
            exact HP2.out
        · have HO := Lib.hid (show bidR H name client amount now = 5 by unfold bidR; rw [HHX.out]; simp only; rw [if_neg H11.out, if_neg HBD.out, if_pos HHB.out])
          go_enter Tryd.func18, Tryd.ntmps18
          go_wp2_with fail
          refine (hasBid_any true hd.a hd.len hd.cap w.heap.size x.bids client _ HHB.out (HSL.out.stepB (HBA.out _)) (by unfold maxLen; omega) (hcl1 _)).mono ?_
          rintro _ w1 ⟨rfl, hb1⟩
          have HB1 := Lib.hid ((HBA.out _).trans hb1)
          clear hb1
          go_wp2_with fail
          go_ret
          exact bidden_no HH.out HB1.out HO.out (by decide)
end Go.Proofs.YtgeimnknmljplaaDoor
/- Results that lie in memory. Conditions: those named in each theorem. -/
namespace Go.Proofs.YtgeimnknmljplaaDoor
open Go Go.RowKit Go.Gv
theorem results_cell_tmp {P : Program} {fn : Func} {α : Type} [Enc α] {a u : Tmp} {t : TypeId} {tmps : Array Value} {w : World} {ad : Addr} {x : α} (hres : fn.results = #[.cell a t, .tmp u]) (ha : tmps.getD a undef = .pointer (some ad)) (h1 : aggT P t = true) (h2 : sizeT P t = Enc.n α) (hg : get? α w ad = some x) :
    (results fn tmps).run P w = .ok (.tuple #[.agg (Enc.enc x).toArray, tmps.getD u undef]) w := by
  have hl := run_loadVar_get (P := P) h1 h2 hg
  simp only [Array.getD_eq_getD_getElem?] at ha
  simp [results, hres, ha, asAddr, hl]
theorem results_cell {P : Program} {fn : Func} {α : Type} [Enc α] {a : Tmp} {t : TypeId} {tmps : Array Value} {w : World} {ad : Addr} {x : α} (hres : fn.results = #[.cell a t]) (ha : tmps.getD a undef = .pointer (some ad)) (h1 : aggT P t = true) (h2 : sizeT P t = Enc.n α) (hg : get? α w ad = some x) :
    (results fn tmps).run P w = .ok (.agg (Enc.enc x).toArray) w := by
  have hl := run_loadVar_get (P := P) h1 h2 hg
  simp only [Array.getD_eq_getD_getElem?] at ha
  simp [results, hres, ha, asAddr, hl]
end Go.Proofs.YtgeimnknmljplaaDoor
/- What Bids and Result compute. Conditions: those named in each theorem. -/
namespace Go.Proofs.YtgeimnknmljplaaDoor
open Go Go.RowKit Go.Gv

def bidsN (H : MHouse) (name : ByteArray) : Int := match mget H name with
  | none => 0
  | some x => x.bids.length
@[go_sem ↓ high] theorem build_result_none (w : World) : (gBuild 68 #[]).run Tryd.prog w = .ok (GAuctionResult.val default) w := by
  rw [GAuctionResult.val_eq]
  exact run_gBuild_of uu68 zr68 pl68 rfl w
def resultR (H : MHouse) (name : ByteArray) : GAuctionResult × Int := match mget H name with
  | none => (default, 6)
  | some x => if x.settled = true then (x.result, 0) else (default, 12)
set_option maxHeartbeats 400000 in
theorem result_any (p : Addr) (r : Nat) (H : MHouse) (name : ByteArray) (w : World) (hH : HouseIs w p r H) :
    Calls Tryd.prog 36 #[.pointer (some p), .string name] w fun e w' => e = .returned (.tuple #[(resultR H name).1.val, .int .i64 (resultR H name).2]) ∧ Bel w w' := by
  obtain ⟨hc, m, hm, hr⟩ := hH
  have hrl := mapAt_lt hm
  have hrl2 : r < w.heap.size + 1 := by omega
  have hcA : ∀ o, (w.alloc o).cell? p = some (.map (some r)) := fun o => GB.cell (GB.al w o) hc
  rcases hr.get name with ⟨hm0, hH0⟩ | ⟨s, x, hms, hHx, hsx⟩
  · have HO := Lib.hid (show resultR H name = (default, 6) by unfold resultR; rw [hH0])
    clear hH0 hr
    go_enter Tryd.func36, Tryd.ntmps36
    go_wp2
    refine bodyPost_ret (results_cell_tmp (x := (default : GAuctionResult)) rfl rfl ag68 sz68 (get?_alloc _ (nw68 w w.heap.size default rfl))) rfl ⟨?_, ((Bel.refl w).alloc _).alloc _⟩
    rw [HO.out]; simp only [GAuctionResult.val_eq]; rfl
  · obtain ⟨hd, rfl, hsl, hdc, hdm⟩ := hsx
    by_cases hst : x.settled = true
    · have HO := Lib.hid (show resultR H name = (x.result, 0) by unfold resultR; rw [hHx]; simp only; rw [if_pos hst])
      have hst2 : (x.at hd).settled = true := hst
      clear hHx hsl hr hst
      go_enter Tryd.func36, Tryd.ntmps36
      go_wp2
      refine bodyPost_ret (results_cell_tmp (x := x.result) rfl rfl ag68 sz68 (get?_alloc _ (nw68 w w.heap.size x.result rfl))) rfl ⟨?_, ((Bel.refl w).alloc _).alloc _⟩
      rw [HO.out]; simp only [GAuctionResult.val_eq]; rfl
    · have HO := Lib.hid (show resultR H name = (default, 12) by unfold resultR; rw [hHx]; simp only; rw [if_neg hst])
      have hst2 : (x.at hd).settled = false := Bool.eq_false_iff.2 hst
      clear hHx hsl hr hst
      go_enter Tryd.func36, Tryd.ntmps36
      go_wp2
      refine bodyPost_ret (results_cell_tmp (x := (default : GAuctionResult)) rfl rfl ag68 sz68 (get?_alloc _ (nw68 w w.heap.size default rfl))) rfl ⟨?_, ((Bel.refl w).alloc _).alloc _⟩
      rw [HO.out]; simp only [GAuctionResult.val_eq]; rfl
end Go.Proofs.YtgeimnknmljplaaDoor
/- What the comparisons compute. Conditions: those named in each theorem. -/
namespace Go.Proofs.YtgeimnknmljplaaDoor
open Go Go.RowKit Go.Gv

theorem compareU_any (a b : Int) (w : World) :
    Calls Tryd.prog 27 #[.int .u64 a, .int .u64 b] w fun e w' => e = .returned (.int .i64 (cmpI a b)) ∧ w = w' := by
  by_cases h1 : a < b
  · go_enter Tryd.func27, Tryd.ntmps27
    go_wp2
    go_ret
    exact ⟨ret_int (by unfold cmpI; rw [if_pos h1]), rfl⟩
  · by_cases h2 : b < a
    · go_enter Tryd.func27, Tryd.ntmps27
      go_wp2
      go_ret
      exact ⟨ret_int (by unfold cmpI; rw [if_neg (by omega), if_pos h2]), rfl⟩
    · go_enter Tryd.func27, Tryd.ntmps27
      go_wp2
      go_ret
      exact ⟨ret_int (by unfold cmpI; rw [if_neg (by omega), if_neg (by omega)]), rfl⟩
def cmpS (a b : ByteArray) : Int := if Op.bytesLess a.toList b.toList = true then -1 else if (a.toList == b.toList) = true then 0 else 1
theorem compareS_any (a b : ByteArray) (w : World) :
    Calls Tryd.prog 28 #[.string a, .string b] w fun e w' => e = .returned (.int .i64 (cmpS a b)) ∧ w = w' := by
  go_enter Tryd.func28, Tryd.ntmps28
  cases h1 : Op.bytesLess a.toList b.toList
  · cases h2 : (a.toList == b.toList)
    · go_wp2
      go_ret
      exact ⟨ret_int (by unfold cmpS; rw [h1, h2]; rfl), rfl⟩
    · go_wp2
      go_ret
      exact ⟨ret_int (by unfold cmpS; rw [h1, h2]; rfl), rfl⟩
  · go_wp2
    go_ret
    exact ⟨ret_int (by unfold cmpS; rw [h1]; rfl), rfl⟩
theorem endFn_any (x y : GAuctionBid) (w : World) :
    Calls Tryd.prog 44 #[x.val, y.val] w fun e w' => e = .returned (.int .i64 (cmpI y.amount x.amount)) ∧ w' = (w.alloc (.cells x.enc.toArray 82)).alloc (.cells y.enc.toArray 82) := by
  go_enter Tryd.func44, Tryd.ntmps44
  go_wp2_with fail
  refine (compare_any _ _ _).mono ?_
  rintro _ w1 ⟨rfl, rfl⟩
  go_wp2_with fail
  go_ret
  exact ⟨ret_int rfl, rfl⟩
end Go.Proofs.YtgeimnknmljplaaDoor
/- What Settle's comparison computes. Conditions: those named in each theorem. -/
namespace Go.Proofs.YtgeimnknmljplaaDoor
open Go Go.RowKit Go.Gv Go.Sort

def saleCmp (x y : GAuctionSale) : Int := orI [cmpI x.close y.close, cmpS x.name y.name]
/-- Nothing but draws and new blocks. -/
def GrewD (w w' : World) : Prop := ∃ q os, w' = grow (w.drewN q) os
theorem GrewD.refl (w : World) : GrewD w w := ⟨0, #[], by rw [grow_empty]; rfl⟩
theorem GrewD.alloc {w w' : World} (h : GrewD w w') (o : Obj) : GrewD w (w'.alloc o) := by
  obtain ⟨q, os, rfl⟩ := h
  exact ⟨q, os ++ #[o], by rw [alloc_eq_grow, grow_grow]⟩
theorem GrewD.drew {w w' : World} (h : GrewD w w') : GrewD w w'.drew := by
  obtain ⟨q, os, rfl⟩ := h
  exact ⟨q + 1, os, by unfold grow World.drew World.drewN; simp [Nat.add_assoc]⟩
set_option maxRecDepth 100000 in
set_option maxHeartbeats 1000000 in
theorem settleFn_any (x y : GAuctionSale) (w : World) :
    Calls Tryd.prog 25 #[x.val, y.val] w fun e w' => e = .returned (.int .i64 (saleCmp x y)) ∧ GrewD w w' := by
  go_enter Tryd.func25, Tryd.ntmps25
  go_wp2_with fail
  refine wp_region_tail 10 (by kernel_rfl) (by kernel_rfl) ?_
  simp only [List.take_succ_cons, List.take_zero, List.drop_succ_cons, List.drop_zero]
  repeat still_step
  still_call (flipC (compareU_any _ _ _))
  repeat still_step
  still_call (flipC (compareS_any _ _ _))
  refine wpStill_nil ?_
  go_wp2_with fail
  refine (or_any _ _ _ [⟨cmpI x.close y.close⟩, ⟨cmpS x.name y.name⟩] _ (w.heap.size + 1 + 1 + 1) ?_ (by decide)).mono ?_
  · exact Sl.drew_ (Sl.new_ rfl rfl (by simp only [World.size_alloc]) (by omega))
  · rintro e w' ⟨rfl, rfl⟩
    go_wp2
    go_ret
    exact ⟨ret_int rfl, ((((GrewD.refl _).alloc _).alloc _).alloc _).drew⟩
end Go.Proofs.YtgeimnknmljplaaDoor
