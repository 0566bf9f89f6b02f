/- What Open computes. Conditions: those named in each theorem. -/
import Derived.Test.YteockodnfempfaaAuB
namespace Go.Proofs.Yteockodnfempfaa
open Go Go.RowKit Go.Gv

def badOpen (name : ByteArray) (reserve : Int) : Bool := !nameB name || (decide (reserve < 0) || decide (1099511627776 < reserve))
def openR (H : MHouse) (name : ByteArray) (reserve close now : Int) : Int :=
  if badOpen name reserve = true then 1 else if (mget H name).isSome = true then 5 else if close ≤ now then 4 else if 64 ≤ H.length then 7 else 0
def newSale (name : ByteArray) (v : Bool) (reserve close : Int) : MSale := ⟨name, v, reserve, close, [], false, default⟩
def openH (H : MHouse) (name : ByteArray) (v : Bool) (reserve close now : Int) : MHouse := if openR H name reserve close now = 0 then mset H name (newSale name v reserve close) else H

def Opened (w : World) (p : Addr) (r : Nat) (H : MHouse) (name : ByteArray) (v : Bool) (reserve close now : Int) (e : Ending) (w' : World) : Prop :=
  e = .returned (.int .i64 (openR H name reserve close now)) ∧ HouseIs w' p r (openH H name v reserve close now) ∧ GX r w w'
theorem opened_no {w w' : World} {p : Addr} {r : Nat} {H : MHouse} {name : ByteArray} {v : Bool} {reserve close now c : Int} (hH : HouseIs w p r H) (hb : Bel w w') (hc : openR H name reserve close now = c) (h0 : c ≠ 0) :
    Opened w p r H name v reserve close now (.returned (.int .i64 c)) w' := by
  subst hc
  refine ⟨rfl, ?_, GX.of_bel hb r⟩
  unfold openH
  rw [if_neg h0]
  exact hH.step hb
theorem houseIs_put {w : World} {p : Addr} {r : Nat} {H : MHouse} {m : List (ByteArray × GAuctionSale)} (hc : w.cell? p = some (.map (some r))) (hp : p.block ≠ r) (hm : mapAt ByteArray GAuctionSale w r = some m) (hr : HRel w m H) {k : ByteArray} {v : GAuctionSale} {x : MSale} (hs : SaleIs w v x) :
    HouseIs (mput Try.prog 141 w r k v) p r (mset H k x) ∧ GX r w (mput Try.prog 141 w r k v) := by
  have hg : GX r w (mput Try.prog 141 w r k v) := mput_grown kl9 um141 hm k v
  exact ⟨⟨GX.cell hg hc hp, HouseAt.put hm hr hs⟩, hg⟩
set_option maxRecDepth 100000 in
set_option maxHeartbeats 1000000 in
theorem open_any (p : Addr) (r : Nat) (H : MHouse) (name : ByteArray) (v : Bool) (reserve close now : Int) (w : World) (hH : HouseIs w p r H) (hp : p.block ≠ r) (hn : name.size ≤ maxLen) (hlen : H.length ≤ maxLen) :
    Calls Try.prog 35 #[.pointer (some p), .string name, .bool v, .int .i64 reserve, .int .u64 close, .int .u64 now] w (Opened w p r H name v reserve close now) := by
  obtain ⟨hc, m, hm, hr⟩ := hH
  have HH := Lib.hid (show HouseIs w p r H from ⟨hc, m, hm, hr⟩)
  have hrl := mapAt_lt hm
  have hml := hr.len
  have HR := Lib.hid hr; clear hr
  unfold maxLen at hlen
  obtain ⟨s0, hs0, hsH⟩ : ∃ s0 : GAuctionSale, (mget m name).getD default = s0 ∧ (mget m name).isSome = (mget H name).isSome := by
    refine ⟨_, rfl, ?_⟩
    rcases HR.out.get name with ⟨h1, h2⟩ | ⟨s, x, h1, h2, _⟩
    · rw [h1, h2]; rfl
    · rw [h1, h2]; rfl
  obtain ⟨is, his⟩ : ∃ is, (mget H name).isSome = is := ⟨_, rfl⟩
  rw [his] at hsH
  obtain ⟨n, hnl⟩ : ∃ n, H.length = n := ⟨_, rfl⟩
  rw [hnl] at hml hlen
  have HIS := Lib.hid his; have HNL := Lib.hid hnl; have HML := Lib.hid hml
  have HBA := Lib.hid ((Bel.refl w).alloc (.cells (GAuctionSale.enc s0).toArray 146))
  clear his hnl hml
  have hcA : ∀ o, (w.alloc o).cell? p = some (.map (some r)) := fun o => GB.cell (GB.al w o) hc
  have hmA : ∀ o, mapAt ByteArray GAuctionSale (w.alloc o) r = some m := fun o => mapAt_alloc o hm
  have hlenrun : ∀ o, (Builtin.len_ #[141] 3 #[.map (some r)]).run Try.prog (w.alloc o) = .ok (.int .i64 (n : Int)) (w.alloc o) := fun o => by
    rw [Gv.run_len_map kl9 um141 (hmA o) 3, HML.out]
  obtain ⟨nb, hnb⟩ : ∃ nb, nameB name = nb := ⟨_, rfl⟩
  have HNB := Lib.hid hnb; clear hnb
  by_cases hbad : badOpen name reserve = true
  · have HO := Lib.hid (show openR H name reserve close now = 1 by unfold openR; rw [if_pos hbad])
    have hb2 : (!nb || (decide (reserve < 0) || decide (1099511627776 < reserve))) = true := by rw [← HNB.out]; exact hbad
    clear hbad
    cases nb
    · clear hb2
      go_enter Try.func35, Try.ntmps35
      go_wp2_with fail
      refine (name_is false name _ HNB.out hn).mono ?_
      rintro _ w1 ⟨rfl, rfl⟩
      go_wp2_with fail
      go_ret
      exact opened_no HH.out HBA.out HO.out (by decide)
    · by_cases h1 : reserve < 0
      · clear hb2
        go_enter Try.func35, Try.ntmps35
        go_wp2_with fail
        refine (name_is true name _ HNB.out hn).mono ?_
        rintro _ w1 ⟨rfl, rfl⟩
        go_wp2_with fail
        go_ret
        exact opened_no HH.out HBA.out HO.out (by decide)
      · have h2 : 1099511627776 < reserve := by simpa [h1] using hb2
        clear hb2
        go_enter Try.func35, Try.ntmps35
        go_wp2_with fail
        refine (name_is true name _ HNB.out hn).mono ?_
        rintro _ w1 ⟨rfl, rfl⟩
        go_wp2_with fail
        go_ret
        exact opened_no HH.out HBA.out HO.out (by decide)
  · have hb2 : nb = true ∧ ¬ reserve < 0 ∧ ¬ 1099511627776 < reserve := by
      have : badOpen name reserve = false := by simpa using hbad
      unfold badOpen at this
      rw [HNB.out] at this
      simpa [and_assoc] using this
    obtain ⟨rfl, h1, h2⟩ := hb2
    have HBD := Lib.hid hbad; clear hbad
    cases is
    · by_cases h4 : close ≤ now
      · have HO := Lib.hid (show openR H name reserve close now = 4 by unfold openR; rw [if_neg HBD.out, if_neg (by rw [HIS.out]; decide), if_pos h4])
        go_enter Try.func35, Try.ntmps35
        go_wp2_with fail
        refine (name_is true name _ HNB.out hn).mono ?_
        rintro _ w1 ⟨rfl, rfl⟩
        go_wp2_with fail
        go_ret
        exact opened_no HH.out HBA.out HO.out (by decide)
      · by_cases h64 : 64 ≤ n
        · have HO := Lib.hid (show openR H name reserve close now = 7 by unfold openR; rw [if_neg HBD.out, if_neg (by rw [HIS.out]; decide), if_neg h4, if_pos (by rw [HNL.out]; exact h64)])
          go_enter Try.func35, Try.ntmps35
          go_wp2_with fail
          refine (name_is true name _ HNB.out hn).mono ?_
          rintro _ w1 ⟨rfl, rfl⟩
          go_wp2_with fail
          go_ret
          exact opened_no HH.out HBA.out HO.out (by decide)
        · have HO := Lib.hid (show openR H name reserve close now = 0 by unfold openR; rw [if_neg HBD.out, if_neg (by rw [HIS.out]; decide), if_neg h4, if_neg (by rw [HNL.out]; exact h64)])
          have hput := houseIs_put (p := p) (k := name) (v := (newSale name v reserve close).at default) (x := newSale name v reserve close) (hcA (.cells (GAuctionSale.enc s0).toArray 146)) hp (hmA _) (HR.out.step HBA.out) ⟨default, rfl, Sl.nil, Nat.le_refl _, Nat.zero_le _⟩
          have HP := Lib.hid hput; clear hput
          go_enter Try.func35, Try.ntmps35
          go_wp2_with fail
          refine (name_is true name _ HNB.out hn).mono ?_
          rintro _ w1 ⟨rfl, rfl⟩
          go_wp2_with fail
          go_ret
          refine ⟨by rw [HO.out]; rfl, ?_, GX.tr _ _ _ (GX.of_bel HBA.out r) HP.out.2⟩
          have := HP.out.1
          unfold openH
          rw [if_pos HO.out]
          exact this
    · have HO := Lib.hid (show openR H name reserve close now = 5 by unfold openR; rw [if_neg HBD.out, if_pos HIS.out])
      go_enter Try.func35, Try.ntmps35
      go_wp2_with fail
      refine (name_is true name _ HNB.out hn).mono ?_
      rintro _ w1 ⟨rfl, rfl⟩
      go_wp2_with fail
      go_ret
      exact opened_no HH.out HBA.out HO.out (by decide)
end Go.Proofs.Yteockodnfempfaa
