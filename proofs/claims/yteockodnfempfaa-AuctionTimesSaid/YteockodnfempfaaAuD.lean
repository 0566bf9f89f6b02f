/- What the helps of Bid compute. Conditions: those named in each theorem. -/
import Derived.Test.YteockodnfempfaaAuC
import Derived.Lib.SliceRun
namespace Go.Proofs.Yteockodnfempfaa
open Go Go.RowKit Go.Gv

def hasBid (bs : List GAuctionBid) (c : Int) : Bool := bs.any fun b => b.client == c
theorem bidFn_any (b : GAuctionBid) (g : Nat) (c : Int) (w : World) (hc : w.cell? ⟨g, 0, none⟩ = some (.int .i64 c)) :
    Calls Try.prog 73 #[b.val, .pointer (some ⟨g, 0, none⟩)] w fun e w' => e = .returned (.bool (b.client == c)) ∧ Bel w w' := by
  have hcA : ∀ o, (w.alloc o).cell? ⟨g, 0, none⟩ = some (.int .i64 c) := fun o => GB.cell (GB.al w o) hc
  go_enter Try.func73, Try.ntmps73
  go_wp2
  go_ret
  exact ⟨rfl, (Bel.refl w).alloc _⟩
theorem bidFn_is (r : Bool) (b : GAuctionBid) (g : Nat) (c : Int) (w : World) (hr : (b.client == c) = r) (hc : w.cell? ⟨g, 0, none⟩ = some (.int .i64 c)) :
    Calls Try.prog 73 #[b.val, .pointer (some ⟨g, 0, none⟩)] w fun e w' => e = .returned (.bool r) ∧ Bel w w' := by subst hr; exact bidFn_any b g c w hc
def IndexIs (bs : List GAuctionBid) (c : Int) (w : World) (e : Ending) (w' : World) : Prop := ∃ i : Int, e = .returned (.int .i64 i) ∧ decide (0 ≤ i) = hasBid bs c ∧ Bel w w'
set_option maxHeartbeats 1000000 in
theorem indexBid_any (A : Option Addr) (n k g : Nat) (bs : List GAuctionBid) (c : Int) (w : World) (hx : Sl GAuctionBid w w.heap.size A n bs) (hn : n ≤ maxLen) (hc : w.cell? ⟨g, 0, none⟩ = some (.int .i64 c)) :
    Calls Try.prog 109 #[.slice A n k, .func (.func 73) #[] #[.pointer (some ⟨g, 0, none⟩)]] w (IndexIs bs c w) := by
  unfold maxLen at hn
  have H := Lib.hid hx; have HC := Lib.hid hc; clear hx hc
  go_enter Try.func109, Try.ntmps109
  go_wp2
  go_loopw [8] (fun i wr => ∃ j : Nat, j ≤ n ∧ i = .int .i64 j ∧ hasBid (bs.take j) c = false ∧ Bel w wr) (fun i _ => n - (intOf i).toNat)
  case atStart => exact ⟨0, by omega, rfl, rfl, Bel.refl _⟩
  case round =>
    obtain ⟨j, hj, rfl, hno, hb⟩ := hrel
    have HNO := Lib.hid hno; have HB := Lib.hid hb; clear hno hb
    by_cases hlt : j < n
    · obtain ⟨ad, b, rfl, _, hbk, hgb⟩ := (H.out.stepB HB.out).at_ (k := j) hlt
      have HBK := Lib.hid hbk; clear hbk
      change get? GAuctionBid wr (ad.add (j * 2)) = some b at hgb
      obtain ⟨r, hr⟩ : ∃ r, (b.client == c) = r := ⟨_, rfl⟩
      have HR := Lib.hid hr; clear hr
      have hstep : hasBid (bs.take (j + 1)) c = r := by
        have hno := HNO.out
        unfold hasBid at hno ⊢
        rw [nodup_step HBK.out, List.any_append, hno]; simpa using HR.out
      have HS := Lib.hid hstep; clear hstep
      go_wp2_with fail
      refine (bidFn_is r b g c _ HR.out (GB.cell HB.out HC.out)).mono ?_
      rintro _ w1 ⟨rfl, hb1⟩
      have HB1 := Lib.hid (HB.out.trans hb1); clear hb1
      cases r
      · go_wp2
        go_roundw
        case rel => exact ⟨j + 1, by omega, by go_num, HS.out, HB1.out⟩
        case measure => simp [intOf] <;> omega
      · have hany : hasBid bs c = true := by
          have := HS.out
          unfold hasBid at this ⊢
          rw [List.any_eq_true] at this ⊢
          obtain ⟨y, hy, hyc⟩ := this
          exact ⟨y, List.mem_of_mem_take hy, hyc⟩
        have HA := Lib.hid hany; clear hany
        go_wp2
        go_ret
        exact ⟨j, rfl, by rw [HA.out]; simp, HB1.out⟩
    · have hall : hasBid bs c = false := by
        have := HNO.out
        rwa [List.take_of_length_le (by rw [H.out.1]; omega)] at this
      have HA := Lib.hid hall; clear hall
      go_wp2
      go_ret
      exact ⟨-1, rfl, by rw [HA.out]; rfl, HB.out⟩
theorem hasBid_any (r : Bool) (A : Option Addr) (n k g : Nat) (bs : List GAuctionBid) (c : Int) (w : World) (hr : hasBid bs c = r) (hx : Sl GAuctionBid w w.heap.size A n bs) (hn : n ≤ maxLen) (hc : w.cell? ⟨g, 0, none⟩ = some (.int .i64 c)) :
    Calls Try.prog 72 #[.slice A n k, .func (.func 73) #[] #[.pointer (some ⟨g, 0, none⟩)]] w fun e w' => e = .returned (.bool r) ∧ Bel w w' := by
  have H := Lib.hid hx; have HC := Lib.hid hc; have HR := Lib.hid hr; clear hx hc hr
  go_enter Try.func72, Try.ntmps72
  go_wp2_with fail
  refine (indexBid_any A n k g bs c w H.out hn HC.out).mono ?_
  rintro _ w1 ⟨i, rfl, hi, hb⟩
  have HB := Lib.hid hb; have HI := Lib.hid hi; clear hb hi
  go_wp2
  go_ret
  exact ⟨ret_bool (by rw [HI.out, HR.out]), HB.out⟩
set_option maxRecDepth 100000 in
theorem cloneBid_any (A : Option Addr) (n k : Nat) (bs : List GAuctionBid) (w : World) (hx : Sl GAuctionBid w w.heap.size A n bs) (hn : n * 16 ≤ 140737488355328) :
    Calls Try.prog 74 #[.slice A n k] w fun e w' => ∃ v, e = .returned v ∧ OwnS w' w.heap.size 151 v bs ∧ Bel w w' := by
  have H := Lib.hid hx; have HN := Lib.hid hn; clear hx hn
  have hq : ∀ (w : World) (a : Option Addr) (n c : Nat), (binOp .eql 144 (.slice a n c) (.slice none 0 0)).run Try.prog w = .ok (.bool a.isNone) w := fun w a n c => Lib.run_eql_slice_nil w _ _ a n c 0 0 (Try.underlying144)
  cases A with
  | none =>
    have h0 : n = 0 := by
      rcases Nat.eq_zero_or_pos n with h | h
      · exact h
      · obtain ⟨ad, e, _⟩ := H.out.2 h; cases e
    subst h0
    have hbs : bs = [] := List.eq_nil_of_length_eq_zero H.out.1
    subst hbs
    go_enter Try.func74, Try.ntmps74
    go_wp2
    go_ret
    exact ⟨_, rfl, OwnS.nil _ _ _, Bel.refl _⟩
  | some ad =>
    go_enter Try.func74, Try.ntmps74
    go_wp2
    generalize hrun : Sem.run _ (gAppend _ _ _) _ = rr
    have ho0 : OwnS (w.alloc (.cells #[] 151)) w.heap.size 151 (.slice (some ⟨w.heap.size, 0, none⟩) 0 0) ([] : List GAuctionBid) :=
      ⟨rfl, .inr ⟨w.heap.size, 0, #[], rfl, Nat.le_refl _, heap_alloc_new w _, Nat.le_refl _, Nat.zero_le _, rfl, rfl⟩⟩
    have hn := HN.out
    obtain ⟨v', w', rfl, ho, hg, hob⟩ := append_spec hrun ei144 ho0 (H.out.stepB ((Bel.refl w).alloc _)) (by simp only [List.length_nil]; unfold maxLen; omega) (by simp only [List.length_nil]; omega) (by simp)
    clear hrun hn
    have hbel : Bel w w' := ((Bel.refl w).alloc _).appS hg ho0 (Nat.le_refl _)
    clear ho0 hg hob
    have HO := Lib.hid ho; have HB := Lib.hid hbel
    clear ho hbel
    go_wp2
    go_ret
    exact ⟨_, rfl, HO.out, HB.out⟩
end Go.Proofs.Yteockodnfempfaa
