/- LedgerGrows returns true, walked. Conditions: those named in each theorem. -/
import Derived.Test.YteockodnfempfaaP11
/- LedgerDone returns true, walked. Conditions: those named in each theorem. -/
namespace Go.Proofs.Yteockodnfempfaa
open Go Go.RowKit Go.Gv Go.Sort

theorem StepM.done {M M' : MLedger} {B : MBatch} (h : StepM M B M') : M'.done = M.done ∧ M.l.length ≤ M'.l.length := by
  rcases h with ⟨_, rfl⟩ | ⟨_, es, _, rfl⟩
  · exact ⟨rfl, Nat.le_refl _⟩
  · refine ⟨rfl, ?_⟩
    show _ ≤ ((endedM M B).l ++ es.map newP).length
    rw [List.length_append, (endedM_same M B).len]
    omega
theorem next_status {M : MLedger} {k : Nat} (hG : GoodM M k) :
    (nextB M = true ∧ (statusR M M.done = 2 ∨ statusR M M.done = 3)) ∨ (nextB M = false ∧ (statusR M M.done = 1 ∨ statusR M M.done = 0)) := by
  unfold nextB statusR
  cases hin : inB M M.done with
  | false => right; simp
  | true =>
    obtain ⟨d, m, hd, hm, _⟩ := inB_at hin
    have hs := hG.stat m (List.mem_of_getElem? hm)
    unfold stOpen
    rw [hd, Int.toNat_natCast, hm]
    simp only [Bool.true_and, if_true, Option.map_some, Option.getD_some]
    by_cases h1 : m.status = 1
    · right; simp [h1]
    · left; simp [h1]; omega
theorem GoodM.doneL {M : MLedger} {k : Nat} (h : GoodM M k) : GoodM (doneL M) k := by
  unfold Go.Proofs.Yteockodnfempfaa.doneL
  split
  · exact ⟨h.epoch0, h.epoch1, h.last0, h.last1, h.len, h.names, h.rise, h.below, h.stat, h.pays⟩
  · exact h
theorem done_le {M : MLedger} (h0 : 0 ≤ M.done) (h1 : M.done ≤ (M.l.length : Int)) : (doneL M).done = (if nextB M = true then M.done + 1 else M.done) ∧ 0 ≤ (doneL M).done ∧ (doneL M).done ≤ ((doneL M).l.length : Int) := by
  unfold Go.Proofs.Yteockodnfempfaa.doneL
  split
  · rename_i hn
    have hin : inB M M.done = true := by unfold nextB at hn; simp at hn; exact hn.1
    obtain ⟨d, m, hd, hm, hl⟩ := inB_at hin
    exact ⟨rfl, by simp only; omega, by simp only; omega⟩
  · exact ⟨rfl, h0, h1⟩
set_option maxRecDepth 100000 in
set_option maxHeartbeats 4000000 in
theorem ledgerDone_any (A : Option Addr) (n c : Nat) (xs : List GBatch) (nn : Int) (w : World) (hx : Sl GBatch w w.heap.size A n xs) (hox : ∀ x ∈ xs, ok74 w x) (hn : n ≤ maxLen) :
    Calls Try.prog 15 #[.slice A n c, .int .i64 nn] w fun e w' => e = .returned (.bool true) ∧ Bel w w' := by
  unfold maxLen at hn
  have HX := Lib.hid hx; have HOX := Lib.hid hox; clear hx hox
  go_enter Try.func15, Try.ntmps15
  go_upto_block 0 with (first | (go_at_call 41; refine (newLedger_any _).mono ?_; rintro _ w1 ⟨g, S, U, rfl, hL, hU, hb⟩; have HA := Lib.hid (LedAt.new hL hU hb); clear hL hU hb) | fail)
  go_cut [6, 7] (fun d _ wx => ∃ (k : Nat) (M : MLedger), k ≤ 8 ∧ d = .int .i64 M.done ∧ LedAt w wx g M ∧ GoodM M k ∧ 0 ≤ M.done ∧ M.done ≤ (M.l.length : Int))
  case first =>
    go_wp2_with fail
    go_loopw [6, 7] (fun d i wr => ∃ (k : Nat) (M : MLedger), k ≤ n ∧ k ≤ 8 ∧ i = .int .i64 k ∧ d = .int .i64 M.done ∧ LedAt w wr g M ∧ GoodM M k ∧ 0 ≤ M.done ∧ M.done ≤ (M.l.length : Int)) (fun _ i _ => 9 - (intOf i).toNat)
    case atStart => exact ⟨0, _, by omega, by omega, rfl, rfl, HA.out, GoodM.zero, by decide, by decide⟩
    case round =>
      obtain ⟨k, M, hk, hk5, rfl, rfl, hA, hG, hd0, hd1⟩ := hrel
      have HG := Lib.hid hG
      obtain ⟨S2, U2, hL2, hU2, hB2⟩ := hA
      by_cases hcont : k < n ∧ k < 8
      · obtain ⟨hlt, hlt5⟩ := hcont
        obtain ⟨ad, x, rfl, _, hxk, hgx⟩ := (HX.out.stepB hB2).at_ (k := k) hlt
        obtain ⟨R, hR⟩ := raw_of (HOX.out x (List.mem_of_getElem? hxk))
        change get? GBatch wr (ad.add (k * 5)) = some x at hgx
        have HR := Lib.hid (hR.bel hB2); have HL := Lib.hid hL2; have HU := Lib.hid hU2; have HB := Lib.hid hB2
        have hUlt := Lib.hid hL2.ltU
        have hlt2 : (k : Int) < (n : Int) := by omega
        have hlt55 : (k : Int) < 8 := by omega
        clear hxk hR hL2 hU2 hB2 hG
        go_wp2_with fail
        have hlt3 : k < n := hlt
        have hk0 : (0 : Int) ≤ (k : Int) := by omega
        refine wp_region_G GB [10] GB.rf (by kernel_rfl) ?_
        refine wpG_looks 2 11 [0,1,2,3,4,5,6,7,8] rfl GB.rf GB.tr (by kernel_rfl) (fun _ _ _ _ hd h => And.intro (hd ▸ And.left h) (And.right h)) rfl (by kernel_rfl) ?_
        intro ι W hne CW
        have g1 := fun z => (CW.out z).get hgx
        repeat (refine wpLooksG_step (fun K hK => ?_); go_simp; refine hK _ ?_; clear hK K)
        refine wpLooksG_step (fun K hK => ?_); go_simp
        refine ⟨_, fun z => quietG (epoch_any g S2 U2 M (W z) (HL.out.bel (CW.out z).undrew)) (fun _ _ h => ⟨h.1, h.2.symm⟩), hK _ ?_⟩
        clear hK K
        repeat (refine wpLooksG_step (fun K hK => ?_); go_simp; refine hK _ ?_; clear hK K)
        refine wpLooksG_step (fun K hK => ?_); go_simp
        refine ⟨_, fun z => quietG (last_any g S2 U2 M (W z) (HL.out.bel (CW.out z).undrew)) (fun _ _ h => ⟨h.1, h.2.symm⟩), hK _ ?_⟩
        clear hK K
        refine wpLooksG_nil ?_
        clear g1 CW hne W ι
        refine wpG_force 9 _ rfl (by kernel_rfl) rfl fun wa hwa K hK => ?_
        go_simp
        refine (smallB_any x R M.epoch M.last wa (HR.out.bel hwa.undrew) HG.out.last0 (by have := HG.out.last1; omega)).mono ?_
        rintro _ wb ⟨y, rfl, hy, hbb⟩
        refine hK _ _ (fun _ => hbb) ?_
        clear hK K
        refine wpG_force 10 _ rfl (by kernel_rfl) rfl fun wc hwc K hK => ?_
        go_simp
        have hbc : Bel wr wc := (hwa.undrew.trans hbb).trans hwc
        refine (apply_any g S2 U2 M y (smallM R M.epoch M.last) (fun q => wa.heap.size ≤ q) wc (HL.out.bel hbc) (hy.bel hwc) (fun q hq hu => by have := hUlt.out q hu; have := hwa.undrew.size; omega) HG.out.epoch0 (by have := HG.out.epoch1; omega) (by have := HG.out.len; omega) (by have := small_flat R M.epoch M.last; omega)).mono ?_
        rintro _ wd ⟨M', n', c', S3, U3, hst, rfl, hL3, hU3, hC3⟩
        have HA3 := Lib.hid (LedAt.chg (HL.out.bel hbc) HU.out (HB.out.trans hbc) hL3 hU3 hC3)
        have HG3 := Lib.hid (hst.good HG.out)
        have HD3 := Lib.hid hst.done
        refine hK _ _ (fun h => absurd (by simp) h) ?_
        clear hK K hst hL3 hU3 hC3 hbc hwc hbb hy hwa hgx
        refine wpG_end (by kernel_rfl) (fun wn hwn => ?_) _
        have HA4 := Lib.hid (HA3.out.bel hwn); clear hwn
        obtain ⟨z, hz⟩ : ∃ z, IntKind.i64.wrap (nn + (k : Int)) = z := ⟨_, rfl⟩
        have hzr : -9223372036854775808 ≤ z ∧ z ≤ 9223372036854775807 := by rw [← hz]; unfold IntKind.wrap; simp [IntKind.bits, IntKind.signed]; omega
        obtain ⟨q, hq⟩ : ∃ q, within z 4 = q := ⟨_, rfl⟩
        have hqb := within_lt z (n := 4) (by omega)
        rw [hq] at hqb
        obtain ⟨hq0, hq1⟩ := hqb
        obtain ⟨hd3, hle3⟩ := HD3.out
        have hd0' : 0 ≤ M'.done := by rw [hd3]; exact hd0
        have hd1' : M'.done ≤ (M'.l.length : Int) := by rw [hd3]; omega
        have HQ := Lib.hid hq
        rw [← hd3] at *
        clear hq HD3 hle3
        go_wp2_with fail
        go_loopw [6, 8] (fun d j wr => ∃ (i : Nat) (M2 : MLedger), i ≤ 4 ∧ j = .int .i64 i ∧ d = .int .i64 M2.done ∧ LedAt w wr g M2 ∧ GoodM M2 (k + 1) ∧ 0 ≤ M2.done ∧ M2.done ≤ (M2.l.length : Int)) (fun _ j _ => 5 - (intOf j).toNat)
        case atStart => exact ⟨0, M', by omega, rfl, rfl, HA4.out, HG3.out, hd0', hd1'⟩
        case round =>
          obtain ⟨i, M2, hi, rfl, rfl, hA2, hG2, hm0, hm1⟩ := hrel
          have HG2 := Lib.hid hG2
          have hlen2 := hG2.len
          by_cases hlti : (i : Int) < q
          · obtain ⟨S3, U3, hL3, hU3, hB3⟩ := hA2
            have HL3 := Lib.hid hL3; have HU3 := Lib.hid hU3; have HB3 := Lib.hid hB3
            have HPAY := Lib.hid (show ∀ m ∈ M2.l, m.pay.length ≤ 1000000 from fun m hm => Nat.le_trans (hG2.pays m hm) (by omega))
            have hdl := done_le hm0 hm1
            have HD0 := Lib.hid hdl.2.1; have HD1 := Lib.hid hdl.2.2
            have hdb : M2.done ≤ 1000 := by omega
            have hns := next_status hG2
            clear hL3 hU3 hB3 hG2
            go_wp2_with fail
            refine (within_is z 4 q _ HQ.out (by omega) hzr.1 hzr.2).mono ?_
            rintro _ w9 ⟨rfl, h9⟩
            obtain rfl : wr = w9 := by first | exact h9 | exact h9.symm
            rcases hns with ⟨hnx, hst | hst⟩ | ⟨hnx, hst | hst⟩
            · have HDN := Lib.hid (show (doneL M2).done = M2.done + 1 by rw [hdl.1, if_pos hnx])
              have HNX := Lib.hid hnx
              clear hnx hdl
              have HST := Lib.hid hst
              clear hst
              go_wp2_with fail
              refine (next_any g S3 U3 M2 _ HL3.out).mono ?_
              rintro _ w4 ⟨rfl, nd, rfl⟩
              rw [HNX.out]
              simp only [if_true]
              have HL4 := Lib.hid (HL3.out.bel (bdN (Below.refl _ _) nd : Bel wr (wr.drewN nd)))
              have HB4 := Lib.hid (HB3.out.drewN nd)
              go_wp2_with fail
              refine (status_any g S3 U3 M2 M2.done _ HL4.out HPAY.out).mono ?_
              rintro _ w5 ⟨v5, rfl, hv5, hb5⟩
              rw [HST.out]
              have HL5 := Lib.hid (HL4.out.bel hb5); have HB5 := Lib.hid (HB4.out.trans hb5)
              clear hv5 hb5
              go_wp2_with fail
              refine (done_any g S3 U3 M2 _ HL5.out (by unfold maxLen; omega)).mono ?_
              rintro _ w6 ⟨rfl, hL6, hC6⟩
              rw [HNX.out]
              have HA6 := Lib.hid (LedAt.chg HL5.out HU3.out HB5.out hL6 (fun _ h => .inl h) hC6)
              clear hL6 hC6
              go_wp2_with fail
              exact ⟨⟨i + 1, doneL M2, by omega, by go_num, by rw [HDN.out], HA6.out, HG2.out.doneL, HD0.out, HD1.out⟩, by simp [intOf]; omega⟩
            · have HDN := Lib.hid (show (doneL M2).done = M2.done + 1 by rw [hdl.1, if_pos hnx])
              have HNX := Lib.hid hnx
              clear hnx hdl
              have HST := Lib.hid hst
              clear hst
              go_wp2_with fail
              refine (next_any g S3 U3 M2 _ HL3.out).mono ?_
              rintro _ w4 ⟨rfl, nd, rfl⟩
              rw [HNX.out]
              simp only [if_true]
              have HL4 := Lib.hid (HL3.out.bel (bdN (Below.refl _ _) nd : Bel wr (wr.drewN nd)))
              have HB4 := Lib.hid (HB3.out.drewN nd)
              go_wp2_with fail
              refine (status_any g S3 U3 M2 M2.done _ HL4.out HPAY.out).mono ?_
              rintro _ w5 ⟨v5, rfl, hv5, hb5⟩
              rw [HST.out]
              have HL5 := Lib.hid (HL4.out.bel hb5); have HB5 := Lib.hid (HB4.out.trans hb5)
              clear hv5 hb5
              go_wp2_with fail
              refine (done_any g S3 U3 M2 _ HL5.out (by unfold maxLen; omega)).mono ?_
              rintro _ w6 ⟨rfl, hL6, hC6⟩
              rw [HNX.out]
              have HA6 := Lib.hid (LedAt.chg HL5.out HU3.out HB5.out hL6 (fun _ h => .inl h) hC6)
              clear hL6 hC6
              go_wp2_with fail
              exact ⟨⟨i + 1, doneL M2, by omega, by go_num, by rw [HDN.out], HA6.out, HG2.out.doneL, HD0.out, HD1.out⟩, by simp [intOf]; omega⟩
            · have HDN := Lib.hid (show (doneL M2).done = M2.done by rw [hdl.1, if_neg (by rw [hnx]; decide)])
              have HNX := Lib.hid hnx
              clear hnx hdl
              have HST := Lib.hid hst
              clear hst
              go_wp2_with fail
              refine (next_any g S3 U3 M2 _ HL3.out).mono ?_
              rintro _ w4 ⟨rfl, nd, rfl⟩
              rw [HNX.out]
              simp only [Bool.false_eq_true, if_false]
              have HL4 := Lib.hid (HL3.out.bel (bdN (Below.refl _ _) nd : Bel wr (wr.drewN nd)))
              have HB4 := Lib.hid (HB3.out.drewN nd)
              go_wp2_with fail
              refine (status_any g S3 U3 M2 M2.done _ HL4.out HPAY.out).mono ?_
              rintro _ w5 ⟨v5, rfl, hv5, hb5⟩
              rw [HST.out]
              have HL5 := Lib.hid (HL4.out.bel hb5); have HB5 := Lib.hid (HB4.out.trans hb5)
              clear hv5 hb5
              go_wp2_with fail
              refine (done_any g S3 U3 M2 _ HL5.out (by unfold maxLen; omega)).mono ?_
              rintro _ w6 ⟨rfl, hL6, hC6⟩
              rw [HNX.out]
              have HA6 := Lib.hid (LedAt.chg HL5.out HU3.out HB5.out hL6 (fun _ h => .inl h) hC6)
              clear hL6 hC6
              go_wp2_with fail
              exact ⟨⟨i + 1, doneL M2, by omega, by go_num, by rw [HDN.out], HA6.out, HG2.out.doneL, HD0.out, HD1.out⟩, by simp [intOf]; omega⟩
            · have HDN := Lib.hid (show (doneL M2).done = M2.done by rw [hdl.1, if_neg (by rw [hnx]; decide)])
              have HNX := Lib.hid hnx
              clear hnx hdl
              have HST := Lib.hid hst
              clear hst
              go_wp2_with fail
              refine (next_any g S3 U3 M2 _ HL3.out).mono ?_
              rintro _ w4 ⟨rfl, nd, rfl⟩
              rw [HNX.out]
              simp only [Bool.false_eq_true, if_false]
              have HL4 := Lib.hid (HL3.out.bel (bdN (Below.refl _ _) nd : Bel wr (wr.drewN nd)))
              have HB4 := Lib.hid (HB3.out.drewN nd)
              go_wp2_with fail
              refine (status_any g S3 U3 M2 M2.done _ HL4.out HPAY.out).mono ?_
              rintro _ w5 ⟨v5, rfl, hv5, hb5⟩
              rw [HST.out]
              have HL5 := Lib.hid (HL4.out.bel hb5); have HB5 := Lib.hid (HB4.out.trans hb5)
              clear hv5 hb5
              go_wp2_with fail
              refine (done_any g S3 U3 M2 _ HL5.out (by unfold maxLen; omega)).mono ?_
              rintro _ w6 ⟨rfl, hL6, hC6⟩
              rw [HNX.out]
              have HA6 := Lib.hid (LedAt.chg HL5.out HU3.out HB5.out hL6 (fun _ h => .inl h) hC6)
              clear hL6 hC6
              go_wp2_with fail
              exact ⟨⟨i + 1, doneL M2, by omega, by go_num, by rw [HDN.out], HA6.out, HG2.out.doneL, HD0.out, HD1.out⟩, by simp [intOf]; omega⟩
          · have HA2 := Lib.hid hA2
            clear hA2 hG2
            go_wp2_with fail
            refine (within_is z 4 q _ HQ.out (by omega) hzr.1 hzr.2).mono ?_
            rintro _ w9 ⟨rfl, h9⟩
            obtain rfl : wr = w9 := by first | exact h9 | exact h9.symm
            go_wp2_with fail
            exact ⟨⟨k + 1, M2, by omega, by omega, by go_num, rfl, HA2.out, HG2.out, hm0, hm1⟩, by simp [intOf]; omega⟩
      · have hstop : (n : Int) ≤ (k : Int) ∨ ((k : Int) < (n : Int) ∧ 8 ≤ (k : Int)) := by omega
        have HA2 := Lib.hid (⟨S2, U2, hL2, hU2, hB2⟩ : LedAt w wr g M)
        clear hcont hL2 hU2 hB2 hG
        rcases hstop with hs | ⟨hs, hs2⟩
        all_goals
          go_wp2_with fail
          go_meet
          exact ⟨k, M, hk5, rfl, HA2.out, HG.out, hd0, hd1⟩
  case rest =>
    obtain ⟨k, M, hk5, rfl, ⟨S2, U2, hL2, hU2, hB2⟩, hG, hd0, hd1⟩ := hcut
    obtain ⟨w2, rfl⟩ : ∃ w2 : World, w2 = wc := ⟨_, rfl⟩
    have HL2 := Lib.hid hL2; have HB2 := Lib.hid hB2
    have hll := hG.len
    obtain ⟨q, hq⟩ : ∃ q, M.l.length = q := ⟨_, rfl⟩
    rw [hq] at hd1 hll
    have HQ := Lib.hid hq
    clear hL2 hU2 hB2 hG hq
    obtain ⟨dd, hdd⟩ : ∃ d, M.done = d := ⟨_, rfl⟩
    rw [hdd] at hd0 hd1 ⊢
    clear hdd
    go_wp2_with fail
    refine (lenL_any g S2 U2 M _ HL2.out).mono ?_
    rw [HQ.out]
    rintro _ w3 ⟨rfl, h3⟩
    obtain rfl : w2 = w3 := by first | exact h3 | exact h3.symm
    go_wp2_with fail
    refine (wakesL_any _).mono ?_
    rintro _ w7 ⟨rfl, hb7⟩
    have HB7 := Lib.hid (HB2.out.trans hb7); clear hb7
    go_wp2_with fail
    go_ret
    exact ⟨rfl, HB7.out⟩
end Go.Proofs.Yteockodnfempfaa
/- What stands in a ledger stays there, batch by batch. Conditions: those named in each theorem. -/
namespace Go.Proofs.Yteockodnfempfaa
open Go Go.RowKit Go.Gv Go.Sort

def KeepL (M M' : MLedger) : Prop := ∀ (i : Nat) (m : MPlace), M.l[i]? = some m → ∃ m' : MPlace, M'.l[i]? = some m' ∧ m'.e = m.e ∧ (m.status ≠ 1 → m' = m)
theorem KeepL.rf (M : MLedger) : KeepL M M := fun _ m h => ⟨m, h, rfl, fun _ => rfl⟩
theorem KeepL.tr {A B C : MLedger} (h : KeepL A B) (k : KeepL B C) : KeepL A C := fun i m hm => by
  obtain ⟨m1, h1, h2, h3⟩ := h i m hm
  obtain ⟨m2, k1, k2, k3⟩ := k i m1 h1
  refine ⟨m2, k1, k2.trans h2, fun hs => ?_⟩
  obtain rfl := h3 hs
  exact k3 hs
theorem endM_keep (M : MLedger) (i st : Int) (pay : List U8) : KeepL M (endM M i st pay) := by
  intro k m hm
  unfold endM
  split
  · rename_i hc
    split
    · rename_i m0 h0
      by_cases hk : i.toNat = k
      · subst hk
        rw [h0] at hm; injection hm with hm; subst hm
        have hl : i.toNat < M.l.length := (List.getElem?_eq_some_iff.1 h0).1
        refine ⟨⟨m0.e, st, pay⟩, by simp only; rw [List.getElem?_set_self hl], rfl, fun hs => absurd ?_ hs⟩
        have := hc.2
        unfold stOpen at this
        rw [h0] at this
        simpa using this
      · exact ⟨m, by simp only; rw [List.getElem?_set_ne hk]; exact hm, rfl, fun _ => rfl⟩
    · exact ⟨m, hm, rfl, fun _ => rfl⟩
  · exact ⟨m, hm, rfl, fun _ => rfl⟩
theorem openF_keep : ∀ (l : List (Int × List U8)) (M : MLedger), KeepL M (openF M l)
  | [], M => KeepL.rf M
  | o :: l, M => (endM_keep M o.1 2 o.2).tr (openF_keep l (endM M o.1 2 o.2))
theorem tombF_keep : ∀ (l : List Int) (M : MLedger), KeepL M (tombF M l)
  | [], M => KeepL.rf M
  | i :: l, M => (endM_keep M i 3 []).tr (tombF_keep l (endM M i 3 []))
theorem StepM.keep {M M' : MLedger} {B : MBatch} (h : StepM M B M') : KeepL M M' := by
  rcases h with ⟨_, rfl⟩ | ⟨_, es, _, rfl⟩
  · exact KeepL.rf _
  · have h0 : KeepL M (endedM M B) := (openF_keep _ _).tr (tombF_keep _ _)
    intro i m hm
    obtain ⟨m', h1, h2, h3⟩ := h0 i m hm
    refine ⟨m', ?_, h2, h3⟩
    show ((endedM M B).l ++ es.map newP)[i]? = some m'
    rw [List.getElem?_append_left (List.getElem?_eq_some_iff.1 h1).1]
    exact h1
def entsL (M : MLedger) : List GEntry := M.l.map (·.e)
def stsL (M : MLedger) : List Int := M.l.map (·.status)
theorem entsL_at {M : MLedger} {k : Nat} {m : MPlace} (h : M.l[k]? = some m) : (entsL M)[k]? = some m.e := by unfold entsL; rw [List.getElem?_map, h]; rfl
theorem stsL_at {M : MLedger} {k : Nat} {m : MPlace} (h : M.l[k]? = some m) : (stsL M)[k]? = some m.status := by unfold stsL; rw [List.getElem?_map, h]; rfl
theorem take_snoc {α : Type} {l : List α} {k : Nat} {a : α} (h : l[k]? = some a) : l.take (k + 1) = l.take k ++ [a] := by rw [List.take_add_one, h]; rfl
/-- Names of places are unlike. -/
theorem GoodM.unlike {M : MLedger} {n : Nat} (h : GoodM M n) {j k : Nat} {a b : MPlace} (hj : M.l[j]? = some a) (hk : M.l[k]? = some b) (hjk : j < k) : a.e.name ≠ b.e.name := by
  have h1 := h.names
  unfold namesL at h1
  have hj' := List.getElem?_eq_some_iff.1 hj
  have hk' := List.getElem?_eq_some_iff.1 hk
  obtain ⟨lj, rfl⟩ := hj'
  obtain ⟨lk, rfl⟩ := hk'
  have := List.pairwise_iff_getElem.1 h1 j k (by simpa using lj) (by simpa using lk) hjk
  simpa using this
/-- Entries of places rise. -/
theorem GoodM.rises {M : MLedger} {n : Nat} (h : GoodM M n) {j k : Nat} {a b : MPlace} (hj : M.l[j]? = some a) (hk : M.l[k]? = some b) (hjk : j < k) : entLt a.e b.e := by
  have h1 := h.rise
  obtain ⟨lj, rfl⟩ := List.getElem?_eq_some_iff.1 hj
  obtain ⟨lk, rfl⟩ := List.getElem?_eq_some_iff.1 hk
  have := List.pairwise_iff_getElem.1 h1 j k (by simpa using lj) (by simpa using lk) hjk
  simpa using this
theorem lessB_of {a b : GName} (h : nameLt a b) : lessB a b = true := by
  unfold lessB nameLt at *
  simp only [Bool.or_eq_true, Bool.and_eq_true, decide_eq_true_eq]
  exact h
end Go.Proofs.Yteockodnfempfaa
/- LedgerGrows returns true, walked. Conditions: those named in each theorem. -/
namespace Go.Proofs.Yteockodnfempfaa
open Go Go.RowKit Go.Gv Go.Sort

def stsI (M : MLedger) : List I64 := M.l.map fun m => ⟨m.status⟩
theorem stsI_at {M : MLedger} {k : Nat} {m : MPlace} (h : M.l[k]? = some m) : (stsI M)[k]? = some ⟨m.status⟩ := by unfold stsI; rw [List.getElem?_map, h]; rfl
theorem stsI_len (M : MLedger) : (stsI M).length = M.l.length := by unfold stsI; simp
theorem entsL_len (M : MLedger) : (entsL M).length = M.l.length := by unfold entsL; simp
theorem own_q {α : Type} [Enc α] {w : World} {base : Nat} {e : TypeId} {v : Value} {xs : List α} {U : Nat → Prop} {n : Nat} (h : OwnS w base e v xs) (hn : xs.length = n) (hU : ∀ q, U q → q < base) : ∃ A c, v = .slice A n c ∧ SlQ α (fun q => ¬ U q) w ⟨A, n, c⟩ xs := by
  subst hn
  obtain ⟨hd, rfl, hl, hq⟩ := OwnS.slQ h
  cases hd
  simp only at hl
  subst hl
  exact ⟨_, _, rfl, hq.mono (fun k _ hk hu => by have := hU k hu; have := hk.1; omega)⟩
def ApartV (a b : Value) : Prop := ∀ q, a.ownBlock = some q → b.ownBlock ≠ some q
theorem ApartV.sym {a b : Value} (h : ApartV a b) : ApartV b a := fun q hb ha => h q ha hb
theorem ApartV.kept {a b : Value} (h : ApartV a b) : b.ownBlock = none ∨ b.ownBlock ≠ a.ownBlock := by
  cases hb : b.ownBlock with
  | none => exact .inl rfl
  | some q => exact .inr fun e => h q e.symm hb
theorem ApartV.app {a a' b : Value} {w : World} (h : ApartV a b) (ho : a'.ownBlock = a.ownBlock ∨ a'.ownBlock = some w.heap.size) (hb : ∀ q, b.ownBlock = some q → q < w.heap.size) : ApartV a' b := fun q hq hbq => by
  rcases ho with e | e
  · exact h q (by rw [← e]; exact hq) hbq
  · rw [e] at hq
    injection hq with hq
    have := hb q hbq
    omega
/-- A ledger, and what the law keeps of it: its entries and statuses. -/
def GrowAt (w0 w : World) (g : Nat) (M : MLedger) (lv sv : Value) : Prop := ∃ (S U : Nat → Prop) (la sa : Option Addr) (lc sc : Nat), LedgerIs w g S U M ∧ (∀ q, U q → w0.heap.size ≤ q) ∧ Bel w0 w ∧ lv = .slice la M.l.length lc ∧ sv = .slice sa M.l.length sc ∧ SlQ GEntry (fun q => ¬ U q) w ⟨la, M.l.length, lc⟩ (entsL M) ∧ SlQ I64 (fun q => ¬ U q) w ⟨sa, M.l.length, sc⟩ (stsI M)
theorem slq_apply {α : Type} [Enc α] {hd : Hdr} {xs : List α} {S U U' : Nat → Prop} {wr wc wd : World} (h : SlQ α (fun q => ¬ U q) wr hd xs) (hb : Bel wr wc) (hS : ∀ q, S q → U q) (hU : ∀ q, U' q → U q ∨ wc.heap.size ≤ q) (hC : Chg S wc wd) : SlQ α (fun q => ¬ U' q) wd hd xs :=
  (((h.bel hb).mono (Q' := fun q => ¬ U' q ∧ ¬ S q) (fun q hq hn => ⟨fun h3 => by rcases hU q h3 with h4 | h4; exact hn h4; omega, fun hs => hn (hS q hs)⟩)).chg hC (fun q hq => hq.2)).mono (fun q _ h => h.1)
theorem entry_at (M : MLedger) {p : Nat} {m : MPlace} (hm : M.l[p]? = some m) : entryR M (p : Int) = m.e ∧ inB M (p : Int) = true ∧ statusR M (p : Int) = m.status := by
  have hl : p < M.l.length := (List.getElem?_eq_some_iff.1 hm).1
  have hin : inB M (p : Int) = true := by unfold inB; simp; omega
  refine ⟨?_, hin, ?_⟩
  · unfold entryR; rw [if_pos hin, Int.toNat_natCast, hm]; rfl
  · unfold statusR; rw [if_pos hin, Int.toNat_natCast, hm]; rfl
set_option maxRecDepth 100000 in
set_option maxHeartbeats 8000000 in
theorem ledgerGrows_any (A : Option Addr) (n c : Nat) (xs : List GBatch) (w : World) (hx : Sl GBatch w w.heap.size A n xs) (hox : ∀ x ∈ xs, ok74 w x) (hn : n ≤ maxLen) :
    Calls Try.prog 14 #[.slice A n c] w fun e w' => e = .returned (.bool true) ∧ Bel w w' := by
  unfold maxLen at hn
  have HX := Lib.hid hx; have HOX := Lib.hid hox; clear hx hox
  go_enter Try.func14, Try.ntmps14
  go_upto_block 0 with (first | (go_at_call 41; refine (newLedger_any _).mono ?_; rintro _ w1 ⟨g, S, U, rfl, hL, hU, hb⟩; have HA := Lib.hid (show GrowAt w w1 g ⟨0, 0, [], 0⟩ (.slice none 0 0) (.slice none 0 0) from ⟨S, U, none, none, 0, 0, hL, hU, hb, rfl, rfl, ⟨Sl.nil, Nat.le_refl _, Nat.zero_le _, fun h => absurd h (Nat.lt_irrefl 0)⟩, ⟨Sl.nil, Nat.le_refl _, Nat.zero_le _, fun h => absurd h (Nat.lt_irrefl 0)⟩⟩); clear hL hU hb) | fail)
  go_cut [4, 5, 6] (fun _ _ _ wx => Bel w wx)
  case first =>
    go_wp2_with fail
    go_loopw [4, 5, 6] (fun lv sv i wr => ∃ (k : Nat) (M : MLedger), k ≤ n ∧ k ≤ 8 ∧ i = .int .i64 k ∧ GrowAt w wr g M lv sv ∧ GoodM M k) (fun _ _ i _ => 9 - (intOf i).toNat)
    case atStart => exact ⟨0, _, by omega, by omega, rfl, HA.out, GoodM.zero⟩
    case round =>
      obtain ⟨k, M, hk, hk8, rfl, hA, hG⟩ := hrel
      have HG := Lib.hid hG
      obtain ⟨S2, U2, la, sa, lc, sc, hL2, hU2, hB2, rfl, rfl, hq1, hq2⟩ := hA
      by_cases hcont : k < n ∧ k < 8
      · obtain ⟨hlt, hlt8⟩ := hcont
        obtain ⟨ad, x, rfl, _, hxk, hgx⟩ := (HX.out.stepB hB2).at_ (k := k) hlt
        obtain ⟨R, hR⟩ := raw_of (HOX.out x (List.mem_of_getElem? hxk))
        change get? GBatch wr (ad.add (k * 5)) = some x at hgx
        have HR := Lib.hid (hR.bel hB2); have HL := Lib.hid hL2; have HU := Lib.hid hU2; have HB := Lib.hid hB2
        have HQ1 := Lib.hid hq1; have HQ2 := Lib.hid hq2
        have hUlt := Lib.hid hL2.ltU
        obtain ⟨n0, hn0⟩ : ∃ n0, M.l.length = n0 := ⟨_, rfl⟩
        rw [hn0] at HQ1 HQ2 ⊢
        have HN0 := Lib.hid hn0
        have hlt2 : (k : Int) < (n : Int) := by omega
        have hlt55 : (k : Int) < 8 := by omega
        clear hxk hR hL2 hU2 hB2 hG hq1 hq2 hn0
        go_wp2_with fail
        have hlt3 : k < n := hlt
        have hk0 : (0 : Int) ≤ (k : Int) := by omega
        refine wp_region_G GB [10] GB.rf (by kernel_rfl) ?_
        refine wpG_looks 2 11 [0,1,2,3,4,5,6,7,8] rfl GB.rf GB.tr (by kernel_rfl) (fun _ _ _ _ hd h => And.intro (hd ▸ And.left h) (And.right h)) rfl (by kernel_rfl) ?_
        intro ι W hne CW
        have g1 := fun z => (CW.out z).get hgx
        repeat (refine wpLooksG_step (fun K hK => ?_); go_simp; refine hK _ ?_; clear hK K)
        refine wpLooksG_step (fun K hK => ?_); go_simp
        refine ⟨_, fun z => quietG (epoch_any g S2 U2 M (W z) (HL.out.bel (CW.out z).undrew)) (fun _ _ h => ⟨h.1, h.2.symm⟩), hK _ ?_⟩
        clear hK K
        repeat (refine wpLooksG_step (fun K hK => ?_); go_simp; refine hK _ ?_; clear hK K)
        refine wpLooksG_step (fun K hK => ?_); go_simp
        refine ⟨_, fun z => quietG (last_any g S2 U2 M (W z) (HL.out.bel (CW.out z).undrew)) (fun _ _ h => ⟨h.1, h.2.symm⟩), hK _ ?_⟩
        clear hK K
        refine wpLooksG_nil ?_
        clear g1 CW hne W ι
        refine wpG_force 9 _ rfl (by kernel_rfl) rfl fun wa hwa K hK => ?_
        go_simp
        refine (smallB_any x R M.epoch M.last wa (HR.out.bel hwa.undrew) HG.out.last0 (by have := HG.out.last1; omega)).mono ?_
        rintro _ wb ⟨y, rfl, hy, hbb⟩
        refine hK _ _ (fun _ => hbb) ?_
        clear hK K
        refine wpG_force 10 _ rfl (by kernel_rfl) rfl fun wc hwc K hK => ?_
        go_simp
        have hbc : Bel wr wc := (hwa.undrew.trans hbb).trans hwc
        refine (apply_any g S2 U2 M y (smallM R M.epoch M.last) (fun q => wa.heap.size ≤ q) wc (HL.out.bel hbc) (hy.bel hwc) (fun q hq hu => by have := hUlt.out q hu; have := hwa.undrew.size; omega) HG.out.epoch0 (by have := HG.out.epoch1; omega) (by have := HG.out.len; omega) (by have := small_flat R M.epoch M.last; omega)).mono ?_
        rintro _ wd ⟨M', n', c', S3, U3, hst, rfl, hL3, hU3, hC3⟩
        have HG3 := Lib.hid (hst.good HG.out)
        have HK := Lib.hid hst.keep
        have HQ1d := Lib.hid (slq_apply HQ1.out hbc HL.out.sub hU3 hC3)
        have HQ2d := Lib.hid (slq_apply HQ2.out hbc HL.out.sub hU3 hC3)
        have HBd := Lib.hid (Chg.bel2 (HB.out.trans hbc) hC3 (fun q hq => HU.out q (HL.out.sub q hq)))
        have HUd := Lib.hid (show ∀ q, U3 q → w.heap.size ≤ q from fun q hq => by
          rcases hU3 q hq with h | h
          · exact HU.out q h
          · have := (HB.out.trans hbc).size
            omega)
        have hle := hst.done.2
        obtain ⟨n1, hn1⟩ : ∃ n1, M'.l.length = n1 := ⟨_, rfl⟩
        rw [HN0.out, hn1] at hle
        have HN1 := Lib.hid hn1
        have hn1b := HG3.out.len
        rw [hn1] at hn1b
        refine hK _ _ (fun h => absurd (by simp) h) ?_
        clear hK K hst hU3 hC3 hbc hwc hbb hy hwa hgx hn1
        refine wpG_end (by kernel_rfl) (fun wn hwn => ?_) _
        have HL4 := Lib.hid (hL3.bel hwn); have HQ1n := Lib.hid (HQ1d.out.bel hwn); have HQ2n := Lib.hid (HQ2d.out.bel hwn); have HBn := Lib.hid (HBd.out.trans hwn)
        have HUL := Lib.hid (HL4.out.ltU)
        have HPAY := Lib.hid (show ∀ m ∈ M'.l, m.pay.length ≤ 1000000 from fun m hm => Nat.le_trans (HG3.out.pays m hm) (by omega))
        clear hwn hL3 HQ1d HQ2d HBd HQ1 HQ2 HB
        have hge : decide (n1 < n0) = false := by simp; omega
        have hge2 : decide ((n1 : Int) < (n0 : Int)) = false := by simp; omega
        go_wp2_with fail
        refine (lenL_any g S3 U3 M' _ HL4.out).mono ?_
        rw [HN1.out]
        rintro _ w5 ⟨rfl, h5⟩
        obtain rfl : wn = w5 := by first | exact h5 | exact h5.symm
        go_wp2_with fail
        go_loopw [7, 8, 9] (fun a b i wi => ∃ p : Nat, p ≤ n1 ∧ i = .int .i64 p ∧ OwnS wi wn.heap.size 30 a ((entsL M').take p) ∧ OwnS wi wn.heap.size 3 b ((stsI M').take p) ∧ ApartV a b ∧ Bel wn wi) (fun _ _ i _ => n1 - (intOf i).toNat)
        case atStart => exact ⟨0, by omega, rfl, OwnS.nil _ _ _, OwnS.nil _ _ _, fun q h => by simp [Value.ownBlock] at h, Bel.refl _⟩
        case round =>
          obtain ⟨p, hp, rfl, hown, hows, hap, hbi⟩ := hrel
          obtain ⟨wi, rfl⟩ : ∃ wi : World, wi = wr := ⟨_, rfl⟩
          by_cases hltp : p < n1
          · obtain ⟨m, hm⟩ : ∃ m, M'.l[p]? = some m := ⟨_, List.getElem?_eq_getElem (by rw [HN1.out]; exact hltp)⟩
            have hp2 : (p : Int) < (n1 : Int) := by omega
            obtain ⟨hre, hri, hrs⟩ := entry_at M' hm
            have HRE := Lib.hid hre; have HRI := Lib.hid hri; have HRS := Lib.hid hrs
            have hstt := HG3.out.stat m (List.mem_of_getElem? hm)
            have HM := Lib.hid hm
            have hlp : ((entsL M').take p).length = p := by rw [List.length_take, entsL_len, HN1.out]; omega
            have hls : ((stsI M').take p).length = p := by rw [List.length_take, stsI_len, HN1.out]; omega
            have HLP := Lib.hid hlp; have HLS := Lib.hid hls
            obtain ⟨pa, pc, hpv, hoa, _, _⟩ := OwnS.ownA hown
            rw [hlp] at hpv
            have HOA := Lib.hid hoa
            subst hpv
            have HO := Lib.hid hown; have HOS := Lib.hid hows; have HAP := Lib.hid hap; have HBI := Lib.hid hbi
            clear hre hri hrs hm hlp hls hoa hown hows hap hbi
            go_wp2_with fail
            refine (lenL_any g S3 U3 M' _ (HL4.out.bel HBI.out)).mono ?_
            rw [HN1.out]
            rintro _ w5 ⟨rfl, h5⟩
            obtain rfl : wi = w5 := by first | exact h5 | exact h5.symm
            go_wp2_with fail
            refine (entry_any g S3 U3 M' (p : Int) _ (HL4.out.bel HBI.out)).mono ?_
            rintro _ w5 ⟨rfl, hb5⟩
            rw [HRE.out, HRI.out]
            have hge5 := get?_new (w := w5) 30 m.e
            have hb6 : Bel wi (w5.alloc (.cells m.e.enc.toArray 30)) := Bel.alloc hb5 _
            have HE5 := Lib.hid hge5; have HB6 := Lib.hid hb6
            clear hb5 hge5 hb6
            go_wp2_with fail
            refine (status_any g S3 U3 M' (p : Int) _ (HL4.out.bel (HBI.out.trans HB6.out)) HPAY.out).mono ?_
            rintro _ w6 ⟨v6, rfl, hv6, hb6⟩
            rw [HRS.out]
            obtain ⟨ge, hge6⟩ : ∃ ge, w5.heap.size = ge := ⟨_, rfl⟩
            rw [hge6] at HE5 ⊢
            have HE6 := Lib.hid (GB.get hb6 HE5.out); have HBX := Lib.hid (HB6.out.trans hb6)
            clear hv6 hb6 hge6 HE5 HB6
            have HBN := Lib.hid (HBI.out.trans HBX.out)
            go_upto_region 19 with fail
            go_cut [100] (fun v wx => v = .bool false ∧ Bel w6 wx)
            case first =>
              have hs1 : decide (m.status < 1) = false := by simp; omega
              have hs3 : decide (3 < m.status) = false := by simp; omega
              have hge7 := HE6.out
              by_cases hpn : p < n0
              · have hpn2 : (p : Int) < (n0 : Int) := by omega
                have hp0 : (0 : Int) ≤ (p : Int) := by omega
                obtain ⟨m0, hm0⟩ : ∃ m0, M.l[p]? = some m0 := ⟨_, List.getElem?_eq_getElem (by rw [HN0.out]; exact hpn)⟩
                obtain ⟨m1, hm1, hme, hms⟩ := HK.out p m0 hm0
                rw [HM.out] at hm1; injection hm1 with hm1; subst hm1
                obtain ⟨qa, y, rfl, _, hyk, hgy⟩ := (HQ1n.out.bel HBN.out).1.at_ (k := p) hpn
                rw [entsL_at hm0] at hyk; injection hyk with hyk; subst hyk
                rw [← hme] at hgy
                change get? GEntry w6 (qa.add (p * 35)) = some m.e at hgy
                obtain ⟨ra, z, rfl, _, hzk, hgz⟩ := (HQ2n.out.bel HBN.out).1.at_ (k := p) hpn
                rw [stsI_at hm0] at hzk; injection hzk with hzk; subst hzk
                have hgz2 := get1 (x := (⟨m0.status⟩ : I64)) rfl hgz
                rw [show Enc.n I64 = 1 from rfl, Nat.mul_one] at hgz2
                simp only at hgz2
                by_cases h1 : m0.status = 1
                · have hb1 : (m0.status != 1) = false := by simp [h1]
                  clear hms hm0 hme hgz h1
                  go_wp2_with fail
                  go_big_quiet (fail)
                  go_wp2_with fail
                  go_meet
                  exact ⟨rfl, (Bel.refl w6).drewN _⟩
                · have hb1 : (m0.status != 1) = true := by simp [h1]
                  have hsm := hms h1
                  subst hsm
                  have hb2 : (m.status != m.status) = false := by simp
                  clear hms hm0 hme hgz h1
                  go_wp2_with fail
                  go_big_quiet (fail)
                  go_wp2_with fail
                  go_meet
                  exact ⟨rfl, (Bel.refl w6).drewN _⟩
              · have hpn2 : decide ((p : Int) < (n0 : Int)) = false := by simp; omega
                go_wp2_with fail
                go_big_quiet (fail)
                go_wp2_with fail
                go_meet
                exact ⟨rfl, (Bel.refl w6).drewN _⟩
            case rest =>
              obtain ⟨rfl, hbx⟩ := hcut
              obtain ⟨w7, rfl⟩ : ∃ w7 : World, w7 = wc := ⟨_, rfl⟩
              have HE7 := Lib.hid (GB.get hbx HE6.out); have HBX7 := Lib.hid (HBX.out.trans hbx)
              clear hbx HE6 HBX HBN
              have hge7 : get? GName w7 ⟨ge, 0, none⟩ = some m.e.name := by
                have := GEntry.at_name HE7.out
                rwa [Addr.add_zero'] at this
              have HOA7 := Lib.hid (OwnA.stepB HOA.out HBX7.out)
              go_wp2_with fail
              go_loopw [103] (fun j wj => ∃ jn : Nat, jn ≤ p ∧ j = .int .i64 jn ∧ ∃ q, wj = w7.drewN q) (fun j _ => p - (intOf j).toNat)
              case atStart => exact ⟨0, by omega, rfl, 0, rfl⟩
              case round =>
                obtain ⟨jn, hjn, rfl, q, rfl⟩ := hrel
                by_cases hltj : jn < p
                · obtain ⟨a, ha⟩ : ∃ a, M'.l[jn]? = some a := ⟨_, List.getElem?_eq_getElem (by rw [HN1.out]; omega)⟩
                  have hne := HG3.out.unlike ha HM.out hltj
                  obtain ⟨qa, y, rfl, _, hyk, hgy⟩ := HOA7.out.sl.at_ (k := jn) (by rw [HLP.out]; exact hltj)
                  rw [List.getElem?_take_of_lt hltj, entsL_at ha] at hyk; injection hyk with hyk; subst hyk
                  change get? GEntry w7 (qa.add (jn * 35)) = some a.e at hgy
                  have hgy2 : get? GName w7 (qa.add (jn * 35)) = some a.e.name := by have := GEntry.at_name hgy; simpa [Addr.add] using this
                  have hde : decide (a.e.name = m.e.name) = false := by simpa using hne
                  have hj2 : (jn : Int) < (p : Int) := by omega
                  have hj0 : (0 : Int) ≤ (jn : Int) := by omega
                  clear ha hgy
                  go_wp2_with fail
                  go_big_quiet (fail)
                  go_wp2_with fail
                  exact ⟨⟨jn + 1, by omega, by go_num, _, rfl⟩, by simp [intOf]; omega⟩
                · clear hge7
                  have hj3 : ¬ ((jn : Int) < (p : Int)) := by omega
                  obtain ⟨w8, hw8⟩ : ∃ w8 : World, w7.drewN q = w8 := ⟨_, rfl⟩
                  have hb78 : Bel w7 w8 := by rw [← hw8]; exact (Bel.refl w7).drewN _
                  have HE8 := Lib.hid (GB.get hb78 HE7.out); have HBX8 := Lib.hid (HBX7.out.trans hb78)
                  have HOA8 := Lib.hid (OwnA.stepB HOA.out HBX8.out)
                  rw [hw8]
                  clear hb78 hw8 HE7 HBX7 HOA7
                  go_upto_region 27 with fail
                  go_cut [150] (fun v wx => v = .bool false ∧ Bel w8 wx)
                  case first =>
                    have ke : get? GName w8 ⟨ge, 0, none⟩ = some m.e.name := by
                      have := GEntry.at_name HE8.out
                      rwa [Addr.add_zero'] at this
                    have kt : w8.cell? ⟨ge, 34, none⟩ = some (.int .u64 m.e.time) := cell_off (by omega) (GEntry.at_time HE8.out)
                    by_cases hp0 : p = 0
                    · have hp00 : decide (0 < p) = false := by simp; omega
                      have hp01 : decide ((0 : Int) < (p : Int)) = false := by simp; omega
                      clear ke kt hp0
                      go_wp2_with fail
                      go_big_quiet (fail)
                      go_wp2_with fail
                      go_meet
                      exact ⟨rfl, (Bel.refl w8).drewN _⟩
                    · obtain ⟨p1, hp1⟩ : ∃ p1, p = p1 + 1 := ⟨p - 1, by omega⟩
                      have hp00 : decide (0 < p) = true := by simp; omega
                      have hp01 : 0 < p := by omega
                      have hp02 : decide ((0 : Int) < (p : Int)) = true := by simp; omega
                      have hpw : IntKind.i64.wrap ((p : Int) - 1) = (p1 : Int) := by rw [IntWalk.i64_in _ (by omega)]; omega
                      have hpi0 : (0 : Int) ≤ (p1 : Int) := by omega
                      have hpi1 : (p1 : Int) < (p : Int) := by omega
                      obtain ⟨a, ha⟩ : ∃ a, M'.l[p1]? = some a := ⟨_, List.getElem?_eq_getElem (by rw [HN1.out]; omega)⟩
                      have hri := HG3.out.rises ha HM.out (by omega)
                      obtain ⟨qa, y, rfl, _, hyk, hgy⟩ := HOA8.out.sl.at_ (k := p1) (by rw [HLP.out]; omega)
                      rw [List.getElem?_take_of_lt (by omega), entsL_at ha] at hyk; injection hyk with hyk; subst hyk
                      change get? GEntry w8 (qa.add (p1 * 35)) = some a.e at hgy
                      have kpn : get? GName w8 (qa.add (p1 * 35)) = some a.e.name := by have := GEntry.at_name hgy; simpa [Addr.add] using this
                      have kpt : w8.cell? ⟨qa.block, (qa.add (p1 * 35)).off + 34, none⟩ = some (.int .u64 a.e.time) := by
                        have := cell_off (by omega) (GEntry.at_time hgy)
                        rwa [add_block] at this
                      clear ha hgy hp1 hp0
                      rcases hri with hlt | ⟨heq, hnl⟩
                      · have hd1 : decide (m.e.time < a.e.time) = false := by simp; omega
                        have hd2 : (m.e.time == a.e.time) = false := by simp; omega
                        clear hlt
                        go_wp2_with fail
                        go_big_quiet (fail)
                        go_wp2_with fail
                        go_meet
                        exact ⟨rfl, (Bel.refl w8).drewN _⟩
                      · have hd1 : decide (m.e.time < a.e.time) = false := by simp; omega
                        have hd2 : (m.e.time == a.e.time) = true := by simp; omega
                        have hle3 := lessB_of hnl
                        clear heq hnl
                        go_wp2_with fail
                        refine wp_region_G GB [] GB.rf (by kernel_rfl) ?_
                        refine wpG_looks 0 36 [0,1,2,3,4,5,6,7,8,9,10,11,12,13,14,15,16,17,18,19,20,21,22,23,24,25,26,27,28,29,30,31,32,33,34,35] rfl GB.rf GB.tr (by kernel_rfl) (fun _ _ _ _ hd h => And.intro (hd ▸ And.left h) (And.right h)) rfl (by kernel_rfl) ?_
                        intro ι W hne CW
                        have g1 := fun z => (CW.out z).get ke
                        have g2 := fun z => (CW.out z).cell kt
                        have g3 := fun z => (CW.out z).get kpn
                        have g4 := fun z => (CW.out z).cell kpt
                        repeat (refine wpLooksG_step (fun K hK => ?_); go_simp; refine hK _ ?_; clear hK K)
                        refine wpLooksG_step (fun K hK => ?_); go_simp
                        refine ⟨_, fun z => less_any a.e.name m.e.name (W z), hK _ ?_⟩
                        clear hK K
                        repeat (refine wpLooksG_step (fun K hK => ?_); go_simp; refine hK _ ?_; clear hK K)
                        refine wpLooksG_nil ?_
                        clear g1 g2 g3 g4 CW hne W ι
                        refine wpG_end (by kernel_rfl) (fun wd hwd => ?_) _
                        go_wp2_with fail
                        go_meet
                        exact ⟨rfl, hwd.undrew⟩
                  case rest =>
                    obtain ⟨rfl, hbx⟩ := hcut
                    obtain ⟨w9, rfl⟩ : ∃ w9 : World, w9 = wc := ⟨_, rfl⟩
                    have hge9 := GB.get hbx HE8.out
                    have HBX9 := Lib.hid (HBX8.out.trans hbx)
                    have hzb := (HBI.out.trans HBX9.out).size
                    have HO9 := Lib.hid ((OwnS.step HO.out HBX9.out).alloc (.cells m.e.enc.toArray 30))
                    have HS9 := Lib.hid ((OwnS.step HOS.out HBX9.out).alloc (.cells m.e.enc.toArray 30))
                    have HB9 := Lib.hid ((HBI.out.trans HBX9.out).alloc (.cells m.e.enc.toArray 30))
                    clear hbx HE8 HBX8 HOA8
                    go_wp2
                    generalize hrun : Sem.run _ (gAppend _ _ _) _ = rr
                    obtain ⟨v', w', rfl, ho, hg, hob⟩ := append_spec hrun ei22 HO9.out (Sl.new_ (B := w9.heap.size + 1) (xs := [m.e]) (by simp; rfl) rfl rfl (by omega)) (by rw [HLP.out]; unfold maxLen; omega) (by rw [HLP.out]; omega) (by simp only [World.size_alloc]; omega)
                    clear hrun
                    have hs1 := HS9.out.kept hg HAP.out.kept
                    have hap1 := HAP.out.app hob (fun q hq => (HS9.out.lt q hq).2)
                    have hb1 : Bel wn w' := HB9.out.appS hg HO9.out (Nat.le_refl _)
                    rw [← take_snoc (entsL_at HM.out)] at ho
                    have HO2 := Lib.hid (ho.alloc (.cells #[.int .i64 m.status] 3)); have HS2 := Lib.hid (hs1.alloc (.cells #[.int .i64 m.status] 3)); have HAP2 := Lib.hid hap1; have HB2 := Lib.hid (hb1.alloc (.cells #[.int .i64 m.status] 3))
                    have HZ2 := Lib.hid (hb1.size)
                    clear ho hs1 hap1 hb1 hg hob HO9 HS9 HB9 hzb
                    go_wp2
                    generalize hrun : Sem.run _ (gAppend _ _ _) _ = rr
                    obtain ⟨v2, w2, rfl, ho, hg, hob⟩ := append_spec hrun ei45 HS2.out (Sl.new_ (B := w'.heap.size + 1) (xs := [(⟨m.status⟩ : I64)]) (by rw [List.flatMap_cons, List.flatMap_nil, List.append_nil]; rfl) rfl rfl (by omega)) (by rw [HLS.out]; unfold maxLen; omega) (by rw [HLS.out]; omega) (by have := HZ2.out; simp only [World.size_alloc]; omega)
                    clear hrun
                    have hs1 := HO2.out.kept hg HAP2.out.sym.kept
                    have hap1 := (HAP2.out.sym.app hob (fun q hq => (HO2.out.lt q hq).2)).sym
                    have hb1 : Bel wn w2 := HB2.out.appS hg HS2.out (Nat.le_refl _)
                    rw [← take_snoc (stsI_at HM.out)] at ho
                    have HO3 := Lib.hid hs1; have HS3 := Lib.hid ho; have HAP3 := Lib.hid hap1; have HB3 := Lib.hid hb1
                    clear ho hs1 hap1 hb1 hg hob HO2 HS2 HAP2 HB2
                    go_wp2
                    exact ⟨⟨p + 1, by omega, by go_num, HO3.out, HS3.out, HAP3.out, HB3.out⟩, by simp [intOf]; omega⟩
          · have hpe : n1 = p := by omega
            subst hpe
            have hle1 : (entsL M').length = n1 := by rw [entsL_len, HN1.out]
            have hls1 : (stsI M').length = n1 := by rw [stsI_len, HN1.out]
            rw [List.take_of_length_le (by omega)] at hown hows
            obtain ⟨A1, c1, rfl, hqa⟩ := own_q hown hle1 HUL.out
            obtain ⟨A2, c2, rfl, hqb⟩ := own_q hows hls1 HUL.out
            have HQA := Lib.hid hqa; have HQB := Lib.hid hqb; have HBI := Lib.hid hbi
            clear hown hows hap hbi hqa hqb hle1 hls1
            go_wp2_with fail
            refine (lenL_any g S3 U3 M' _ (HL4.out.bel HBI.out)).mono ?_
            rw [HN1.out]
            rintro _ w5 ⟨rfl, h5⟩
            obtain rfl : wi = w5 := by first | exact h5 | exact h5.symm
            go_wp2_with fail
            exact ⟨⟨k + 1, M', by omega, by omega, by go_num, ⟨S3, U3, A1, A2, c1, c2, HL4.out.bel HBI.out, HUd.out, HBn.out.trans HBI.out, by rw [HN1.out], by rw [HN1.out], by rw [HN1.out]; exact HQA.out, by rw [HN1.out]; exact HQB.out⟩, HG3.out⟩, by simp [intOf]; omega⟩
      · have hstop : (n : Int) ≤ (k : Int) ∨ ((k : Int) < (n : Int) ∧ 8 ≤ (k : Int)) := by omega
        have HB2 := Lib.hid hB2
        clear hcont hL2 hU2 hB2 hG hq1 hq2
        rcases hstop with hs | ⟨hs, hs2⟩
        all_goals
          go_wp2_with fail
          go_meet
          exact HB2.out
  case rest =>
    obtain ⟨w2, rfl⟩ : ∃ w2 : World, w2 = wc := ⟨_, rfl⟩
    have HB2 := Lib.hid hcut
    clear hcut
    go_wp2_with fail
    refine (wakesL_any _).mono ?_
    rintro _ w7 ⟨rfl, hb7⟩
    have HB7 := Lib.hid (HB2.out.trans hb7); clear hb7
    go_wp2_with fail
    go_ret
    exact ⟨rfl, HB7.out⟩
end Go.Proofs.Yteockodnfempfaa
