/- LedgerPlays returns true, walked. Conditions: those named in each theorem. -/
import Derived.Test.YteockodnfempfaaP15
import Derived.Shelf.SlMaps.Clone
import Derived.Test.YteockodnfempfaaP13
import Derived.Test.YteockodnfempfaaP14
import Derived.Test.YteockodnfempfaaP12
/- What the looking calls of the document's ledger compute. Conditions: those named in each theorem. -/
namespace Go.Proofs.Yteockodnfempfaa
open Go Go.RowKit Go.Gv Go.Sort

def Status15 (M : MLedger) (i : Int) (w : World) (e : Ending) (w' : World) : Prop := ∃ h : Hdr, e = .returned (.tuple #[.int .i64 (statusR M i), h.val]) ∧ Sl U8 w w.heap.size h.a h.len (payR M i) ∧ h.len ≤ maxLen ∧ ∃ n, w' = w.drewN n
theorem status15_any (g : Nat) (S U : Nat → Prop) (M : MLedger) (i : Int) (w : World) (h : RefIs w g S U M) :
    Calls Try.prog 90 #[.pointer (some ⟨g, 0, none⟩), .int .i64 i] w (Status15 M i w) := by
  obtain ⟨A, c, hg, hlc, hcm, hls⟩ := h.list
  obtain ⟨_, _, f2, _⟩ := ref_cells hg
  obtain ⟨n, hn⟩ : ∃ n, M.l.length = n := ⟨_, rfl⟩
  simp only [hn] at f2
  by_cases h0 : 0 ≤ i
  · obtain ⟨d, rfl⟩ := Int.eq_ofNat_of_zero_le h0
    by_cases h1 : d < n
    · obtain ⟨m, hm⟩ : ∃ m, M.l[d]? = some m := ⟨_, List.getElem?_eq_getElem (by rw [hn]; exact h1)⟩
      obtain ⟨pb, x, rfl, hx, hxe, hxs, hpay, _⟩ := hls d m hm
      have f5 : w.cell? ⟨pb, d * 37 + 35, none⟩ = some (.int .i64 m.status) := by
        have := cell_off (by omega) (GRef15Place.at_status hx)
        rw [hxs] at this
        exact this
      have f6 : w.cell? ⟨pb, d * 37 + 36, none⟩ = some (.slice x.payload.a x.payload.len x.payload.cap) := by
        have := cell_off (by omega) (GRef15Place.at_payload hx)
        unfold Hdr.val at this
        exact this
      have hin : inB M (d : Int) = true := by unfold inB; rw [hn]; simp; omega
      have HST := Lib.hid (show statusR M (d : Int) = m.status by unfold statusR; rw [if_pos hin, Int.toNat_natCast, hm]; rfl)
      have HPY := Lib.hid (show payR M (d : Int) = m.pay by unfold payR; rw [if_pos hin, Int.toNat_natCast, hm]; rfl)
      have HP := Lib.hid hpay
      have hd1 : (d : Int) < (n : Int) := by omega
      have hd2 : decide (n ≤ d) = false := by simpa using h1
      have hd3 : decide ((d : Int) < 0) = false := by simp
      have hd0 : (0 : Int) ≤ (d : Int) := by omega
      clear hg hls h hn hlc hcm hm hx hxe hxs hin hpay
      go_enter Try.func90, Try.ntmps90
      go_wp2_with fail
      go_big_quiet (fail)
      go_wp2_with fail
      go_ret2
      exact ⟨x.payload, by rw [HST.out]; rfl, by rw [HPY.out]; exact HP.out.1, Nat.le_trans HP.out.2.1 HP.out.2.2.1, _, rfl⟩
    · have hin : inB M (d : Int) = false := by unfold inB; rw [hn]; simp; omega
      have HST := Lib.hid (show statusR M (d : Int) = 0 by unfold statusR; rw [if_neg (by rw [hin]; decide)])
      have HPY := Lib.hid (show payR M (d : Int) = [] by unfold payR; rw [if_neg (by rw [hin]; decide)])
      have hd2 : decide (n ≤ d) = true := by simp; omega
      have hd3 : decide ((d : Int) < 0) = false := by simp
      clear hg hls h hn hlc hcm hin
      go_enter Try.func90, Try.ntmps90
      go_wp2
      go_ret2
      exact ⟨⟨none, 0, 0⟩, by rw [HST.out]; rfl, by rw [HPY.out]; exact Sl.nil, Nat.zero_le _, 0, rfl⟩
  · have hin : inB M i = false := by unfold inB; simp; omega
    have HST := Lib.hid (show statusR M i = 0 by unfold statusR; rw [if_neg (by rw [hin]; decide)])
    have HPY := Lib.hid (show payR M i = [] by unfold payR; rw [if_neg (by rw [hin]; decide)])
    have hd2 : decide (i < 0) = true := by simpa using h0
    clear hg hls h hn hlc hcm hin
    go_enter Try.func90, Try.ntmps90
    go_wp2
    go_ret2
    exact ⟨⟨none, 0, 0⟩, by rw [HST.out]; rfl, by rw [HPY.out]; exact Sl.nil, Nat.zero_le _, 0, rfl⟩
theorem index15_at (g : Nat) (S U : Nat → Prop) (M : MLedger) (p : Nat) (m : MPlace) (w : World) (h : RefIs w g S U M) (hm : M.l[p]? = some m) (hnd : ∀ (j : Nat) (a : MPlace), j < p → M.l[j]? = some a → a.e.name ≠ m.e.name) (hl : M.l.length ≤ 1000000) :
    Calls Try.prog 91 #[.pointer (some ⟨g, 0, none⟩), m.e.name.val] w fun e w' => e = .returned (.int .i64 (p : Int)) ∧ Bel w w' := by
  have hk1 := get?_new (w := w) 25 m.e.name
  have hb1 := (Bel.refl w).alloc (.cells m.e.name.enc.toArray 25)
  obtain ⟨A, c, hg, hlc, hcm, hls⟩ := (h.bel hb1).list
  obtain ⟨_, _, f2, _⟩ := ref_cells hg
  obtain ⟨n, hn⟩ : ∃ n, M.l.length = n := ⟨_, rfl⟩
  simp only [hn] at f2
  rw [hn] at hl
  have hpn : p < n := by rw [← hn]; exact (List.getElem?_eq_some_iff.1 hm).1
  have HLS := Lib.hid hls; have HN := Lib.hid hn; have HM := Lib.hid hm; have HND := Lib.hid hnd; have HB := Lib.hid hb1; have HK := Lib.hid hk1; have F2 := Lib.hid f2
  clear hk1 hb1 hg hlc hcm hls h hn hm hnd
  go_enter Try.func91, Try.ntmps91
  go_wp2_with fail
  clear f2
  change Hid (get? GName (w.alloc (.cells m.e.name.enc.toArray 25)) ⟨w.heap.size, 0, none⟩ = some m.e.name) at HK
  generalize w.alloc (.cells m.e.name.enc.toArray 25) = w1 at HLS HB HK F2 ⊢
  go_loopw [11] (fun i wr => ∃ j : Nat, j ≤ p ∧ i = .int .i64 j ∧ ∃ q, wr = w1.drewN q) (fun i _ => n - (intOf i).toNat)
  case atStart => exact ⟨0, by omega, rfl, 0, rfl⟩
  case round =>
    obtain ⟨j, hj, rfl, q, rfl⟩ := hrel
    obtain ⟨a, ha⟩ : ∃ a, M.l[j]? = some a := ⟨_, List.getElem?_eq_getElem (by rw [HN.out]; omega)⟩
    obtain ⟨pb, x, rfl, hx, hxe, _⟩ := HLS.out j a ha
    have hgn : get? GName w1 ⟨pb, j * 37, none⟩ = some a.e.name := by
      have h1 := GRef15Place.at_e hx
      rw [Addr.add_zero', hxe] at h1
      have h2 := GEntry.at_name h1
      rw [Addr.add_zero'] at h2
      exact h2
    have hk1 := HK.out; have f2 := F2.out
    have hjn : (j : Int) < (n : Int) := by omega
    have hj0 : (0 : Int) ≤ (j : Int) := by omega
    by_cases hjp : j < p
    · have hd : decide (a.e.name = m.e.name) = false := by simpa using HND.out j a hjp ha
      clear ha hx hxe
      go_wp2_with fail
      go_big_quiet (fail)
      go_wp2_with fail
      exact ⟨⟨j + 1, by omega, by go_num, _, rfl⟩, by simp [intOf]; omega⟩
    · obtain rfl : p = j := by omega
      have ham : a = m := by
        have := HM.out
        rw [ha] at this
        injection this
      have hd : decide (a.e.name = m.e.name) = true := by rw [ham]; simp
      clear ha hx hxe ham
      go_wp2_with fail
      go_big_quiet (fail)
      go_wp2_with fail
      go_ret
      exact ⟨rfl, HB.out.trans (((Bel.refl w1).drewN _).drewN _)⟩
theorem next15_any (g : Nat) (S U : Nat → Prop) (M : MLedger) (w : World) (h : RefIs w g S U M) (h0 : 0 ≤ M.done) :
    Calls Try.prog 92 #[.pointer (some ⟨g, 0, none⟩)] w (NextIs M w) := by
  obtain ⟨A, c, hg, hlc, hcm, hls⟩ := h.list
  obtain ⟨_, _, f2, f3⟩ := ref_cells hg
  obtain ⟨n, hn⟩ : ∃ n, M.l.length = n := ⟨_, rfl⟩
  obtain ⟨d, hd⟩ := Int.eq_ofNat_of_zero_le h0
  simp only [hn] at f2
  simp only [hd] at f3
  by_cases h1 : d < n
  · obtain ⟨m, hm⟩ : ∃ m, M.l[d]? = some m := ⟨_, List.getElem?_eq_getElem (by rw [hn]; exact h1)⟩
    obtain ⟨pb, x, rfl, hx, hxe, hxs, _⟩ := hls d m hm
    have f5 : w.cell? ⟨pb, d * 37 + 35, none⟩ = some (.int .i64 m.status) := by
      have := cell_off (by omega) (GRef15Place.at_status hx)
      rw [hxs] at this
      exact this
    have hin : inB M M.done = true := by unfold inB; rw [hn, hd]; simp; omega
    have hd1 : (d : Int) < (n : Int) := by omega
    have hd2 : decide (n ≤ d) = false := by simpa using h1
    have hd4 : (0 : Int) ≤ (d : Int) := by omega
    have HD := Lib.hid hd
    cases hb : (m.status == 1) with
    | true =>
      have HN := Lib.hid (show nextB M = false by unfold nextB stOpen; rw [hin, hd, Int.toNat_natCast, hm]; simp only; have : m.status = 1 := by simpa using hb
                                                  rw [this]; rfl)
      clear hg hls h hn hlc hcm hm hx hxe hxs hin hd
      go_enter Try.func92, Try.ntmps92
      go_wp2_with fail
      go_big_quiet (fail)
      go_wp2_with fail
      go_ret2
      exact ⟨by rw [HN.out]; simp, _, rfl⟩
    | false =>
      have HN := Lib.hid (show nextB M = true by unfold nextB stOpen; rw [hin, hd, Int.toNat_natCast, hm]; simp only; have : ¬ m.status = 1 := by simpa using hb
                                                 simp [this])
      clear hg hls h hn hlc hcm hm hx hxe hxs hin hd
      go_enter Try.func92, Try.ntmps92
      go_wp2_with fail
      go_big_quiet (fail)
      go_wp2_with fail
      go_ret2
      exact ⟨by rw [HN.out]; simp [HD.out], _, rfl⟩
  · have hin : inB M M.done = false := by unfold inB; rw [hn, hd]; simp; omega
    have hd2 : decide (n ≤ d) = true := by simp; omega
    have HN := Lib.hid (show nextB M = false by unfold nextB; rw [hin]; rfl)
    clear hg hls h hn hlc hcm hin hd
    go_enter Try.func92, Try.ntmps92
    go_wp2_with fail
    go_big_quiet (fail)
    go_wp2_with fail
    go_ret2
    exact ⟨by rw [HN.out]; simp, _, rfl⟩
end Go.Proofs.Yteockodnfempfaa
/- Ledgers cloned: the program's, and the document's. Conditions: those named in each theorem. -/
namespace Go.Proofs.Yteockodnfempfaa
open Go Go.RowKit Go.Gv Go.Sort Go.Proofs

/-- The document's ledger, its struct copied: the list is shared. -/
theorem RefIs.dup {w : World} {g : Nat} {S U : Nat → Prop} {M : MLedger} (h : RefIs w g S U M) {A : Option Addr} {c : Nat} (hg : get? GRef15Ledger w ⟨g, 0, none⟩ = some ⟨M.epoch, M.last, ⟨A, M.l.length, c⟩, M.done⟩) :
    ∃ S' : Nat → Prop, RefIs (w.alloc (.cells (GRef15Ledger.enc ⟨M.epoch, M.last, ⟨A, M.l.length, c⟩, M.done⟩).toArray 120)) w.heap.size S' (fun q => U q ∨ q = w.heap.size) M := by
  obtain ⟨hd, ps, rfl, hSU, hg0, hf, ho, hne, hr⟩ := h
  rw [hg] at hg0
  injection hg0 with hg0
  injection hg0 with _ _ ehd _
  subst ehd
  have hb := (Bel.refl w).alloc (.cells (GRef15Ledger.enc ⟨M.epoch, M.last, ⟨A, M.l.length, c⟩, M.done⟩).toArray 120)
  refine ⟨footR w.heap.size ⟨A, M.l.length, c⟩, ⟨A, M.l.length, c⟩, ps, rfl, ⟨?_, ?_⟩, get?_new _ _, blkFree_new _ _ rfl, ho.alloc _, fun e => ?_, hr.mono fun a b hab => ⟨hab.1, hab.2.1, (hab.2.2.bel hb).mono fun k _ hk => ⟨.inl hk.1, ?_⟩⟩⟩
  · rintro k (rfl | h)
    · exact .inr rfl
    · exact .inl (hSU.1 k (.inr h))
  · rintro k (h | rfl)
    · have := hSU.2 k h; simp; omega
    · simp
  · have := (ho.lt _ e).2; omega
  · rintro (h | h)
    · have := hSU.2 k hk.1; omega
    · exact hk.2 (.inr h)
def RCopyR (U : Nat → Prop) (M : MLedger) (w : World) (e : Ending) (w' : World) : Prop := ∃ (g' : Nat) (S' U' : Nat → Prop), e = .returned (.pointer (some ⟨g', 0, none⟩)) ∧ RefIs w' g' S' U' M ∧ (∀ q, S' q → w.heap.size ≤ q) ∧ (∀ q, U' q → U q ∨ w.heap.size ≤ q) ∧ Bel w w'
def CloneR (U : Nat → Prop) (M : MLedger) (w : World) (e : Ending) (w' : World) : Prop := ∃ (g' : Nat) (S' U' : Nat → Prop), e = .returned (.pointer (some ⟨g', 0, none⟩)) ∧ LedgerIs w' g' S' U' M ∧ (∀ q, S' q → w.heap.size ≤ q) ∧ (∀ q, U' q → U q ∨ w.heap.size ≤ q) ∧ Bel w w'
set_option maxRecDepth 100000 in
theorem rcopy_any (g : Nat) (S U : Nat → Prop) (M : MLedger) (w : World) (h : RefIs w g S U M) (hl : M.l.length ≤ 1000000) :
    Calls Try.prog 62 #[.pointer (some ⟨g, 0, none⟩)] w (RCopyR U M w) := by
  obtain ⟨A, c, hg, _⟩ := h.list
  obtain ⟨S1, hdup⟩ := h.dup hg
  have hg1 := get?_new (w := w) 120 (⟨M.epoch, M.last, ⟨A, M.l.length, c⟩, M.done⟩ : GRef15Ledger)
  have hgo := get?_alloc (.cells (GRef15Ledger.enc ⟨M.epoch, M.last, ⟨A, M.l.length, c⟩, M.done⟩).toArray 120) hg
  obtain ⟨_, _, f2, _⟩ := ref_cells hgo
  simp only at f2
  obtain ⟨A', c', w', S3, U3, hrun, hc3, hz3, hR3, hS3, hU3, hC3⟩ := RefIs.copy hdup hl hg1
  simp only [World.size_alloc] at hS3 hU3
  have HR3 := Lib.hid hR3; have HS3 := Lib.hid hS3; have HU3 := Lib.hid hU3
  have HB3 := Lib.hid (Chg.bel2 ((Bel.refl w).alloc (.cells (GRef15Ledger.enc ⟨M.epoch, M.last, ⟨A, M.l.length, c⟩, M.done⟩).toArray 120)) hC3 (fun q hq => Nat.le_of_eq hq.symm))
  clear h hdup hg1 hgo hR3 hS3 hU3 hC3
  go_enter Try.func62, Try.ntmps62
  go_wp2_with fail
  go_ret
  exact ⟨w.heap.size, S3, U3, rfl, HR3.out, fun q hq => by
    rcases HS3.out q hq with h | h
    · omega
    · omega, fun q hq => by
    rcases HU3.out q hq with (h | h) | h
    · exact .inl h
    · exact .inr (by omega)
    · exact .inr (by omega), HB3.out⟩
theorem clonePl_any (A : Option Addr) (n k : Nat) (ps : List GLedgerPlace) (w : World) (hx : Sl GLedgerPlace w w.heap.size A n ps) (hn : n * 88 ≤ 140737488355328) :
    Calls Try.prog 94 #[.slice A n k] w fun e w' => ∃ v, e = .returned v ∧ OwnS w' w.heap.size 169 v ps ∧ Bel w w' := by
  have H := Lib.hid hx; have HN := Lib.hid hn; clear hx hn
  have hq : ∀ (w : World) (a : Option Addr) (n c : Nat), (binOp .eql 162 (.slice a n c) (.slice none 0 0)).run Try.prog w = .ok (.bool a.isNone) w := fun w a n c => Lib.run_eql_slice_nil w _ _ a n c 0 0 (Try.underlying162)
  cases A with
  | none =>
    have h0 : n = 0 := by
      rcases Nat.eq_zero_or_pos n with h | h
      · exact h
      · obtain ⟨ad, e, _⟩ := H.out.2 h; cases e
    subst h0
    have hbs : ps = [] := List.eq_nil_of_length_eq_zero H.out.1
    subst hbs
    go_enter Try.func94, Try.ntmps94
    go_wp2
    go_ret
    exact ⟨_, rfl, OwnS.nil _ _ _, Bel.refl _⟩
  | some ad =>
    go_enter Try.func94, Try.ntmps94
    go_wp2
    generalize hrun : Sem.run _ (gAppend _ _ _) _ = rr
    have ho0 : OwnS (w.alloc (.cells #[] 169)) w.heap.size 169 (.slice (some ⟨w.heap.size, 0, none⟩) 0 0) ([] : List GLedgerPlace) :=
      ⟨rfl, .inr ⟨w.heap.size, 0, #[], rfl, Nat.le_refl _, heap_alloc_new w _, Nat.le_refl _, Nat.zero_le _, rfl, rfl⟩⟩
    have hn := HN.out
    obtain ⟨v', w', rfl, ho, hg, hob⟩ := append_spec hrun ei162 ho0 (H.out.stepB ((Bel.refl w).alloc _)) (by simp only [List.length_nil]; unfold maxLen; omega) (by simp only [List.length_nil]; omega) (by simp)
    clear hrun hn
    have hbel : Bel w w' := ((Bel.refl w).alloc _).appS hg ho0 (Nat.le_refl _)
    clear ho0 hg hob
    have HO := Lib.hid ho; have HB := Lib.hid hbel
    clear ho hbel
    go_wp2
    go_ret
    exact ⟨_, rfl, HO.out, HB.out⟩
set_option maxRecDepth 100000 in
theorem cloneNames_any (r : Nat) (m : List (GName × Int)) (w : World) (hm : mapAt GName Int w r = some m) :
    Calls Try.prog 95 #[.map (some r)] w fun e w' => ∃ r', e = .returned (.map (some r')) ∧ w.heap.size ≤ r' ∧ mapAt GName Int w' r' = some m ∧ Bel w w' := by
  obtain ⟨es, ck, hb, hrest⟩ := mapAt_iff.1 hm
  have HN := Lib.hid (show mapAt GName Int (w.alloc (.map es ck)) w.heap.size = some m from mapAt_iff.2 ⟨es, ck, heap_alloc_new w _, hrest⟩)
  have hq := fun w => run_eql_map_nil_sl (P := Try.prog) w 161 _ _ (some r) um161
  clear hm hrest
  go_enter Try.func95, Try.ntmps95
  go_wp2
  rw [run_callFunc_extern Try.func124 (by kernel_rfl) (by kernel_rfl) (by kernel_rfl) (e := Extern.MapsClone.clone) (by kernel_rfl), run_maps_clone_sl w 161 hb]
  simp only [Result.andThen]
  rw [Oper.upon_value]
  go_wp2
  rw [run_typeAssert_map_sl _ 161 20 _ _ _ um161]
  simp only [Result.andThen]
  rw [Oper.upon_value]
  go_wp2
  go_ret
  exact ⟨_, rfl, Nat.le_refl _, HN.out, (Bel.refl w).alloc _⟩
set_option maxRecDepth 100000 in
set_option maxHeartbeats 1000000 in
/-- Another ledger, as it is. -/
theorem clone_any (g : Nat) (S U : Nat → Prop) (M : MLedger) (w : World) (h : LedgerIs w g S U M) (hl : M.l.length ≤ 1000000) :
    Calls Try.prog 61 #[.pointer (some ⟨g, 0, none⟩)] w (CloneR U M w) := by
  obtain ⟨⟨A, n, c⟩, r, ps, nm, rfl, hSU, hg, hf, ho, hne, hr, hm, hp⟩ := h
  have hb1 := (Bel.refl w).alloc (.cells (GLedgerLedger.enc ⟨M.epoch, M.last, ⟨A, n, c⟩, some r, M.done⟩).toArray 164)
  have hg1 := get?_new (w := w) 164 (⟨M.epoch, M.last, ⟨A, n, c⟩, some r, M.done⟩ : GLedgerLedger)
  have hf1 : blkFree (w.alloc (.cells (GLedgerLedger.enc ⟨M.epoch, M.last, ⟨A, n, c⟩, some r, M.done⟩).toArray 164)) w.heap.size = true := blkFree_new _ _ rfl
  obtain ⟨_, _, f2, f3, _⟩ := ledger_cells (get?_alloc (.cells (GLedgerLedger.enc ⟨M.epoch, M.last, ⟨A, n, c⟩, some r, M.done⟩).toArray 164) hg)
  simp only at f2 f3
  obtain ⟨A0, c0, hv0, hoa, _, _⟩ := OwnS.ownA (ho.alloc (.cells (GLedgerLedger.enc ⟨M.epoch, M.last, ⟨A, n, c⟩, some r, M.done⟩).toArray 164))
  have hlen := hr.len
  unfold Hdr.val at hv0
  injection hv0 with e1 e2 e3
  subst e1; subst e3
  have hsl := hoa.sl
  rw [← e2] at hsl
  have e2' : n = ps.length := e2
  have hnl : n ≤ 1000000 := by rw [e2', hlen]; exact hl
  have HSL := Lib.hid hsl; have HM := Lib.hid (mapAt_alloc (.cells (GLedgerLedger.enc ⟨M.epoch, M.last, ⟨A, n, c⟩, some r, M.done⟩).toArray 164) hm)
  have HG1 := Lib.hid hg1; have HF1 := Lib.hid hf1; have HB1 := Lib.hid hb1
  have HREL := Lib.hid (hr.mono fun a b hab => (⟨hab.1, hab.2.1, hab.2.2.bel hb1⟩ : PlaceIs (fun k => U k ∧ ¬ footL g r ⟨A, n, c⟩ k) (w.alloc (.cells (GLedgerLedger.enc ⟨M.epoch, M.last, ⟨A, n, c⟩, some r, M.done⟩).toArray 164)) a b))
  have HP := Lib.hid hp; have HUL := Lib.hid hSU.2
  have HE2 := Lib.hid e2'
  clear hf ho hne hr hm hp hSU hoa hsl hlen hb1 hf1 hl e2 e2'
  go_enter Try.func61, Try.ntmps61
  go_wp2_with fail
  change Hid (get? GLedgerLedger (w.alloc (.cells (GLedgerLedger.enc ⟨M.epoch, M.last, ⟨A, n, c⟩, some r, M.done⟩).toArray 164)) ⟨w.heap.size, 0, none⟩ = some ⟨M.epoch, M.last, ⟨A, n, c⟩, some r, M.done⟩) at HG1
  have hz1 : (w.alloc (.cells (GLedgerLedger.enc ⟨M.epoch, M.last, ⟨A, n, c⟩, some r, M.done⟩).toArray 164)).heap.size = w.heap.size + 1 := by simp
  generalize w.alloc (.cells (GLedgerLedger.enc ⟨M.epoch, M.last, ⟨A, n, c⟩, some r, M.done⟩).toArray 164) = w1 at HSL HM HG1 HF1 HB1 HREL hz1 f2 f3 ⊢
  clear hg hg1
  refine wp_region_G GB [11, 13] GB.rf (by kernel_rfl) ?_
  refine wpG_looks 6 14 [0,1,2,3,5,6,7,8] rfl GB.rf GB.tr (by kernel_rfl) (fun _ _ _ _ hd h => And.intro (hd ▸ And.left h) (And.right h)) rfl (by kernel_rfl) ?_
  intro ι W hne CW
  have g2 := fun z => (CW.out z).cell f2
  have g3 := fun z => (CW.out z).cell f3
  repeat (refine wpLooksG_step (fun K hK => ?_); go_simp; refine hK _ ?_; clear hK K)
  refine wpLooksG_nil ?_
  clear g2 g3 CW hne W ι f2 f3
  refine wpG_force 4 _ rfl (by kernel_rfl) rfl fun wa hwa K hK => ?_
  go_simp
  refine (clonePl_any A n c ps wa (HSL.out.stepB hwa.undrew) (by omega)).mono ?_
  rintro _ wb ⟨v, rfl, hov, hbb⟩
  obtain ⟨A', c', hv', hoa', _, _⟩ := OwnS.ownA hov
  rw [← HE2.out] at hv'
  subst hv'
  have HO := Lib.hid (OwnS.mono hov (by have := hwa.undrew.size; omega : w1.heap.size ≤ wa.heap.size)); have HBB := Lib.hid (hwa.undrew.trans hbb)
  refine hK _ _ (fun _ => hbb) ?_
  clear hK K hov hoa' hbb hwa
  refine wpG_force 9 _ rfl (by kernel_rfl) rfl fun wc hwc K hK => ?_
  go_simp
  have hbc : Bel w1 wc := HBB.out.trans hwc
  refine (cloneNames_any r nm wc ((mapAt_below hbc (mapAt_lt HM.out)).trans HM.out)).mono ?_
  rintro _ wd ⟨r', rfl, hr', hm', hbd⟩
  have HO2 := Lib.hid (OwnS.step HO.out (Bel.trans hwc hbd)); have HBD := Lib.hid (hbc.trans hbd); have HM2 := Lib.hid hm'
  have hrz : w1.heap.size ≤ r' := by have := hbc.size; omega
  refine hK _ _ (fun _ => hbd) ?_
  clear hK K hwc hbc hbd hm' hr'
  refine wpG_force 10 _ rfl (by kernel_rfl) rfl fun we hwe K hK => ?_
  go_simp
  refine hK _ _ (fun _ => GB.rf _) ?_
  clear hK K
  refine wpG_force 11 _ rfl (by kernel_rfl) rfl fun wf hwf K hK => ?_
  have hb3 : Bel w1 wf := (HBD.out.trans hwe).trans hwf
  have hgf := GB.get hb3 HG1.out
  obtain ⟨_, _, e2, _, _⟩ := ledger_cells hgf
  simp only at e2
  have hff : blkFree wf w.heap.size = true := (blkFree_keep (hb3.block _ (by omega))).trans HF1.out
  have z2 : wf.frozen? ⟨w.heap.size, 2, none⟩ = false := frozen_of_free (a := ⟨w.heap.size, 2, none⟩) hff
  go_simp
  have hg5 : get? GLedgerLedger (wf.setCell ⟨w.heap.size, 2, none⟩ (.slice A' n c')) ⟨w.heap.size, 0, none⟩ = some ⟨M.epoch, M.last, ⟨A', n, c'⟩, some r, M.done⟩ := get?_poke hgf rfl
  have hc5 : Chg (fun q => q = w.heap.size) wf (wf.setCell ⟨w.heap.size, 2, none⟩ (.slice A' n c')) := Chg.setCell (S := fun q => q = w.heap.size) (p := ⟨w.heap.size, 2, none⟩) rfl _
  have hf5 : blkFree (wf.setCell ⟨w.heap.size, 2, none⟩ (.slice A' n c')) w.heap.size = true := by rw [blkFree_setCell]; exact hff
  have HG5 := Lib.hid hg5; have HC5 := Lib.hid ((Chg.of_bel hb3 (fun q => q = w.heap.size)).tr hc5); have HF5 := Lib.hid hf5
  have HC5d := Lib.hid ((Chg.of_bel (Bel.trans hwe hwf) (fun q => q = w.heap.size)).tr hc5)
  have hz5 : (wf.setCell ⟨w.heap.size, 2, none⟩ (.slice A' n c')).heap.size = wf.heap.size := by simp
  have hz5b := hb3.size
  clear e2 z2 hgf hff hg5 hc5 hf5 hb3 hwe hwf
  generalize wf.setCell ⟨w.heap.size, 2, none⟩ (.slice A' n c') = w5 at HG5 HC5 HF5 HC5d hz5 ⊢
  refine hK _ _ (fun h => absurd (by simp) h) ?_
  clear hK K
  refine wpG_force 12 _ rfl (by kernel_rfl) rfl fun we hwe K hK => ?_
  go_simp
  refine hK _ _ (fun _ => GB.rf _) ?_
  clear hK K
  refine wpG_force 13 _ rfl (by kernel_rfl) rfl fun wf hwf K hK => ?_
  have hb3 : Bel w5 wf := Bel.trans hwe hwf
  have hgf := GB.get hb3 HG5.out
  obtain ⟨_, _, _, e3, _⟩ := ledger_cells hgf
  simp only at e3
  have hff : blkFree wf w.heap.size = true := (blkFree_keep (hb3.block _ (by omega))).trans HF5.out
  have z3 : wf.frozen? ⟨w.heap.size, 3, none⟩ = false := frozen_of_free (a := ⟨w.heap.size, 3, none⟩) hff
  go_simp
  have hg6 : get? GLedgerLedger (wf.setCell ⟨w.heap.size, 3, none⟩ (.map (some r'))) ⟨w.heap.size, 0, none⟩ = some ⟨M.epoch, M.last, ⟨A', n, c'⟩, some r', M.done⟩ := get?_poke hgf rfl
  have hc6 : Chg (fun q => q = w.heap.size) wf (wf.setCell ⟨w.heap.size, 3, none⟩ (.map (some r'))) := Chg.setCell (S := fun q => q = w.heap.size) (p := ⟨w.heap.size, 3, none⟩) rfl _
  have hf6 : blkFree (wf.setCell ⟨w.heap.size, 3, none⟩ (.map (some r'))) w.heap.size = true := by rw [blkFree_setCell]; exact hff
  have hCd := (HC5d.out.tr (Chg.of_bel hb3 (fun q => q = w.heap.size))).tr hc6
  have hC1 := (HC5.out.tr (Chg.of_bel hb3 (fun q => q = w.heap.size))).tr hc6
  have HG6 := Lib.hid hg6; have HF6 := Lib.hid hf6; have HCD := Lib.hid hCd; have HC1 := Lib.hid hC1
  clear e3 z3 hgf hff hg6 hc6 hf6 hb3 hwe hwf hCd hC1
  generalize wf.setCell ⟨w.heap.size, 3, none⟩ (.map (some r')) = w6 at HG6 HF6 HCD HC1 ⊢
  refine hK _ _ (fun h => absurd (by simp) h) ?_
  clear hK K
  refine wpG_end (by kernel_rfl) (fun wn hwn => ?_) _
  have HBN := Lib.hid (show Bel w6 wn from hwn)
  clear hwn
  go_wp2_with fail
  go_ret
  have hown := HO2.out.chg HCD.out (fun k hk e => by have h1 := (HO2.out.lt k hk).1; omega)
  have hz6 := HC1.out.size
  have hz6d := HCD.out.size
  have hlow : ∀ q, footL w.heap.size r' ⟨A', n, c'⟩ q → w.heap.size ≤ q := by
    rintro q (h | h | h)
    · omega
    · omega
    · have := (HO2.out.lt q h).1; omega
  have hup : ∀ q, footL w.heap.size r' ⟨A', n, c'⟩ q → q < w6.heap.size := by
    rintro q (h | h | h)
    · omega
    · have := mapAt_lt HM2.out; omega
    · exact (hown.lt q h).2
  have hrel6 : R2 (PlaceIs (fun k => (U k ∨ footL w.heap.size r' ⟨A', n, c'⟩ k) ∧ ¬ footL w.heap.size r' ⟨A', n, c'⟩ k) w6) ps M.l := HREL.out.mono fun a b hab => ⟨hab.1, hab.2.1, (hab.2.2.chg HC1.out (fun q hq e => by have := HUL.out q hq.1; omega)).mono fun q _ hq => ⟨.inl hq.1, fun h => by have h1 := hlow q h; have h2 := HUL.out q hq.1; omega⟩⟩
  have hled : LedgerIs w6 w.heap.size (footL w.heap.size r' ⟨A', n, c'⟩) (fun q => U q ∨ footL w.heap.size r' ⟨A', n, c'⟩ q) M :=
    ⟨⟨A', n, c'⟩, r', ps, nm, rfl, ⟨fun q hq => .inr hq, fun q hq => by
      rcases hq with hq | hq
      · have := HUL.out q hq; omega
      · exact hup q hq⟩, HG6.out, HF6.out, OwnS.mono hown (Nat.zero_le _), fun e => by have h1 := (HO2.out.lt _ e).1; omega, hrel6, HCD.out.map HM2.out (by omega), HP.out⟩
  exact ⟨w.heap.size, footL w.heap.size r' ⟨A', n, c'⟩, fun q => U q ∨ footL w.heap.size r' ⟨A', n, c'⟩ q, rfl, hled.bel HBN.out, hlow, fun q hq => hq.imp id (hlow q), (Chg.bel2 HB1.out HC1.out (fun q hq => Nat.le_of_eq hq.symm)).trans HBN.out⟩
end Go.Proofs.Yteockodnfempfaa
/- The two ledgers tell the same. Conditions: those named in each theorem. -/
namespace Go.Proofs.Yteockodnfempfaa
open Go Go.RowKit Go.Gv Go.Sort

theorem out_at {M : MLedger} {i : Int} (h : inB M i = false) : entryR M i = default ∧ statusR M i = 0 ∧ payR M i = [] := by
  refine ⟨?_, ?_, ?_⟩
  · unfold entryR; rw [if_neg (by rw [h]; decide)]
  · unfold statusR; rw [if_neg (by rw [h]; decide)]
  · unfold payR; rw [if_neg (by rw [h]; decide)]
theorem pay_at {M : MLedger} {p : Nat} {m : MPlace} (hm : M.l[p]? = some m) : payR M (p : Int) = m.pay := by
  have hl : p < M.l.length := (List.getElem?_eq_some_iff.1 hm).1
  unfold payR
  rw [if_pos (by unfold inB; simp; omega), Int.toNat_natCast, hm]
  rfl
theorem index_none {M : MLedger} {k : GName} (h : ∀ m ∈ M.l, m.e.name ≠ k) : Go.Proofs.Yteockodnfempfaa.indexR M k = none := by
  refine mget_none.2 fun hm => ?_
  unfold namesOf at hm
  rw [namesFrom_keys, List.mem_map] at hm
  obtain ⟨m, hm1, hm2⟩ := hm
  exact h m hm1 hm2
theorem sameU_self (xs : List U8) : sameB xs xs = true := by unfold sameB; exact decide_eq_true rfl
set_option maxRecDepth 100000 in
set_option maxHeartbeats 8000000 in
theorem same_any (g h : Nat) (S U S' U' : Nat → Prop) (M : MLedger) (kk : Nat) (w : World) (hL : LedgerIs w g S U M) (hR : RefIs w h S' U' M) (hG : GoodM M kk) (hkk : kk ≤ 1000) (h9 : ∀ m ∈ M.l, m.e.name ≠ ⟨9, 9⟩) (hd0 : 0 ≤ M.done) :
    Calls Try.prog 59 #[.pointer (some ⟨g, 0, none⟩), .pointer (some ⟨h, 0, none⟩)] w fun e w' => e = .returned (.bool true) ∧ Bel w w' := by
  obtain ⟨A, c, hg, hlc, hcm, hls⟩ := hR.list
  obtain ⟨f0, f1, f2, _⟩ := ref_cells hg
  have hlen := hG.len
  obtain ⟨n, hn⟩ : ∃ n, M.l.length = n := ⟨_, rfl⟩
  simp only [hn] at f0 f1 f2
  rw [hn] at hlen
  have HL := Lib.hid hL; have HR := Lib.hid hR; have HG := Lib.hid hG; have HN := Lib.hid hn; have HLS := Lib.hid hls; have H9 := Lib.hid h9; have HD0 := Lib.hid hd0
  have F2 := Lib.hid f2
  have HPAY := Lib.hid (show ∀ m ∈ M.l, m.pay.length ≤ 1000000 from fun m hm => Nat.le_trans (hG.pays m hm) (by omega))
  have hlenw : ∀ d, Calls Try.prog 46 #[.pointer (some ⟨g, 0, none⟩)] (w.drewN d) fun e w' => e = .returned (.int .i64 (n : Nat)) ∧ w.drewN d = w' := fun d => by
    have := lenL_any g S U M (w.drewN d) (hL.bel (bdN (Below.refl _ _) d))
    rw [hn] at this
    exact this
  have HLW := Lib.hid hlenw
  clear hL hR hG hn hls hg hlc hcm h9 hd0 hlenw
  go_enter Try.func59, Try.ntmps59
  go_wp2_with fail
  go_big_quiet ((first | (go_at_call 44; exact Calls.quiet_of_same (flipC (epoch_any g S U M _ (HL.out.bel (bdN (Below.refl _ _) _))))) | (go_at_call 45; exact Calls.quiet_of_same (flipC (last_any g S U M _ (HL.out.bel (bdN (Below.refl _ _) _))))) | (go_at_call 46; exact Calls.quiet_of_same (flipC (HLW.out _)))))
  have HB0 := Lib.hid (show Bel w (w.drewN nq) from (Bel.refl w).drewN _)
  clear f0 f1
  go_wp2_with fail
  go_loopw [5] (fun i wr => ∃ i0 : Int, -1 ≤ i0 ∧ i0 ≤ (n : Int) + 1 ∧ i = .int .i64 i0 ∧ Bel w wr) (fun i _ => ((n : Int) + 1 - intOf i).toNat)
  case atStart => exact ⟨-1, by omega, by omega, rfl, HB0.out⟩
  case round =>
    obtain ⟨i0, hi1, hi2, rfl, hb⟩ := hrel
    obtain ⟨wi, rfl⟩ : ∃ wi : World, wi = wr := ⟨_, rfl⟩
    have HB := Lib.hid hb; clear hb
    have f2 : wi.cell? ⟨h, 2, none⟩ = some (.slice A n c) := GB.cell HB.out F2.out
    by_cases hle : i0 ≤ (n : Int)
    · by_cases hin : 0 ≤ i0 ∧ i0 < (n : Int)
      · obtain ⟨p, rfl⟩ := Int.eq_ofNat_of_zero_le hin.1
        have hpn : p < n := by omega
        obtain ⟨m, hm⟩ : ∃ m, M.l[p]? = some m := ⟨_, List.getElem?_eq_getElem (by rw [HN.out]; exact hpn)⟩
        obtain ⟨hre, hri, hrs⟩ := entry_at M hm
        have hrp := pay_at hm
        have HRE := Lib.hid hre; have HRI := Lib.hid hri; have HRS := Lib.hid hrs; have HRP := Lib.hid hrp
        have HIX := Lib.hid (HG.out.indexR hm); have HM := Lib.hid hm
        have hpl := HG.out.pays m (List.mem_of_getElem? hm)
        obtain ⟨pb, x, rfl, hx, hxe, _⟩ := HLS.out p m hm
        have HGX := Lib.hid hx; have HXE := Lib.hid hxe
        have hp1 : decide (p < n) = true := by simpa using hpn
        have hp2 : (p : Int) < (n : Int) := by omega
        have hp0 : (0 : Int) ≤ (p : Int) := by omega
        have hle1 : decide (p ≤ n) = true := by simp; omega
        clear hre hri hrs hrp hm hin hle hx hxe
        go_wp2_with fail
        refine (entry_any g S U M (p : Int) _ (HL.out.bel HB.out)).mono ?_
        rintro _ w5 ⟨rfl, hb5⟩
        rw [HRE.out, HRI.out]
        have hge := get?_new (w := w5) 30 m.e
        have HE5 := Lib.hid hge; have HB6 := Lib.hid (Bel.alloc (HB.out.trans hb5) (.cells m.e.enc.toArray 30))
        clear hb5 hge f2
        go_wp2_with fail
        refine (status_any g S U M (p : Int) _ (HL.out.bel HB6.out) HPAY.out).mono ?_
        rintro _ w6 ⟨v6, rfl, hv6, hb6⟩
        rw [HRS.out]
        obtain ⟨ge, hge⟩ : ∃ ge, w5.heap.size = ge := ⟨_, rfl⟩
        rw [hge] at HE5 ⊢
        rw [HRP.out] at hv6
        obtain ⟨A6, c6, hv6e, hoa6, _, hcm6⟩ := OwnS.ownA hv6
        subst hv6e
        have HS6 := Lib.hid hoa6.sl
        have HE6 := Lib.hid (GB.get hb6 HE5.out); have HB7 := Lib.hid (HB6.out.trans hb6)
        obtain ⟨q6, hq6⟩ : ∃ q, m.pay.length = q := ⟨_, rfl⟩
        rw [hq6] at HS6 hpl ⊢
        clear hv6 hb6 hge HE5 HB6 hoa6 hcm6 hq6
        go_wp2_with fail
        refine (status15_any h S' U' M (p : Int) _ (HR.out.bel HB7.out)).mono ?_
        rintro _ w7 ⟨⟨ha, hlh, hch⟩, rfl, hsh, hlm, nd, rfl⟩
        rw [HRS.out]
        rw [HRP.out] at hsh
        have HSH := Lib.hid hsh
        obtain ⟨w7, hw7⟩ : ∃ w7 : World, w6.drewN nd = w7 := ⟨_, rfl⟩
        have hb67 : Bel w6 w7 := by rw [← hw7]; exact (Bel.refl w6).drewN _
        have HS7 := Lib.hid (HS6.out.stepB hb67); have HE7 := Lib.hid (GB.get hb67 HE6.out); have HB8 := Lib.hid (HB7.out.trans hb67); have HSH7 := Lib.hid (HSH.out.stepB hb67)
        have f2 : w7.cell? ⟨h, 2, none⟩ = some (.slice (some ⟨pb, 0, none⟩) n c) := GB.cell HB8.out F2.out
        rw [hw7]
        simp only [Hdr.val]
        clear hsh hw7 hb67 HS6 HE6 HB7 HSH
        go_wp2_with fail
        refine (sameBytes_any A6 ha q6 hlh c6 hch m.pay m.pay _ _ HS7.out HSH7.out (by unfold maxLen; omega) hlm).mono ?_
        rintro _ w8 ⟨rfl, nd2, rfl⟩
        rw [sameU_self]
        obtain ⟨w8, hw8⟩ : ∃ w8 : World, w7.drewN nd2 = w8 := ⟨_, rfl⟩
        have hb78 : Bel w7 w8 := by rw [← hw8]; exact (Bel.refl w7).drewN _
        have HE8 := Lib.hid (GB.get hb78 HE7.out); have HB9 := Lib.hid (HB8.out.trans hb78)
        have kn : get? GName w8 ⟨ge, 0, none⟩ = some m.e.name := by
          have := GEntry.at_name HE8.out
          rwa [Addr.add_zero'] at this
        rw [hw8]
        clear hw8 hb78 HS7 HSH7 HE7 HB8 f2
        go_wp2_with fail
        refine (index_any g S U M m.e.name _ (HL.out.bel HB9.out)).mono ?_
        rintro _ w9 ⟨rfl, hb9⟩
        rw [HIX.out]
        simp only [Option.getD_some, Option.isSome_some]
        have hE9 := GB.get hb9 HE8.out
        have HBX := Lib.hid (HB9.out.trans hb9)
        have f2 : w9.cell? ⟨h, 2, none⟩ = some (.slice (some ⟨pb, 0, none⟩) n c) := GB.cell HBX.out F2.out
        have hgp : get? GEntry w9 ⟨pb, p * 37, none⟩ = some m.e := by
          have := GRef15Place.at_e (GB.get HBX.out HGX.out)
          rw [Addr.add_zero', HXE.out] at this
          exact this
        have kn9 : get? GName w9 ⟨ge, 0, none⟩ = some m.e.name := by
          have := GEntry.at_name hE9
          rwa [Addr.add_zero'] at this
        clear kn hb9 HE8 HB9
        go_wp2_with fail
        refine wp_region_G GB [] GB.rf (by kernel_rfl) ?_
        refine wpG_looks 0 22 [0,1,2,3,4,5,6,7,8,9,10,11,12,13,14,15,16,17,18,19,20,21] rfl GB.rf GB.tr (by kernel_rfl) (fun _ _ _ _ hd h => And.intro (hd ▸ And.left h) (And.right h)) rfl (by kernel_rfl) ?_
        intro ι W hne CW
        have g1 := fun z => (CW.out z).get hE9
        have g2 := fun z => (CW.out z).cell f2
        have g3 := fun z => (CW.out z).get hgp
        have g4 := fun z => (CW.out z).get kn9
        repeat (refine wpLooksG_step (fun K hK => ?_); go_simp; refine hK _ ?_; clear hK K)
        refine wpLooksG_step (fun K hK => ?_); go_simp
        refine ⟨_, fun z => index15_at h S' U' M p m (W z) (HR.out.bel (HBX.out.trans (CW.out z).undrew)) HM.out (fun j a hj ha => HG.out.unlike ha HM.out hj) (by rw [HN.out]; omega), hK _ ?_⟩
        clear hK K
        repeat (refine wpLooksG_step (fun K hK => ?_); go_simp; refine hK _ ?_; clear hK K)
        refine wpLooksG_nil ?_
        clear g1 g2 g3 g4 CW hne W ι f2 hgp kn9 hE9
        refine wpG_end (by kernel_rfl) (fun wd hwd => ?_) _
        have HBD := Lib.hid (HBX.out.trans hwd.undrew)
        clear hwd
        go_wp2_with fail
        exact ⟨⟨(p : Int) + 1, by omega, by omega, by go_num, HBD.out⟩, by simp [intOf]; omega⟩
      · have hinF : inB M i0 = false := by unfold inB; rw [HN.out]; simp; omega
        obtain ⟨hre, hrs, hrp⟩ := out_at hinF
        have HRE := Lib.hid hre; have HRI := Lib.hid hinF; have HRS := Lib.hid hrs; have HRP := Lib.hid hrp
        have hcase : i0 = -1 ∨ i0 = (n : Int) := by omega
        have hg0 : (decide (0 ≤ i0) && decide (i0 < (n : Int))) = false := by
          rcases hcase with h1 | h1
          · rw [h1]; rfl
          · rw [h1]; simp
        have hle1 : decide (i0 ≤ (n : Int)) = true := by simpa using hle
        clear hre hrs hrp hinF hin hle
        go_wp2_with fail
        refine (entry_any g S U M i0 _ (HL.out.bel HB.out)).mono ?_
        rintro _ w5 ⟨rfl, hb5⟩
        rw [HRE.out, HRI.out]
        have HB6 := Lib.hid (Bel.alloc (HB.out.trans hb5) (.cells (GEntry.enc default).toArray 30))
        clear hb5 f2
        go_wp2_with fail
        refine (status_any g S U M i0 _ (HL.out.bel HB6.out) HPAY.out).mono ?_
        rintro _ w6 ⟨v6, rfl, hv6, hb6⟩
        rw [HRS.out]
        rw [HRP.out] at hv6
        obtain ⟨A6, c6, hv6e, hoa6, _, hcm6⟩ := OwnS.ownA hv6
        subst hv6e
        have HS6 := Lib.hid hoa6.sl
        have HB7 := Lib.hid (HB6.out.trans hb6)
        clear hv6 hb6 HB6 hoa6 hcm6
        go_wp2_with fail
        refine (status15_any h S' U' M i0 _ (HR.out.bel HB7.out)).mono ?_
        rintro _ w7 ⟨⟨ha, hlh, hch⟩, rfl, hsh, hlm, nd, rfl⟩
        rw [HRS.out]
        rw [HRP.out] at hsh
        have HSH := Lib.hid hsh
        obtain ⟨w7, hw7⟩ : ∃ w7 : World, w6.drewN nd = w7 := ⟨_, rfl⟩
        have hb67 : Bel w6 w7 := by rw [← hw7]; exact (Bel.refl w6).drewN _
        have HS7 := Lib.hid (HS6.out.stepB hb67); have HB8 := Lib.hid (HB7.out.trans hb67); have HSH7 := Lib.hid (HSH.out.stepB hb67)
        have f2 : w7.cell? ⟨h, 2, none⟩ = some (.slice A n c) := GB.cell HB8.out F2.out
        rw [hw7]
        simp only [Hdr.val]
        clear hsh hw7 hb67 HS6 HB7 HSH
        rcases hcase with rfl | rfl
        all_goals
          go_wp2_with fail
          refine (sameBytes_any A6 ha _ hlh c6 hch [] [] _ _ HS7.out HSH7.out (Nat.zero_le _) hlm).mono ?_
          rintro _ w8 ⟨rfl, nd2, rfl⟩
          rw [sameU_self]
          have HB9 := Lib.hid (HB8.out.trans ((Bel.refl w7).drewN nd2))
          go_wp2_with fail
        · exact ⟨⟨0, by omega, by omega, by go_num, HB9.out⟩, by simp [intOf]; omega⟩
        · exact ⟨⟨(n : Int) + 1, by omega, by omega, by go_num, HB9.out⟩, by simp [intOf] <;> omega⟩
    · have hle1 : decide (i0 ≤ (n : Int)) = false := by simpa using hle
      have HNONE := Lib.hid (index_none H9.out)
      clear hle
      go_wp2_with fail
      refine (next_any g S U M _ (HL.out.bel HB.out)).mono ?_
      rintro _ w5 ⟨rfl, n5, rfl⟩
      have HB5 := Lib.hid (HB.out.drewN n5)
      obtain ⟨d, hd⟩ : ∃ d, (if nextB M = true then M.done else 0) = d := ⟨_, rfl⟩
      obtain ⟨b, hb⟩ : ∃ b, nextB M = b := ⟨_, rfl⟩
      rw [hd, hb]
      have HDD := Lib.hid hd; have HBB := Lib.hid hb
      clear f2 hd hb
      go_wp2_with fail
      refine (next15_any h S' U' M _ (HR.out.bel HB5.out) HD0.out).mono ?_
      rintro _ w6 ⟨rfl, n6, rfl⟩
      have HB6 := Lib.hid (HB.out.drewN (n5 + n6))
      rw [HDD.out, HBB.out]
      go_wp2_with fail
      refine (index_any g S U M ⟨9, 9⟩ _ (HL.out.bel HB6.out)).mono ?_
      rintro _ w7 ⟨rfl, hb7⟩
      rw [HNONE.out]
      simp only [Option.getD_none, Option.isSome_none]
      have HB7 := Lib.hid (HB6.out.trans hb7)
      clear hb7
      cases b
      all_goals
        go_wp2_with fail
        go_ret
        exact ⟨rfl, HB7.out⟩
end Go.Proofs.Yteockodnfempfaa
/- The struct types of this seat as Lean types, with the runs of single operations over them. Conditions: those named in each theorem. -/
namespace Go.Proofs.Yteockodnfempfaa
open Go Go.RowKit Go.Gv
set_option linter.unusedSimpArgs false

theorem na41 : aggT Try.prog 41 = false := by kernel_rfl
theorem us41 : (Try.prog.underlying 41).isSome = true := by kernel_rfl
theorem na209 : aggT Try.prog 209 = false := by kernel_rfl
theorem us209 : (Try.prog.underlying 209).isSome = true := by kernel_rfl

/-! ### gavel/gavelref09.Base -/
structure GRef09Base where
  conf : GConf
  epoch : Int
  last : Int
  logged : Hdr
  open_ : Hdr
deriving DecidableEq
instance : Inhabited GRef09Base := ⟨⟨default, 0, 0, default, default⟩⟩
def GRef09Base.enc (x : GRef09Base) : List Value := x.conf.enc ++ ([(.int .i64 x.epoch)] ++ ([(.int .u64 x.last)] ++ ([(x.logged.val)] ++ ([(x.open_.val)]))))
theorem GRef09Base.enc_len (x : GRef09Base) : x.enc.length = 6 := by simp [GRef09Base.enc, GConf.enc_len]
theorem GRef09Base.enc_one (x : GRef09Base) : ∀ u ∈ x.enc, u.oneCell' = true := by
  intro u hu
  simp only [GRef09Base.enc, List.mem_append, List.mem_singleton] at hu
  rcases hu with hu | hu | hu | hu | hu
  · exact Enc.one (α := GConf) _ _ hu
  · subst hu; rfl
  · subst hu; rfl
  · subst hu; rfl
  · subst hu; rfl
theorem GRef09Base.enc_inj (x y : GRef09Base) (h : x.enc = y.enc) : x = y := by
  obtain ⟨a0, a1, a2, a3, a4⟩ := x
  obtain ⟨b0, b1, b2, b3, b4⟩ := y
  simp only [GRef09Base.enc] at h
  obtain ⟨p0, q0⟩ := List.append_inj h (by simp [GConf.enc_len])
  have e0 := Enc.inj (α := GConf) _ _ p0
  obtain ⟨p1, q1⟩ := List.append_inj q0 (rfl)
  have e1 : a1 = b1 := by have := List.head_eq_of_cons_eq p1; injection this
  obtain ⟨p2, q2⟩ := List.append_inj q1 (rfl)
  have e2 : a2 = b2 := by have := List.head_eq_of_cons_eq p2; injection this
  obtain ⟨p3, q3⟩ := List.append_inj q2 (rfl)
  have e3 : a3 = b3 := Enc.inj (α := Hdr) _ _ p3
  have e4 : a4 = b4 := Enc.inj (α := Hdr) _ _ q3
  rw [e0, e1, e2, e3, e4]
instance : Enc GRef09Base where
  n := 6
  enc := GRef09Base.enc
  pos := by omega
  len := GRef09Base.enc_len
  one := GRef09Base.enc_one
  inj := GRef09Base.enc_inj
@[go_sem] theorem GRef09Base.n_eq : Enc.n GRef09Base = 6 := rfl
@[irreducible] def GRef09Base.val (x : GRef09Base) : Value := .agg x.enc.toArray
theorem GRef09Base.val_eq (x : GRef09Base) : GRef09Base.val x = .agg (Enc.enc x).toArray := by unfold GRef09Base.val; rfl
theorem GRef09Base.ext_all (x y : GRef09Base) : x = y ↔ x.conf = y.conf ∧ x.epoch = y.epoch ∧ x.last = y.last ∧ x.logged = y.logged ∧ x.open_ = y.open_ := by
  constructor
  · intro h; cases h; simp
  · intro h; cases x; cases y; simp_all
theorem uu211 : Try.prog.underlying 211 = some (.struct (Try.prog.fieldsOf 211)) := by kernel_rfl
theorem st211 : Try.prog.stoodInHeld 211 = false := by kernel_rfl
theorem fl211 : fieldTO Try.prog 211 = [(109, 0), (3, 2), (28, 3), (41, 4), (209, 5)] := by kernel_rfl
theorem nb211 : noBlank Try.prog 211 = true := by kernel_rfl
@[go_sem ↓ high] theorem xl_GRef09Base (ρ : Operand → Value) (dst : Option Tmp) (x : Operand) (ty : TypeId) (pos : String) (after : Array Edge) (guard : Option (Nat × Bool)) : execOp ρ { dst, op := .load 211 x, type := ty, pos, after, guard } = (do pure (.value (← gLoad 211 (ρ x)))) := ex_load ..
@[go_sem ↓ high] theorem xs_GRef09Base (ρ : Operand → Value) (dst : Option Tmp) (x y : Operand) (ty : TypeId) (pos : String) (after : Array Edge) (guard : Option (Nat × Bool)) : execOp ρ { dst, op := .store 211 x y, type := ty, pos, after, guard } = (do gStore 211 (ρ x) (ρ y); pure .skip) := ex_store ..
@[go_sem ↓ high] theorem xb_GRef09Base (ρ : Operand → Value) (dst : Option Tmp) (x : Operand) (ty : TypeId) (pos : String) (after : Array Edge) (guard : Option (Nat × Bool)) : execOp ρ { dst, op := .box 211 x, type := ty, pos, after, guard } = (do pure (.value (← gBox 211 (ρ x)))) := ex_box ..
@[go_sem ↓ high] theorem xa_GRef09Base (ρ : Operand → Value) (dst : Option Tmp) (ty : TypeId) (pos : String) (after : Array Edge) (guard : Option (Nat × Bool)) : execOp ρ { dst, op := .alloc 211, type := ty, pos, after, guard } = (do pure (.value (← gAlloc 211))) := ex_alloc ..
theorem ag211 : aggT Try.prog 211 = true := by kernel_rfl
theorem sz211 : sizeT Try.prog 211 = 6 := by kernel_rfl
section
variable (w : World)
@[go_sem ↓ high] theorem ld_GRef09Base (a : Addr) : (gLoad 211 (.pointer (some a))).run Try.prog w = ofOpt ((get? GRef09Base w a).map GRef09Base.val) w (noLoad Try.prog 211 a w) := by
  unfold gLoad; exact run_loadAt_opt ag211 sz211 GRef09Base.val GRef09Base.val_eq
@[go_sem ↓ high] theorem st_GRef09Base (a : Addr) (x : GRef09Base) : (gStore 211 (.pointer (some a)) (GRef09Base.val x)).run Try.prog w = okU' ((get? GRef09Base w a).isSome && blkFree w a.block) (World.putCells w a (GRef09Base.enc x)) (noStore Try.prog 211 (.pointer (some a)) (GRef09Base.val x) w) := run_gStore_any sz211 GRef09Base.val GRef09Base.val_eq w a x
@[go_sem ↓ high] theorem bx_GRef09Base (x : GRef09Base) : (gBox 211 (GRef09Base.val x)).run Try.prog w = .ok (.pointer (some ⟨w.heap.size, 0, none⟩)) (w.alloc (.cells (GRef09Base.enc x).toArray 211)) := by
  rw [GRef09Base.val_eq]; exact run_gBox _ w
end
theorem ds211_0 (x : GRef09Base) : (x.enc.drop 0).take 2 = x.conf.enc := by
  unfold GRef09Base.enc
  simp only [List.drop_zero]
  rw [List.take_append_of_le_length (by simp [GConf.enc_len])]; exact List.take_of_length_le (by simp [GConf.enc_len])
theorem pt211_0 (w : World) (x : GRef09Base) : (part 109 x.enc.toArray 0).run Try.prog w = .ok (x.conf.val) w := by
  have h := run_part_agg (P := Try.prog) (w := w) (cs := x.enc) (ds := x.conf.enc) (off := 0) ag109 (by rw [GConf.enc_len]; exact sz109) (by simp [GConf.enc_len]) (by rw [GConf.enc_len]; exact ds211_0 x)
  rw [h, GConf.val_eq]; rfl
@[go_sem ↓ high] theorem fd211_0 (w : World) (x : GRef09Base) : (gField 211 (GRef09Base.val x) 0).run Try.prog w = .ok (x.conf.val) w := by
  rw [GRef09Base.val_eq]
  exact run_gField w uu211 (by rw [fl211]; rfl) (pt211_0 w x)
theorem lk211_1 (x : GRef09Base) : x.enc[2]? = some (.int .i64 x.epoch) := by
  simp [GRef09Base.enc, List.getElem?_append, GConf.enc_len]
theorem pt211_1 (w : World) (x : GRef09Base) : (part 3 x.enc.toArray 2).run Try.prog w = .ok (.int .i64 x.epoch) w := run_part_one na3 us3 (lk211_1 x)
@[go_sem ↓ high] theorem fd211_1 (w : World) (x : GRef09Base) : (gField 211 (GRef09Base.val x) 1).run Try.prog w = .ok (.int .i64 x.epoch) w := by
  rw [GRef09Base.val_eq]
  exact run_gField w uu211 (by rw [fl211]; rfl) (pt211_1 w x)
theorem lk211_2 (x : GRef09Base) : x.enc[3]? = some (.int .u64 x.last) := by
  simp [GRef09Base.enc, List.getElem?_append, GConf.enc_len]
theorem pt211_2 (w : World) (x : GRef09Base) : (part 28 x.enc.toArray 3).run Try.prog w = .ok (.int .u64 x.last) w := run_part_one na28 us28 (lk211_2 x)
@[go_sem ↓ high] theorem fd211_2 (w : World) (x : GRef09Base) : (gField 211 (GRef09Base.val x) 2).run Try.prog w = .ok (.int .u64 x.last) w := by
  rw [GRef09Base.val_eq]
  exact run_gField w uu211 (by rw [fl211]; rfl) (pt211_2 w x)
theorem lk211_3 (x : GRef09Base) : x.enc[4]? = some (x.logged.val) := by
  simp [GRef09Base.enc, List.getElem?_append, GConf.enc_len]
theorem pt211_3 (w : World) (x : GRef09Base) : (part 41 x.enc.toArray 4).run Try.prog w = .ok (x.logged.val) w := run_part_one na41 us41 (lk211_3 x)
@[go_sem ↓ high] theorem fd211_3 (w : World) (x : GRef09Base) : (gField 211 (GRef09Base.val x) 3).run Try.prog w = .ok (x.logged.val) w := by
  rw [GRef09Base.val_eq]
  exact run_gField w uu211 (by rw [fl211]; rfl) (pt211_3 w x)
theorem lk211_4 (x : GRef09Base) : x.enc[5]? = some (x.open_.val) := by
  simp [GRef09Base.enc, List.getElem?_append, GConf.enc_len]
theorem pt211_4 (w : World) (x : GRef09Base) : (part 209 x.enc.toArray 5).run Try.prog w = .ok (x.open_.val) w := run_part_one na209 us209 (lk211_4 x)
@[go_sem ↓ high] theorem fd211_4 (w : World) (x : GRef09Base) : (gField 211 (GRef09Base.val x) 4).run Try.prog w = .ok (x.open_.val) w := by
  rw [GRef09Base.val_eq]
  exact run_gField w uu211 (by rw [fl211]; rfl) (pt211_4 w x)
@[go_sem ↓ high] theorem xf_GRef09Base (ρ : Operand → Value) (dst : Option Tmp) (x : Operand) (i : Nat) (ty : TypeId) (pos : String) (after : Array Edge) (guard : Option (Nat × Bool)) : execOp ρ { dst, op := .field 211 x i, type := ty, pos, after, guard } = (do pure (.value (← gField 211 (ρ x) i))) := ex_field ..
theorem zr211 : zeroT Try.prog 211 = some (.agg (GRef09Base.enc default).toArray) := by kernel_rfl
@[go_sem ↓ high] theorem al_GRef09Base (w : World) : (gAlloc 211).run Try.prog w = .ok (.pointer (some ⟨w.heap.size, 0, none⟩)) (w.alloc (.cells (GRef09Base.enc default).toArray 211)) := run_zero_alloc zr211 w
@[go_sem] theorem pc_GRef09Base (w : World) (n : Nat) (x z : GRef09Base) (hn : n = w.heap.size) : World.putCells (w.alloc (.cells (GRef09Base.enc z).toArray 211)) ⟨n, 0, none⟩ (GRef09Base.enc x) = w.alloc (.cells (GRef09Base.enc x).toArray 211) := putCells_top x z hn
theorem GRef09Base.at_conf {w : World} {a : Addr} {x : GRef09Base} (h : get? GRef09Base w a = some x) : get? GConf w (a.add 0) = some x.conf := by
  rw [get?_iff] at h ⊢
  refine h.sub 0 fun j v hv => ?_
  have hd := ds211_0 x
  have hj : j < 2 := by have := (List.getElem?_eq_some_iff.1 hv).1; rwa [Enc.len] at this
  show x.enc[0 + j]? = some v
  rw [← List.getElem?_drop, ← List.getElem?_take_of_lt hj, hd]; exact hv
theorem GRef09Base.at_epoch {w : World} {a : Addr} {x : GRef09Base} (h : get? GRef09Base w a = some x) : w.cell? (a.add 2) = some (.int .i64 x.epoch) := (get?_iff.1 h) _ _ (lk211_1 x)
theorem GRef09Base.at_last {w : World} {a : Addr} {x : GRef09Base} (h : get? GRef09Base w a = some x) : w.cell? (a.add 3) = some (.int .u64 x.last) := (get?_iff.1 h) _ _ (lk211_2 x)
theorem GRef09Base.at_logged {w : World} {a : Addr} {x : GRef09Base} (h : get? GRef09Base w a = some x) : w.cell? (a.add 4) = some (x.logged.val) := (get?_iff.1 h) _ _ (lk211_3 x)
theorem GRef09Base.at_open_ {w : World} {a : Addr} {x : GRef09Base} (h : get? GRef09Base w a = some x) : w.cell? (a.add 5) = some (x.open_.val) := (get?_iff.1 h) _ _ (lk211_4 x)
@[go_sem] theorem nw211_0_GConf (w : World) (n : Nat) (x : GRef09Base) (hn : n = w.heap.size) : get? GConf (w.alloc (.cells (GRef09Base.enc x).toArray 211)) ⟨n, 0, none⟩ = some x.conf := by
  subst hn
  have h := (GRef09Base.at_conf (get?_new (w := w) 211 x))
  simp only [Addr.add_lit, Nat.zero_add, Nat.reduceAdd] at h
  exact h
@[go_sem] theorem nl211_0 (x : GRef09Base) : x.enc[0]? = some (.int .i64 x.conf.f) := by
  have h := (GConf.at_f (GRef09Base.at_conf (get?_new (w := (default : World)) 211 x)))
  simp only [Addr.add_lit, Nat.zero_add, Nat.reduceAdd, World.cell?_alloc_new, List.getElem?_toArray] at h
  exact h
@[go_sem] theorem nl211_1 (x : GRef09Base) : x.enc[1]? = some (.int .i64 x.conf.clients) := by
  have h := (GConf.at_clients (GRef09Base.at_conf (get?_new (w := (default : World)) 211 x)))
  simp only [Addr.add_lit, Nat.zero_add, Nat.reduceAdd, World.cell?_alloc_new, List.getElem?_toArray] at h
  exact h
@[go_sem] theorem nl211_2 (x : GRef09Base) : x.enc[2]? = some (.int .i64 x.epoch) := by
  have h := (GRef09Base.at_epoch (get?_new (w := (default : World)) 211 x))
  simp only [Addr.add_lit, Nat.zero_add, Nat.reduceAdd, World.cell?_alloc_new, List.getElem?_toArray] at h
  exact h
@[go_sem] theorem nl211_3 (x : GRef09Base) : x.enc[3]? = some (.int .u64 x.last) := by
  have h := (GRef09Base.at_last (get?_new (w := (default : World)) 211 x))
  simp only [Addr.add_lit, Nat.zero_add, Nat.reduceAdd, World.cell?_alloc_new, List.getElem?_toArray] at h
  exact h
@[go_sem] theorem nl211_4 (x : GRef09Base) : x.enc[4]? = some (x.logged.val) := by
  have h := (GRef09Base.at_logged (get?_new (w := (default : World)) 211 x))
  simp only [Addr.add_lit, Nat.zero_add, Nat.reduceAdd, World.cell?_alloc_new, List.getElem?_toArray] at h
  exact h
@[go_sem] theorem nl211_5 (x : GRef09Base) : x.enc[5]? = some (x.open_.val) := by
  have h := (GRef09Base.at_open_ (get?_new (w := (default : World)) 211 x))
  simp only [Addr.add_lit, Nat.zero_add, Nat.reduceAdd, World.cell?_alloc_new, List.getElem?_toArray] at h
  exact h
@[go_sem] theorem nw211 (w : World) (n : Nat) (x : GRef09Base) (hn : n = w.heap.size) : get? GRef09Base (w.alloc (.cells (GRef09Base.enc x).toArray 211)) ⟨n, 0, none⟩ = some x := by
  subst hn; exact get?_new 211 x
theorem pl211 : ((Try.prog.fieldsOf 211).toList.mapM fun f => (Try.prog.info? f.type).map fun i => (f.offset, i.size)) = some [(0, 2), (2, 1), (3, 1), (4, 1), (5, 1)] := by kernel_rfl
theorem fs211_0 (x : GRef09Base) (v : GConf) (rest : List (Nat × Value)) : Instr.fill (fun i => ([(0, 2), (2, 1), (3, 1), (4, 1), (5, 1)] : List (Nat × Nat))[i]?) x.enc.toArray ((0, (v.val)) :: rest) = Instr.fill (fun i => ([(0, 2), (2, 1), (3, 1), (4, 1), (5, 1)] : List (Nat × Nat))[i]?) ({ x with conf := v } : GRef09Base).enc.toArray rest := by
  have h := fill_seg [(0, 2), (2, 1), (3, 1), (4, 1), (5, 1)] 0 0 2 rfl (([] : List Value)) (x.conf.enc) ([(.int .i64 x.epoch)] ++ ([(.int .u64 x.last)] ++ ([(x.logged.val)] ++ ([(x.open_.val)] ++ (([] : List Value)))))) (v.enc) (v.val) rest (by rw [GConf.val_eq]; rfl) (by simp [GConf.enc_len]) (by simp [GConf.enc_len]) (by simp [GConf.enc_len])
  have e1 : x.enc = (([] : List Value)) ++ (x.conf.enc ++ ([(.int .i64 x.epoch)] ++ ([(.int .u64 x.last)] ++ ([(x.logged.val)] ++ ([(x.open_.val)] ++ (([] : List Value))))))) := by simp [GRef09Base.enc]
  have e2 : ({ x with conf := v } : GRef09Base).enc = (([] : List Value)) ++ (v.enc ++ ([(.int .i64 x.epoch)] ++ ([(.int .u64 x.last)] ++ ([(x.logged.val)] ++ ([(x.open_.val)] ++ (([] : List Value))))))) := by simp [GRef09Base.enc]
  rw [e1, e2]; exact h
theorem fs211_1 (x : GRef09Base) (v : Int) (rest : List (Nat × Value)) : Instr.fill (fun i => ([(0, 2), (2, 1), (3, 1), (4, 1), (5, 1)] : List (Nat × Nat))[i]?) x.enc.toArray ((1, (.int .i64 v)) :: rest) = Instr.fill (fun i => ([(0, 2), (2, 1), (3, 1), (4, 1), (5, 1)] : List (Nat × Nat))[i]?) ({ x with epoch := v } : GRef09Base).enc.toArray rest := by
  have h := fill_seg [(0, 2), (2, 1), (3, 1), (4, 1), (5, 1)] 1 2 1 rfl (([] : List Value) ++ (x.conf.enc)) ([(.int .i64 x.epoch)]) ([(.int .u64 x.last)] ++ ([(x.logged.val)] ++ ([(x.open_.val)] ++ (([] : List Value))))) ([(.int .i64 v)]) (.int .i64 v) rest (rfl) (by simp [GConf.enc_len]) (by simp [GConf.enc_len]) (by simp [GConf.enc_len])
  have e1 : x.enc = (([] : List Value) ++ (x.conf.enc)) ++ ([(.int .i64 x.epoch)] ++ ([(.int .u64 x.last)] ++ ([(x.logged.val)] ++ ([(x.open_.val)] ++ (([] : List Value)))))) := by simp [GRef09Base.enc]
  have e2 : ({ x with epoch := v } : GRef09Base).enc = (([] : List Value) ++ (x.conf.enc)) ++ ([(.int .i64 v)] ++ ([(.int .u64 x.last)] ++ ([(x.logged.val)] ++ ([(x.open_.val)] ++ (([] : List Value)))))) := by simp [GRef09Base.enc]
  rw [e1, e2]; exact h
theorem fs211_2 (x : GRef09Base) (v : Int) (rest : List (Nat × Value)) : Instr.fill (fun i => ([(0, 2), (2, 1), (3, 1), (4, 1), (5, 1)] : List (Nat × Nat))[i]?) x.enc.toArray ((2, (.int .u64 v)) :: rest) = Instr.fill (fun i => ([(0, 2), (2, 1), (3, 1), (4, 1), (5, 1)] : List (Nat × Nat))[i]?) ({ x with last := v } : GRef09Base).enc.toArray rest := by
  have h := fill_seg [(0, 2), (2, 1), (3, 1), (4, 1), (5, 1)] 2 3 1 rfl (([] : List Value) ++ (x.conf.enc ++ ([(.int .i64 x.epoch)]))) ([(.int .u64 x.last)]) ([(x.logged.val)] ++ ([(x.open_.val)] ++ (([] : List Value)))) ([(.int .u64 v)]) (.int .u64 v) rest (rfl) (by simp [GConf.enc_len]) (by simp [GConf.enc_len]) (by simp [GConf.enc_len])
  have e1 : x.enc = (([] : List Value) ++ (x.conf.enc ++ ([(.int .i64 x.epoch)]))) ++ ([(.int .u64 x.last)] ++ ([(x.logged.val)] ++ ([(x.open_.val)] ++ (([] : List Value))))) := by simp [GRef09Base.enc]
  have e2 : ({ x with last := v } : GRef09Base).enc = (([] : List Value) ++ (x.conf.enc ++ ([(.int .i64 x.epoch)]))) ++ ([(.int .u64 v)] ++ ([(x.logged.val)] ++ ([(x.open_.val)] ++ (([] : List Value))))) := by simp [GRef09Base.enc]
  rw [e1, e2]; exact h
theorem fs211_3 (x : GRef09Base) (v : Hdr) (rest : List (Nat × Value)) : Instr.fill (fun i => ([(0, 2), (2, 1), (3, 1), (4, 1), (5, 1)] : List (Nat × Nat))[i]?) x.enc.toArray ((3, (v.val)) :: rest) = Instr.fill (fun i => ([(0, 2), (2, 1), (3, 1), (4, 1), (5, 1)] : List (Nat × Nat))[i]?) ({ x with logged := v } : GRef09Base).enc.toArray rest := by
  have h := fill_seg [(0, 2), (2, 1), (3, 1), (4, 1), (5, 1)] 3 4 1 rfl (([] : List Value) ++ (x.conf.enc ++ ([(.int .i64 x.epoch)] ++ ([(.int .u64 x.last)])))) ([(x.logged.val)]) ([(x.open_.val)] ++ (([] : List Value))) ([(v.val)]) (v.val) rest (rfl) (by simp [GConf.enc_len]) (by simp [GConf.enc_len]) (by simp [GConf.enc_len])
  have e1 : x.enc = (([] : List Value) ++ (x.conf.enc ++ ([(.int .i64 x.epoch)] ++ ([(.int .u64 x.last)])))) ++ ([(x.logged.val)] ++ ([(x.open_.val)] ++ (([] : List Value)))) := by simp [GRef09Base.enc]
  have e2 : ({ x with logged := v } : GRef09Base).enc = (([] : List Value) ++ (x.conf.enc ++ ([(.int .i64 x.epoch)] ++ ([(.int .u64 x.last)])))) ++ ([(v.val)] ++ ([(x.open_.val)] ++ (([] : List Value)))) := by simp [GRef09Base.enc]
  rw [e1, e2]; exact h
@[go_sem ↓ high] theorem xd_GRef09Base (ρ : Operand → Value) (dst : Option Tmp) (ps : Array (Nat × Operand)) (ty : TypeId) (pos : String) (after : Array Edge) (guard : Option (Nat × Bool)) : execOp ρ { dst, op := .build 211 ps, type := ty, pos, after, guard } = (do pure (.value (← gBuild 211 (ps.map fun (i, x) => (i, ρ x))))) := ex_build ..
@[go_sem ↓ high] theorem bd211_0 (w : World) (v0 : GConf) (v1 : Int) (v2 : Int) (v3 : Hdr) : (gBuild 211 #[(0, (v0.val)), (1, (.int .i64 v1)), (2, (.int .u64 v2)), (3, (v3.val))]).run Try.prog w = .ok (GRef09Base.val ⟨v0, v1, v2, v3, default⟩) w := by
  rw [GRef09Base.val_eq]
  refine run_gBuild_of uu211 zr211 pl211 ?_ w
  show Instr.fill _ (GRef09Base.enc default).toArray [(0, (v0.val)), (1, (.int .i64 v1)), (2, (.int .u64 v2)), (3, (v3.val))] = _
  rw [fs211_0, fs211_1, fs211_2, fs211_3]; rfl

/-! ### gavel/gavelref09.Spot -/
structure GRef09Spot where
  index : Int
  e : GEntry
deriving DecidableEq
instance : Inhabited GRef09Spot := ⟨⟨0, default⟩⟩
def GRef09Spot.enc (x : GRef09Spot) : List Value := [(.int .i64 x.index)] ++ (x.e.enc)
theorem GRef09Spot.enc_len (x : GRef09Spot) : x.enc.length = 36 := by simp [GRef09Spot.enc, GEntry.enc_len]
theorem GRef09Spot.enc_one (x : GRef09Spot) : ∀ u ∈ x.enc, u.oneCell' = true := by
  intro u hu
  simp only [GRef09Spot.enc, List.mem_append, List.mem_singleton] at hu
  rcases hu with hu | hu
  · subst hu; rfl
  · exact Enc.one (α := GEntry) _ _ hu
theorem GRef09Spot.enc_inj (x y : GRef09Spot) (h : x.enc = y.enc) : x = y := by
  obtain ⟨a0, a1⟩ := x
  obtain ⟨b0, b1⟩ := y
  simp only [GRef09Spot.enc] at h
  obtain ⟨p0, q0⟩ := List.append_inj h (rfl)
  have e0 : a0 = b0 := by have := List.head_eq_of_cons_eq p0; injection this
  have e1 := Enc.inj (α := GEntry) _ _ q0
  rw [e0, e1]
instance : Enc GRef09Spot where
  n := 36
  enc := GRef09Spot.enc
  pos := by omega
  len := GRef09Spot.enc_len
  one := GRef09Spot.enc_one
  inj := GRef09Spot.enc_inj
@[go_sem] theorem GRef09Spot.n_eq : Enc.n GRef09Spot = 36 := rfl
@[irreducible] def GRef09Spot.val (x : GRef09Spot) : Value := .agg x.enc.toArray
theorem GRef09Spot.val_eq (x : GRef09Spot) : GRef09Spot.val x = .agg (Enc.enc x).toArray := by unfold GRef09Spot.val; rfl
theorem GRef09Spot.ext_all (x y : GRef09Spot) : x = y ↔ x.index = y.index ∧ x.e = y.e := by
  constructor
  · intro h; cases h; simp
  · intro h; cases x; cases y; simp_all
theorem uu214 : Try.prog.underlying 214 = some (.struct (Try.prog.fieldsOf 214)) := by kernel_rfl
theorem st214 : Try.prog.stoodInHeld 214 = false := by kernel_rfl
theorem fl214 : fieldTO Try.prog 214 = [(3, 0), (30, 1)] := by kernel_rfl
theorem nb214 : noBlank Try.prog 214 = true := by kernel_rfl
@[go_sem ↓ high] theorem xl_GRef09Spot (ρ : Operand → Value) (dst : Option Tmp) (x : Operand) (ty : TypeId) (pos : String) (after : Array Edge) (guard : Option (Nat × Bool)) : execOp ρ { dst, op := .load 214 x, type := ty, pos, after, guard } = (do pure (.value (← gLoad 214 (ρ x)))) := ex_load ..
@[go_sem ↓ high] theorem xs_GRef09Spot (ρ : Operand → Value) (dst : Option Tmp) (x y : Operand) (ty : TypeId) (pos : String) (after : Array Edge) (guard : Option (Nat × Bool)) : execOp ρ { dst, op := .store 214 x y, type := ty, pos, after, guard } = (do gStore 214 (ρ x) (ρ y); pure .skip) := ex_store ..
@[go_sem ↓ high] theorem xb_GRef09Spot (ρ : Operand → Value) (dst : Option Tmp) (x : Operand) (ty : TypeId) (pos : String) (after : Array Edge) (guard : Option (Nat × Bool)) : execOp ρ { dst, op := .box 214 x, type := ty, pos, after, guard } = (do pure (.value (← gBox 214 (ρ x)))) := ex_box ..
@[go_sem ↓ high] theorem xa_GRef09Spot (ρ : Operand → Value) (dst : Option Tmp) (ty : TypeId) (pos : String) (after : Array Edge) (guard : Option (Nat × Bool)) : execOp ρ { dst, op := .alloc 214, type := ty, pos, after, guard } = (do pure (.value (← gAlloc 214))) := ex_alloc ..
theorem ag214 : aggT Try.prog 214 = true := by kernel_rfl
theorem sz214 : sizeT Try.prog 214 = 36 := by kernel_rfl
section
variable (w : World)
@[go_sem ↓ high] theorem ld_GRef09Spot (a : Addr) : (gLoad 214 (.pointer (some a))).run Try.prog w = ofOpt ((get? GRef09Spot w a).map GRef09Spot.val) w (noLoad Try.prog 214 a w) := by
  unfold gLoad; exact run_loadAt_opt ag214 sz214 GRef09Spot.val GRef09Spot.val_eq
@[go_sem ↓ high] theorem st_GRef09Spot (a : Addr) (x : GRef09Spot) : (gStore 214 (.pointer (some a)) (GRef09Spot.val x)).run Try.prog w = okU' ((get? GRef09Spot w a).isSome && blkFree w a.block) (World.putCells w a (GRef09Spot.enc x)) (noStore Try.prog 214 (.pointer (some a)) (GRef09Spot.val x) w) := run_gStore_any sz214 GRef09Spot.val GRef09Spot.val_eq w a x
@[go_sem ↓ high] theorem bx_GRef09Spot (x : GRef09Spot) : (gBox 214 (GRef09Spot.val x)).run Try.prog w = .ok (.pointer (some ⟨w.heap.size, 0, none⟩)) (w.alloc (.cells (GRef09Spot.enc x).toArray 214)) := by
  rw [GRef09Spot.val_eq]; exact run_gBox _ w
end
theorem lk214_0 (x : GRef09Spot) : x.enc[0]? = some (.int .i64 x.index) := by
  simp [GRef09Spot.enc, List.getElem?_append]
theorem pt214_0 (w : World) (x : GRef09Spot) : (part 3 x.enc.toArray 0).run Try.prog w = .ok (.int .i64 x.index) w := run_part_one na3 us3 (lk214_0 x)
@[go_sem ↓ high] theorem fd214_0 (w : World) (x : GRef09Spot) : (gField 214 (GRef09Spot.val x) 0).run Try.prog w = .ok (.int .i64 x.index) w := by
  rw [GRef09Spot.val_eq]
  exact run_gField w uu214 (by rw [fl214]; rfl) (pt214_0 w x)
theorem ds214_1 (x : GRef09Spot) : (x.enc.drop 1).take 35 = x.e.enc := by
  unfold GRef09Spot.enc
  simp [List.drop_append, List.drop_eq_nil_of_le]
  exact List.take_of_length_le (by simp [GEntry.enc_len])
theorem pt214_1 (w : World) (x : GRef09Spot) : (part 30 x.enc.toArray 1).run Try.prog w = .ok (x.e.val) w := by
  have h := run_part_agg (P := Try.prog) (w := w) (cs := x.enc) (ds := x.e.enc) (off := 1) ag30 (by rw [GEntry.enc_len]; exact sz30) (by simp [GEntry.enc_len]) (by rw [GEntry.enc_len]; exact ds214_1 x)
  rw [h, GEntry.val_eq]; rfl
@[go_sem ↓ high] theorem fd214_1 (w : World) (x : GRef09Spot) : (gField 214 (GRef09Spot.val x) 1).run Try.prog w = .ok (x.e.val) w := by
  rw [GRef09Spot.val_eq]
  exact run_gField w uu214 (by rw [fl214]; rfl) (pt214_1 w x)
@[go_sem ↓ high] theorem xf_GRef09Spot (ρ : Operand → Value) (dst : Option Tmp) (x : Operand) (i : Nat) (ty : TypeId) (pos : String) (after : Array Edge) (guard : Option (Nat × Bool)) : execOp ρ { dst, op := .field 214 x i, type := ty, pos, after, guard } = (do pure (.value (← gField 214 (ρ x) i))) := ex_field ..
theorem zr214 : zeroT Try.prog 214 = some (.agg (GRef09Spot.enc default).toArray) := by kernel_rfl
@[go_sem ↓ high] theorem al_GRef09Spot (w : World) : (gAlloc 214).run Try.prog w = .ok (.pointer (some ⟨w.heap.size, 0, none⟩)) (w.alloc (.cells (GRef09Spot.enc default).toArray 214)) := run_zero_alloc zr214 w
@[go_sem] theorem pc_GRef09Spot (w : World) (n : Nat) (x z : GRef09Spot) (hn : n = w.heap.size) : World.putCells (w.alloc (.cells (GRef09Spot.enc z).toArray 214)) ⟨n, 0, none⟩ (GRef09Spot.enc x) = w.alloc (.cells (GRef09Spot.enc x).toArray 214) := putCells_top x z hn
theorem GRef09Spot.at_index {w : World} {a : Addr} {x : GRef09Spot} (h : get? GRef09Spot w a = some x) : w.cell? (a.add 0) = some (.int .i64 x.index) := (get?_iff.1 h) _ _ (lk214_0 x)
theorem GRef09Spot.at_e {w : World} {a : Addr} {x : GRef09Spot} (h : get? GRef09Spot w a = some x) : get? GEntry w (a.add 1) = some x.e := by
  rw [get?_iff] at h ⊢
  refine h.sub 1 fun j v hv => ?_
  have hd := ds214_1 x
  have hj : j < 35 := by have := (List.getElem?_eq_some_iff.1 hv).1; rwa [Enc.len] at this
  show x.enc[1 + j]? = some v
  rw [← List.getElem?_drop, ← List.getElem?_take_of_lt hj, hd]; exact hv
@[go_sem] theorem nl214_0 (x : GRef09Spot) : x.enc[0]? = some (.int .i64 x.index) := by
  have h := (GRef09Spot.at_index (get?_new (w := (default : World)) 214 x))
  simp only [Addr.add_lit, Nat.zero_add, Nat.reduceAdd, World.cell?_alloc_new, List.getElem?_toArray] at h
  exact h
@[go_sem] theorem nw214_1_GEntry (w : World) (n : Nat) (x : GRef09Spot) (hn : n = w.heap.size) : get? GEntry (w.alloc (.cells (GRef09Spot.enc x).toArray 214)) ⟨n, 1, none⟩ = some x.e := by
  subst hn
  have h := (GRef09Spot.at_e (get?_new (w := w) 214 x))
  simp only [Addr.add_lit, Nat.zero_add, Nat.reduceAdd] at h
  exact h
@[go_sem] theorem nw214_1_GName (w : World) (n : Nat) (x : GRef09Spot) (hn : n = w.heap.size) : get? GName (w.alloc (.cells (GRef09Spot.enc x).toArray 214)) ⟨n, 1, none⟩ = some x.e.name := by
  subst hn
  have h := (GEntry.at_name (GRef09Spot.at_e (get?_new (w := w) 214 x)))
  simp only [Addr.add_lit, Nat.zero_add, Nat.reduceAdd] at h
  exact h
@[go_sem] theorem nl214_1 (x : GRef09Spot) : x.enc[1]? = some (.int .i64 x.e.name.client) := by
  have h := (GName.at_client (GEntry.at_name (GRef09Spot.at_e (get?_new (w := (default : World)) 214 x))))
  simp only [Addr.add_lit, Nat.zero_add, Nat.reduceAdd, World.cell?_alloc_new, List.getElem?_toArray] at h
  exact h
@[go_sem] theorem nl214_2 (x : GRef09Spot) : x.enc[2]? = some (.int .i64 x.e.name.seq) := by
  have h := (GName.at_seq (GEntry.at_name (GRef09Spot.at_e (get?_new (w := (default : World)) 214 x))))
  simp only [Addr.add_lit, Nat.zero_add, Nat.reduceAdd, World.cell?_alloc_new, List.getElem?_toArray] at h
  exact h
@[go_sem] theorem nw214_3_GHash (w : World) (n : Nat) (x : GRef09Spot) (hn : n = w.heap.size) : get? GHash (w.alloc (.cells (GRef09Spot.enc x).toArray 214)) ⟨n, 3, none⟩ = some x.e.hash := by
  subst hn
  have h := (GEntry.at_hash (GRef09Spot.at_e (get?_new (w := w) 214 x)))
  simp only [Addr.add_lit, Nat.zero_add, Nat.reduceAdd] at h
  exact h
@[go_sem] theorem nl214_35 (x : GRef09Spot) : x.enc[35]? = some (.int .u64 x.e.time) := by
  have h := (GEntry.at_time (GRef09Spot.at_e (get?_new (w := (default : World)) 214 x)))
  simp only [Addr.add_lit, Nat.zero_add, Nat.reduceAdd, World.cell?_alloc_new, List.getElem?_toArray] at h
  exact h
@[go_sem] theorem nw214 (w : World) (n : Nat) (x : GRef09Spot) (hn : n = w.heap.size) : get? GRef09Spot (w.alloc (.cells (GRef09Spot.enc x).toArray 214)) ⟨n, 0, none⟩ = some x := by
  subst hn; exact get?_new 214 x
theorem pl214 : ((Try.prog.fieldsOf 214).toList.mapM fun f => (Try.prog.info? f.type).map fun i => (f.offset, i.size)) = some [(0, 1), (1, 35)] := by kernel_rfl
theorem fs214_0 (x : GRef09Spot) (v : Int) (rest : List (Nat × Value)) : Instr.fill (fun i => ([(0, 1), (1, 35)] : List (Nat × Nat))[i]?) x.enc.toArray ((0, (.int .i64 v)) :: rest) = Instr.fill (fun i => ([(0, 1), (1, 35)] : List (Nat × Nat))[i]?) ({ x with index := v } : GRef09Spot).enc.toArray rest := by
  have h := fill_seg [(0, 1), (1, 35)] 0 0 1 rfl (([] : List Value)) ([(.int .i64 x.index)]) (x.e.enc ++ (([] : List Value))) ([(.int .i64 v)]) (.int .i64 v) rest (rfl) (by simp [GEntry.enc_len]) (by simp [GEntry.enc_len]) (by simp [GEntry.enc_len])
  have e1 : x.enc = (([] : List Value)) ++ ([(.int .i64 x.index)] ++ (x.e.enc ++ (([] : List Value)))) := by simp [GRef09Spot.enc]
  have e2 : ({ x with index := v } : GRef09Spot).enc = (([] : List Value)) ++ ([(.int .i64 v)] ++ (x.e.enc ++ (([] : List Value)))) := by simp [GRef09Spot.enc]
  rw [e1, e2]; exact h
theorem fs214_1 (x : GRef09Spot) (v : GEntry) (rest : List (Nat × Value)) : Instr.fill (fun i => ([(0, 1), (1, 35)] : List (Nat × Nat))[i]?) x.enc.toArray ((1, (v.val)) :: rest) = Instr.fill (fun i => ([(0, 1), (1, 35)] : List (Nat × Nat))[i]?) ({ x with e := v } : GRef09Spot).enc.toArray rest := by
  have h := fill_seg [(0, 1), (1, 35)] 1 1 35 rfl (([] : List Value) ++ ([(.int .i64 x.index)])) (x.e.enc) (([] : List Value)) (v.enc) (v.val) rest (by rw [GEntry.val_eq]; rfl) (by simp [GEntry.enc_len]) (by simp [GEntry.enc_len]) (by simp [GEntry.enc_len])
  have e1 : x.enc = (([] : List Value) ++ ([(.int .i64 x.index)])) ++ (x.e.enc ++ (([] : List Value))) := by simp [GRef09Spot.enc]
  have e2 : ({ x with e := v } : GRef09Spot).enc = (([] : List Value) ++ ([(.int .i64 x.index)])) ++ (v.enc ++ (([] : List Value))) := by simp [GRef09Spot.enc]
  rw [e1, e2]; exact h
@[go_sem ↓ high] theorem xd_GRef09Spot (ρ : Operand → Value) (dst : Option Tmp) (ps : Array (Nat × Operand)) (ty : TypeId) (pos : String) (after : Array Edge) (guard : Option (Nat × Bool)) : execOp ρ { dst, op := .build 214 ps, type := ty, pos, after, guard } = (do pure (.value (← gBuild 214 (ps.map fun (i, x) => (i, ρ x))))) := ex_build ..
@[go_sem ↓ high] theorem bd214_0 (w : World) (v0 : Int) (v1 : GEntry) : (gBuild 214 #[(0, (.int .i64 v0)), (1, (v1.val))]).run Try.prog w = .ok (GRef09Spot.val ⟨v0, v1⟩) w := by
  rw [GRef09Spot.val_eq]
  refine run_gBuild_of uu214 zr214 pl214 ?_ w
  show Instr.fill _ (GRef09Spot.enc default).toArray [(0, (.int .i64 v0)), (1, (v1.val))] = _
  rw [fs214_0, fs214_1]; rfl
theorem eq_GRef09Spot (w : World) (d : Nat) (x y : GRef09Spot) : (Op.equalIn (d + 4) 214 (GRef09Spot.val x) (GRef09Spot.val y)).run Try.prog w = .ok (decide (x = y)) w := by
  have q0 : ∀ a b, (Op.equalIn (d + 3) 3 (.int .i64 a) (.int .i64 b)).run Try.prog w = .ok (decide (a = b)) w := fun a b => by rw [run_equalIn_int w (d + 2) 3 .i64 .i64 a b uk3]; congr 1
  have q1 : (Op.equalIn (d + 3) 30 x.e.val y.e.val).run Try.prog w = .ok (decide (x.e = y.e)) w := eq_GEntry w (d + 0) _ _
  have h := run_equalIn_fields (d + 3) x.enc.toArray y.enc.toArray w uu214 st214 nb214
  rw [fl214] at h
  unfold GRef09Spot.val
  refine h.trans ?_
  clear h
  simp only [eqFs, Sem.run_bind, pt214_0, pt214_1, q0, q1, Result.andThen_ok, Sem.run_ite, Sem.run_pure]
  have he : decide (x = y) = (decide (x.index = y.index) && (decide (x.e = y.e))) := by
    rw [Bool.eq_iff_iff]; simp only [Bool.and_eq_true, decide_eq_true_eq]; exact GRef09Spot.ext_all x y
  rw [he]
  generalize decide (x.index = y.index) = c0; generalize decide (x.e = y.e) = c1
  cases c0 <;> cases c1 <;> simp
@[go_sem ↓ high] theorem xq_GRef09Spot (ρ : Operand → Value) (dst : Option Tmp) (x y : Operand) (ty yt : TypeId) (pos : String) (after : Array Edge) (guard : Option (Nat × Bool)) : execOp ρ { dst, op := .binOp .eql 214 x y yt, type := ty, pos, after, guard } = (do pure (.value (← gBin .eql 214 x y (ρ x) (ρ y)))) := ex_eql ..
@[go_sem ↓ high] theorem xn_GRef09Spot (ρ : Operand → Value) (dst : Option Tmp) (x y : Operand) (ty yt : TypeId) (pos : String) (after : Array Edge) (guard : Option (Nat × Bool)) : execOp ρ { dst, op := .binOp .neq 214 x y yt, type := ty, pos, after, guard } = (do pure (.value (← gBin .neq 214 x y (ρ x) (ρ y)))) := ex_neq ..
theorem eg_GRef09Spot : Try.prog.eqGuardType Try.prog.depth 214 = false := by kernel_rfl
@[go_sem ↓ high] theorem eql_GRef09Spot (w : World) (ox oy : Operand) (x y : GRef09Spot) : (gBin .eql 214 ox oy (GRef09Spot.val x) (GRef09Spot.val y)).run Try.prog w = .ok (.bool (decide (x = y))) w := by
  have h2 := eq_GRef09Spot w 9996 x y
  rw [GRef09Spot.val_eq, GRef09Spot.val_eq] at h2 ⊢
  have h := run_eqGuard_agg (P := Try.prog) w .eql 214 ox oy (Enc.enc x).toArray (Enc.enc y).toArray eg_GRef09Spot
  unfold gBin
  simp only [Sem.run_bind, h, Result.andThen_ok, run_eql_struct, h2]
@[go_sem ↓ high] theorem neq_GRef09Spot (w : World) (ox oy : Operand) (x y : GRef09Spot) : (gBin .neq 214 ox oy (GRef09Spot.val x) (GRef09Spot.val y)).run Try.prog w = .ok (.bool (!decide (x = y))) w := by
  have h2 := eq_GRef09Spot w 9996 x y
  rw [GRef09Spot.val_eq, GRef09Spot.val_eq] at h2 ⊢
  have h := run_eqGuard_agg (P := Try.prog) w .neq 214 ox oy (Enc.enc x).toArray (Enc.enc y).toArray eg_GRef09Spot
  unfold gBin
  simp only [Sem.run_bind, h, Result.andThen_ok, run_neq_struct, h2]
/-! ### []gavelref09.Spot -/
theorem ei209 : ElemI Try.prog 209 214 GRef09Spot 64 := ⟨by kernel_rfl, by kernel_rfl⟩
@[go_sem ↓ high] theorem xg_209 (ρ : Operand → Value) (dst : Option Tmp) (ps : Array (Nat × Operand)) (ty : TypeId) (pos : String) (after : Array Edge) (guard : Option (Nat × Bool)) : execOp ρ { dst, op := .buildSlice 209 1 ps, type := ty, pos, after, guard } = (do pure (.value (← gBuildSlice 209 1 (ps.map fun (i, x) => (i, ρ x))))) := ex_buildSlice ..
@[go_sem ↓ high] theorem bs_209 (w : World) (x : GRef09Spot) : (gBuildSlice 209 1 #[(0, GRef09Spot.val x)]).run Try.prog w = .ok (.slice (some ⟨w.heap.size, 0, none⟩) 1 1) (w.alloc (.cells (GRef09Spot.enc x).toArray 214)) := by
  rw [GRef09Spot.val_eq]; exact run_buildSlice_one ei209 (by decide) x w

end Go.Proofs.Yteockodnfempfaa
/- What a batch is held against, as the document tells it. Conditions: those named in each theorem. -/
namespace Go.Proofs.Yteockodnfempfaa
open Go Go.RowKit Go.Gv Go.Sort

def spotOf (p : Int × GEntry) : GRef09Spot := ⟨p.1, p.2⟩
def spotsL (l : List MPlace) : List GRef09Spot := (opensFrom 0 l).map spotOf
theorem spots_take {l : List MPlace} {k : Nat} {m : MPlace} (h : l[k]? = some m) : spotsL (l.take (k + 1)) = spotsL (l.take k) ++ (if m.status = 1 then [⟨(k : Int), m.e⟩] else []) := by
  unfold spotsL
  rw [opens_take h, List.map_append]
  congr 1
  split <;> rfl
def RBaseR (M : MLedger) (cf : GConf) (w : World) (e : Ending) (w' : World) : Prop := ∃ (lh oh : Hdr), e = .returned (GRef09Base.val ⟨cf, M.epoch, M.last, lh, oh⟩) ∧ SlQ GName (fun q => w.heap.size ≤ q) w' lh (namesL M) ∧ SlQ GRef09Spot (fun q => w.heap.size ≤ q) w' oh (spotsL M.l) ∧ Bel w w'
@[go_sem ↓ high] theorem rb_build (w : World) (c : GConf) (e l : Int) (a : Option Addr) (k m : Nat) : (gBuild 211 #[(0, c.val), (1, .int .i64 e), (2, .int .u64 l), (3, .slice a k m)]).run Try.prog w = .ok (GRef09Base.val ⟨c, e, l, ⟨a, k, m⟩, default⟩) w := bd211_0 w c e l ⟨a, k, m⟩
theorem SlQ.inW {α : Type} [Enc α] {Q : Nat → Prop} {w : World} {hd : Hdr} {xs : List α} {P : Nat → Prop} (h : SlQ α (fun q => Q q ∧ P q) w hd xs) : SlQ α (fun q => Q q ∧ P q ∧ q < w.heap.size) w hd xs := h.mono fun _ hq hp => ⟨hp.1, hp.2, hq⟩
theorem SlQ.mono' {α : Type} [Enc α] {Q Q' : Nat → Prop} {w : World} {hd : Hdr} {xs : List α} (h : SlQ α Q w hd xs) (hQ : ∀ q, Q q → Q' q) : SlQ α Q' w hd xs := h.mono fun _ _ hq => hQ _ hq
/-- The base under construction. -/
structure BaseAt (w0 w : World) (gb : Nat) (M : MLedger) (cf : GConf) (lh oh : Hdr) (xs : List GRef09Spot) : Prop where
  get : get? GRef09Base w ⟨gb, 0, none⟩ = some ⟨cf, M.epoch, M.last, lh, oh⟩
  free : blkFree w gb = true
  own : OwnS w w0.heap.size 214 oh.val xs
  ne : oh.val.ownBlock ≠ some gb
  names : SlQ GName (fun q => w0.heap.size ≤ q ∧ q ≠ gb ∧ oh.val.ownBlock ≠ some q) w lh (namesL M)
  low : w0.heap.size ≤ gb
  bel : Bel w0 w
theorem BaseAt.bel' {w0 w w' : World} {gb : Nat} {M : MLedger} {cf : GConf} {lh oh : Hdr} {xs : List GRef09Spot} (h : BaseAt w0 w gb M cf lh oh xs) (hb : Bel w w') : BaseAt w0 w' gb M cf lh oh xs :=
  ⟨GB.get hb h.get, (blkFree_keep (hb.block _ (get?_lt h.get))).trans h.free, OwnS.step h.own hb, h.ne, h.names.bel hb, h.low, h.bel.trans hb⟩
set_option maxRecDepth 100000 in
set_option maxHeartbeats 4000000 in
theorem rbase_any (g : Nat) (S U : Nat → Prop) (M : MLedger) (cf : GConf) (w : World) (h : RefIs w g S U M) (hl : M.l.length ≤ 1000000) :
    Calls Try.prog 123 #[.pointer (some ⟨g, 0, none⟩), cf.val] w (RBaseR M cf w) := by
  have hgl : g < w.heap.size := h.ltU g h.gU
  have hb2 : Bel w ((w.alloc (.cells cf.enc.toArray 109)).alloc (.cells (GRef09Base.enc default).toArray 211)) := ((Bel.refl w).alloc _).alloc _
  have hg4 := get?_new (w := w.alloc (.cells cf.enc.toArray 109)) 211 (default : GRef09Base)
  rw [World.size_alloc] at hg4
  have hf4 : blkFree ((w.alloc (.cells cf.enc.toArray 109)).alloc (.cells (GRef09Base.enc default).toArray 211)) (w.heap.size + 1) = true := blkFree_new _ _ (by simp)
  have hgc := get?_alloc (.cells (GRef09Base.enc default).toArray 211) (get?_new (w := w) 109 cf)
  have hz2 : ((w.alloc (.cells cf.enc.toArray 109)).alloc (.cells (GRef09Base.enc default).toArray 211)).heap.size = w.heap.size + 2 := by simp
  have H2 := Lib.hid (h.bel hb2); have HB2 := Lib.hid hb2; have HG4 := Lib.hid hg4; have HF4 := Lib.hid hf4
  obtain ⟨A, c, hg, _, _, hls⟩ := (h.bel hb2).list
  obtain ⟨f0, f1, f2, _⟩ := ref_cells hg
  simp only at f0 f1
  obtain ⟨n, hn⟩ : ∃ n, M.l.length = n := ⟨_, rfl⟩
  simp only [hn] at f2
  rw [hn] at hl
  have HN := Lib.hid hn; have HLS := Lib.hid hls; have F2 := Lib.hid f2
  clear h hg hls hb2 hg4 hf4 hn
  go_enter Try.func123, Try.ntmps123
  go_wp2_with fail
  change Hid (get? GRef09Base ((w.alloc (.cells cf.enc.toArray 109)).alloc (.cells (GRef09Base.enc default).toArray 211)) ⟨w.heap.size + 1, 0, none⟩ = some default) at HG4
  change get? GConf ((w.alloc (.cells cf.enc.toArray 109)).alloc (.cells (GRef09Base.enc default).toArray 211)) ⟨w.heap.size, 0, none⟩ = some cf at hgc
  generalize (w.alloc (.cells cf.enc.toArray 109)).alloc (.cells (GRef09Base.enc default).toArray 211) = w2 at H2 HB2 HG4 HF4 hgc hz2 HLS F2 f0 f1 f2 ⊢
  go_cut [5] (fun v wx => ∃ (gb : Nat) (lh : Hdr), v = .pointer (some ⟨gb, 0, none⟩) ∧ BaseAt w2 wx gb M cf lh default [])
  case first =>
    go_wp2_with fail
    refine wp_region_G GB [13] GB.rf (by kernel_rfl) ?_
    refine wpG_looks 4 14 [0,1,2,3,4,5,6,7,8,9] rfl GB.rf GB.tr (by kernel_rfl) (fun _ _ _ _ hd h => And.intro (hd ▸ And.left h) (And.right h)) rfl (by kernel_rfl) ?_
    intro ι W hne CW
    have g0 := fun z => (CW.out z).cell f0
    have g1 := fun z => (CW.out z).cell f1
    have g2 := fun z => (CW.out z).get hgc
    repeat (refine wpLooksG_step (fun K hK => ?_); go_simp; refine hK _ ?_; clear hK K)
    refine wpLooksG_nil ?_
    clear g0 g1 g2 CW hne W ι f0 f1 f2 hgc
    refine wpG_two 10 12 _ _ rfl rfl (by kernel_rfl) rfl rfl ?_ ?_
    · intro wa hwa K hK
      go_simp
      refine (logged09_any g S U M wa (H2.out.bel hwa.undrew) (by rw [HN.out]; exact hl)).mono ?_
      rintro _ wb ⟨v, rfl, hv, hbwb⟩
      obtain ⟨⟨la, ln, lc⟩, rfl, _, hlq0⟩ := OwnS.slQ hv
      have hlq := hlq0.inW
      simp only [Hdr.val]
      have HLQ := Lib.hid hlq
      refine hK _ _ (fun _ => hbwb) ?_
      clear hK K hv hlq hlq0
      have hb2b : Bel w2 wb := hwa.undrew.trans hbwb
      refine wpG_two 11 12 _ _ rfl rfl (by kernel_rfl) rfl rfl ?_ ?_
      · intro wc hwc K hK
        go_simp
        refine hK _ _ (fun _ => GB.rf _) ?_
        clear hK K
        refine wpG_force 12 _ rfl (by kernel_rfl) rfl fun wd hwd K hK => ?_
        go_simp
        refine hK _ _ (fun _ => GB.al _ _) ?_
        clear hK K
        have hgA := get?_new (w := wd) 211 (default : GRef09Base)
        have hfA : blkFree (wd.alloc (.cells (GRef09Base.enc default).toArray 211)) wd.heap.size = true := blkFree_new _ _ rfl
        have hbA : Bel wd (wd.alloc (.cells (GRef09Base.enc default).toArray 211)) := (Bel.refl wd).alloc _
        have hzA : (wd.alloc (.cells (GRef09Base.enc default).toArray 211)).heap.size = wd.heap.size + 1 := by simp
        change get? GRef09Base (wd.alloc (.cells (GRef09Base.enc default).toArray 211)) ⟨wd.heap.size, 0, none⟩ = some default at hgA
        generalize (wd.alloc (.cells (GRef09Base.enc default).toArray 211)) = w5 at hgA hfA hbA hzA ⊢
        refine wpG_force 13 _ rfl (by kernel_rfl) rfl fun wx hwx K hK => ?_
        have hbd : Bel wb wd := Bel.trans hwc hwd
        have hzd := hbd.size
        have hz2b := hb2b.size
        have hza := hwa.undrew.size
        have hbx5 : Bel w5 wx := hwx
        have k7 : get? GRef09Base wx ⟨wd.heap.size, 0, none⟩ = some default := GB.get hbx5 hgA
        have k8 : blkFree wx wd.heap.size = true := (blkFree_keep (hbx5.block _ (by omega))).trans hfA
        have hzX := (((hb2b.trans hbd).trans hbA).trans hbx5 : Bel w2 wx).size
        go_simp
        have hput := get?_put (⟨cf, M.epoch, M.last, ⟨la, ln, lc⟩, default⟩ : GRef09Base) k7
        have hcp : Chg (fun q => q = wd.heap.size) wx (World.putCells wx ⟨wd.heap.size, 0, none⟩ (GRef09Base.enc ⟨cf, M.epoch, M.last, ⟨la, ln, lc⟩, default⟩)) := Chg.putCells (a := ⟨wd.heap.size, 0, none⟩) _
        have hbp : Bel w2 (World.putCells wx ⟨wd.heap.size, 0, none⟩ (GRef09Base.enc ⟨cf, M.epoch, M.last, ⟨la, ln, lc⟩, default⟩)) := Below_putCells (a := ⟨wd.heap.size, 0, none⟩) (((hb2b.trans hbd).trans hbA).trans hbx5 : Bel w2 wx) (by show w2.heap.size ≤ wd.heap.size; omega) _
        have hnq : SlQ GName (fun q => w2.heap.size ≤ q ∧ q ≠ wd.heap.size) wx ⟨la, ln, lc⟩ (namesL M) := (HLQ.out.bel ((hbd.trans hbA).trans hbx5)).mono' (fun q hq => ⟨by have := hq.1; omega, fun e => by have := hq.2.2; omega⟩)
        have HBA := Lib.hid (show BaseAt w2 (World.putCells wx ⟨wd.heap.size, 0, none⟩ (GRef09Base.enc ⟨cf, M.epoch, M.last, ⟨la, ln, lc⟩, default⟩)) wd.heap.size M cf ⟨la, ln, lc⟩ default [] from ⟨hput, blkFree_putCells.trans k8, OwnS.nil _ _ _, by simp [Hdr.val, Value.ownBlock], (hnq.chg hcp (fun q hq e => hq.2 e)).mono (fun q _ hq => ⟨hq.1, hq.2, by simp [Hdr.val, Value.ownBlock]⟩), by omega, hbp⟩)
        clear k7 k8 hput hcp hbp hnq
        generalize (World.putCells wx ⟨wd.heap.size, 0, none⟩ (GRef09Base.enc ⟨cf, M.epoch, M.last, ⟨la, ln, lc⟩, default⟩)) = we at HBA ⊢
        refine hK _ _ (fun h => absurd (by simp) h) ?_
        clear hK K
        refine wpG_end (by kernel_rfl) (fun wn hwn => ?_) _
        have HF := Lib.hid (HBA.out.bel' hwn)
        clear hwn
        go_wp2_with fail
        go_meet
        exact ⟨_, _, rfl, HF.out⟩
      · intro wd hwd K hK
        go_simp
        refine hK _ _ (fun _ => GB.al _ _) ?_
        clear hK K
        have hgA := get?_new (w := wd) 211 (default : GRef09Base)
        have hfA : blkFree (wd.alloc (.cells (GRef09Base.enc default).toArray 211)) wd.heap.size = true := blkFree_new _ _ rfl
        have hbA : Bel wd (wd.alloc (.cells (GRef09Base.enc default).toArray 211)) := (Bel.refl wd).alloc _
        have hzA : (wd.alloc (.cells (GRef09Base.enc default).toArray 211)).heap.size = wd.heap.size + 1 := by simp
        change get? GRef09Base (wd.alloc (.cells (GRef09Base.enc default).toArray 211)) ⟨wd.heap.size, 0, none⟩ = some default at hgA
        generalize (wd.alloc (.cells (GRef09Base.enc default).toArray 211)) = w5 at hgA hfA hbA hzA ⊢
        refine wpG_force 11 _ rfl (by kernel_rfl) rfl fun wc hwc K hK => ?_
        go_simp
        refine hK _ _ (fun _ => GB.rf _) ?_
        clear hK K
        refine wpG_force 13 _ rfl (by kernel_rfl) rfl fun wx hwx K hK => ?_
        have hbd : Bel wb wd := hwd
        have hzd := hbd.size
        have hz2b := hb2b.size
        have hza := hwa.undrew.size
        have hbx5 : Bel w5 wx := Bel.trans hwc hwx
        have k7 : get? GRef09Base wx ⟨wd.heap.size, 0, none⟩ = some default := GB.get hbx5 hgA
        have k8 : blkFree wx wd.heap.size = true := (blkFree_keep (hbx5.block _ (by omega))).trans hfA
        have hzX := (((hb2b.trans hbd).trans hbA).trans hbx5 : Bel w2 wx).size
        go_simp
        have hput := get?_put (⟨cf, M.epoch, M.last, ⟨la, ln, lc⟩, default⟩ : GRef09Base) k7
        have hcp : Chg (fun q => q = wd.heap.size) wx (World.putCells wx ⟨wd.heap.size, 0, none⟩ (GRef09Base.enc ⟨cf, M.epoch, M.last, ⟨la, ln, lc⟩, default⟩)) := Chg.putCells (a := ⟨wd.heap.size, 0, none⟩) _
        have hbp : Bel w2 (World.putCells wx ⟨wd.heap.size, 0, none⟩ (GRef09Base.enc ⟨cf, M.epoch, M.last, ⟨la, ln, lc⟩, default⟩)) := Below_putCells (a := ⟨wd.heap.size, 0, none⟩) (((hb2b.trans hbd).trans hbA).trans hbx5 : Bel w2 wx) (by show w2.heap.size ≤ wd.heap.size; omega) _
        have hnq : SlQ GName (fun q => w2.heap.size ≤ q ∧ q ≠ wd.heap.size) wx ⟨la, ln, lc⟩ (namesL M) := (HLQ.out.bel ((hbd.trans hbA).trans hbx5)).mono' (fun q hq => ⟨by have := hq.1; omega, fun e => by have := hq.2.2; omega⟩)
        have HBA := Lib.hid (show BaseAt w2 (World.putCells wx ⟨wd.heap.size, 0, none⟩ (GRef09Base.enc ⟨cf, M.epoch, M.last, ⟨la, ln, lc⟩, default⟩)) wd.heap.size M cf ⟨la, ln, lc⟩ default [] from ⟨hput, blkFree_putCells.trans k8, OwnS.nil _ _ _, by simp [Hdr.val, Value.ownBlock], (hnq.chg hcp (fun q hq e => hq.2 e)).mono (fun q _ hq => ⟨hq.1, hq.2, by simp [Hdr.val, Value.ownBlock]⟩), by omega, hbp⟩)
        clear k7 k8 hput hcp hbp hnq
        generalize (World.putCells wx ⟨wd.heap.size, 0, none⟩ (GRef09Base.enc ⟨cf, M.epoch, M.last, ⟨la, ln, lc⟩, default⟩)) = we at HBA ⊢
        refine hK _ _ (fun h => absurd (by simp) h) ?_
        clear hK K
        refine wpG_end (by kernel_rfl) (fun wn hwn => ?_) _
        have HF := Lib.hid (HBA.out.bel' hwn)
        clear hwn
        go_wp2_with fail
        go_meet
        exact ⟨_, _, rfl, HF.out⟩
    · intro wd hwd K hK
      go_simp
      refine hK _ _ (fun _ => GB.al _ _) ?_
      clear hK K
      have hgA := get?_new (w := wd) 211 (default : GRef09Base)
      have hfA : blkFree (wd.alloc (.cells (GRef09Base.enc default).toArray 211)) wd.heap.size = true := blkFree_new _ _ rfl
      have hbA : Bel wd (wd.alloc (.cells (GRef09Base.enc default).toArray 211)) := (Bel.refl wd).alloc _
      have hzA : (wd.alloc (.cells (GRef09Base.enc default).toArray 211)).heap.size = wd.heap.size + 1 := by simp
      change get? GRef09Base (wd.alloc (.cells (GRef09Base.enc default).toArray 211)) ⟨wd.heap.size, 0, none⟩ = some default at hgA
      generalize (wd.alloc (.cells (GRef09Base.enc default).toArray 211)) = w5 at hgA hfA hbA hzA ⊢
      have hb25 : Bel w2 w5 := hwd.undrew.trans hbA
      refine wpG_force 10 _ rfl (by kernel_rfl) rfl fun wa hwa K hK => ?_
      have hb2a : Bel w2 wa := hb25.trans hwa
      go_simp
      refine (logged09_any g S U M wa (H2.out.bel hb2a) (by rw [HN.out]; exact hl)).mono ?_
      rintro _ wb ⟨v, rfl, hv, hbwb⟩
      obtain ⟨⟨la, ln, lc⟩, rfl, _, hlq0⟩ := OwnS.slQ hv
      have hlq := hlq0.inW
      simp only [Hdr.val]
      have HLQ := Lib.hid hlq
      refine hK _ _ (fun _ => hbwb) ?_
      clear hK K hv hlq hlq0
      refine wpG_force 11 _ rfl (by kernel_rfl) rfl fun wc hwc K hK => ?_
      go_simp
      refine hK _ _ (fun _ => GB.rf _) ?_
      clear hK K
      refine wpG_force 13 _ rfl (by kernel_rfl) rfl fun wx hwx K hK => ?_
      have hbx : Bel wb wx := Bel.trans hwc hwx
      have hz5a : w5.heap.size ≤ wa.heap.size := Below.size hwa
      have hzd2 := hwd.undrew.size
      have hbx5 : Bel w5 wx := Bel.trans (Bel.trans hwa hbwb) hbx
      have k7 : get? GRef09Base wx ⟨wd.heap.size, 0, none⟩ = some default := GB.get hbx5 hgA
      have k8 : blkFree wx wd.heap.size = true := (blkFree_keep (hbx5.block _ (by omega))).trans hfA
      have hzX := (hb25.trans hbx5 : Bel w2 wx).size
      go_simp
      have hput := get?_put (⟨cf, M.epoch, M.last, ⟨la, ln, lc⟩, default⟩ : GRef09Base) k7
      have hcp : Chg (fun q => q = wd.heap.size) wx (World.putCells wx ⟨wd.heap.size, 0, none⟩ (GRef09Base.enc ⟨cf, M.epoch, M.last, ⟨la, ln, lc⟩, default⟩)) := Chg.putCells (a := ⟨wd.heap.size, 0, none⟩) _
      have hbp : Bel w2 (World.putCells wx ⟨wd.heap.size, 0, none⟩ (GRef09Base.enc ⟨cf, M.epoch, M.last, ⟨la, ln, lc⟩, default⟩)) := Below_putCells (a := ⟨wd.heap.size, 0, none⟩) (hb25.trans hbx5 : Bel w2 wx) (by show w2.heap.size ≤ wd.heap.size; omega) _
      have hnq : SlQ GName (fun q => w2.heap.size ≤ q ∧ q ≠ wd.heap.size) wx ⟨la, ln, lc⟩ (namesL M) := (HLQ.out.bel hbx).mono' (fun q hq => ⟨by have := hq.1; omega, fun e => by have := hq.1; omega⟩)
      have HBA := Lib.hid (show BaseAt w2 (World.putCells wx ⟨wd.heap.size, 0, none⟩ (GRef09Base.enc ⟨cf, M.epoch, M.last, ⟨la, ln, lc⟩, default⟩)) wd.heap.size M cf ⟨la, ln, lc⟩ default [] from ⟨hput, blkFree_putCells.trans k8, OwnS.nil _ _ _, by simp [Hdr.val, Value.ownBlock], (hnq.chg hcp (fun q hq e => hq.2 e)).mono (fun q _ hq => ⟨hq.1, hq.2, by simp [Hdr.val, Value.ownBlock]⟩), by omega, hbp⟩)
      clear k7 k8 hput hcp hbp hnq
      generalize (World.putCells wx ⟨wd.heap.size, 0, none⟩ (GRef09Base.enc ⟨cf, M.epoch, M.last, ⟨la, ln, lc⟩, default⟩)) = we at HBA ⊢
      refine hK _ _ (fun h => absurd (by simp) h) ?_
      clear hK K
      refine wpG_end (by kernel_rfl) (fun wn hwn => ?_) _
      have HF := Lib.hid (HBA.out.bel' hwn)
      clear hwn
      go_wp2_with fail
      go_meet
      exact ⟨_, _, rfl, HF.out⟩
  case rest =>
    obtain ⟨gb, lh, rfl, hBA⟩ := hcut
    obtain ⟨w3, rfl⟩ : ∃ w3 : World, w3 = wc := ⟨_, rfl⟩
    have HBA := Lib.hid hBA
    have f2 : w3.cell? ⟨g, 2, none⟩ = some (.slice A n c) := GB.cell hBA.bel F2.out
    clear hBA f0 f1 hgc
    go_wp2_with fail
    clear f2
    go_loopw [24] (fun i wr => ∃ (k : Nat) (oh : Hdr), k ≤ n ∧ i = .int .i64 k ∧ BaseAt w2 wr gb M cf lh oh (spotsL (M.l.take k))) (fun i _ => n - (intOf i).toNat)
    case atStart => exact ⟨0, default, by omega, rfl, by rw [List.take_zero]; exact HBA.out⟩
    case round =>
      obtain ⟨k, ⟨oa, on, oc⟩, hk, rfl, hB⟩ := hrel
      obtain ⟨wi, rfl⟩ : ∃ wi : World, wi = wr := ⟨_, rfl⟩
      have HB := Lib.hid hB; clear hB
      by_cases hlt : k < n
      · obtain ⟨m, hm⟩ : ∃ m, M.l[k]? = some m := ⟨_, List.getElem?_eq_getElem (by rw [HN.out]; exact hlt)⟩
        obtain ⟨pb, x, rfl, hx, hxe, hxs, _⟩ := HLS.out k m hm
        have hgx := GB.get HB.out.bel hx
        have f2 : wi.cell? ⟨g, 2, none⟩ = some (.slice (some ⟨pb, 0, none⟩) n c) := GB.cell HB.out.bel F2.out
        have fs : wi.cell? ⟨pb, k * 37 + 35, none⟩ = some (.int .i64 m.status) := by
          have := cell_off (by omega) (GRef15Place.at_status hgx)
          rw [hxs] at this
          exact this
        have fe : get? GEntry wi ⟨pb, k * 37, none⟩ = some m.e := by
          have := GRef15Place.at_e hgx
          rw [Addr.add_zero', hxe] at this
          exact this
        have hst := spots_take hm
        have hlt2 : (k : Int) < (n : Int) := by omega
        have hk0 : (0 : Int) ≤ (k : Int) := by omega
        by_cases h1 : m.status = 1
        · have hb1 : (m.status == 1) = true := by simp [h1]
          rw [if_pos h1] at hst
          have HST := Lib.hid hst
          have hlen : (spotsL (M.l.take k)).length ≤ 1000000 := by
            unfold spotsL
            rw [List.length_map]
            have := opens_len (M.l.take k) 0
            rw [List.length_take] at this
            omega
          obtain ⟨A9, c9, hv9, _⟩ := OwnS.ownA HB.out.own
          unfold Hdr.val at hv9
          injection hv9 with e91 hon e93
          subst e91; subst e93
          have hon' : (spotsL (M.l.take k)).length = on := hon.symm
          have HON := Lib.hid hon'
          have f5 : wi.cell? ⟨gb, 5, none⟩ = some (.slice oa on oc) := cell_off (by omega) (GRef09Base.at_open_ HB.out.get)
          clear hm hx hxe hxs hgx h1 hst hon hon' hlen
          go_wp2_with fail
          clear fs
          refine wp_region_G GB [13, 15] GB.rf (by kernel_rfl) ?_
          refine wpG_looks 4 16 [0,1,2,3,4,5,6,7,8,9,10,11] rfl GB.rf GB.tr (by kernel_rfl) (fun _ _ _ _ hd h => And.intro (hd ▸ And.left h) (And.right h)) rfl (by kernel_rfl) ?_
          intro ι W hne CW
          have g2 := fun z => (CW.out z).cell f2
          have g3 := fun z => (CW.out z).get fe
          have g5 := fun z => (CW.out z).cell f5
          repeat (refine wpLooksG_step (fun K hK => ?_); go_simp; refine hK _ ?_; clear hK K)
          refine wpLooksG_nil ?_
          clear g2 g3 g5 CW hne W ι f2 fe f5
          refine wpG_force 12 _ rfl (by kernel_rfl) rfl fun wd hwd K hK => ?_
          go_simp
          refine hK _ _ (fun _ => GB.al _ _) ?_
          clear hK K
          have hsl7 : Sl GRef09Spot (wd.alloc (.cells (⟨(k : Int), m.e⟩ : GRef09Spot).enc.toArray 214)) (wd.heap.size + 1) (some ⟨wd.heap.size, 0, none⟩) 1 [⟨(k : Int), m.e⟩] := Sl.new_ (by simp; rfl) rfl rfl (by omega)
          have hbe1 : Bel wi (wd.alloc (.cells (⟨(k : Int), m.e⟩ : GRef09Spot).enc.toArray 214)) := Bel.alloc (GB.undrew hwd) _
          have hzd : (wd.alloc (.cells (⟨(k : Int), m.e⟩ : GRef09Spot).enc.toArray 214)).heap.size = wd.heap.size + 1 := by simp
          generalize wd.alloc (.cells (⟨(k : Int), m.e⟩ : GRef09Spot).enc.toArray 214) = wd2 at hsl7 hbe1 hzd ⊢
          refine wpG_force 13 _ rfl (by kernel_rfl) rfl fun we hwe K hK => ?_
          have hbce : Bel wi we := hbe1.trans hwe
          have hBe := HB.out.bel' hbce
          obtain ⟨v8, w8, hrun8, ho8, hg8, hob8⟩ := gAppend_S (P := Try.prog) ei209 (t := 209) hBe.own (c := 1) (m := 1) (A := some ⟨wd.heap.size, 0, none⟩) (hsl7.below (Below.mono hwe (by omega))) (by rw [HON.out]; have h9 : on ≤ 1000000 := by { have h8 := opens_len (M.l.take k) 0; have h7 := HON.out; unfold spotsL at h7; rw [List.length_map] at h7; rw [List.length_take] at h8; omega }; unfold maxLen; omega) (by rw [HON.out]; have h9 : on ≤ 1000000 := by { have h8 := opens_len (M.l.take k) 0; have h7 := HON.out; unfold spotsL at h7; rw [List.length_map] at h7; rw [List.length_take] at h8; omega }; omega) (by have := hBe.bel.size; omega) 209
          simp only [Hdr.val] at hrun8
          go_simp
          rw [← HST.out] at ho8
          obtain ⟨A8, c8, hv8, _⟩ := OwnS.ownA ho8
          subst hv8
          have hge8 : get? GRef09Base w8 ⟨gb, 0, none⟩ = some ⟨cf, M.epoch, M.last, lh, ⟨oa, on, oc⟩⟩ := (Chg.of_grown (S := fun q => (Hdr.val ⟨oa, on, oc⟩).ownBlock = some q) hg8 (fun q hq => hq)).get hBe.get (fun e => hBe.ne e)
          have hfr8 : blkFree w8 gb = true := (Chg.of_grown (S := fun q => (Hdr.val ⟨oa, on, oc⟩).ownBlock = some q) hg8 (fun q hq => hq)).free hBe.free (get?_lt hBe.get) (fun e => hBe.ne e)
          have hne8 : (Value.slice A8 (spotsL (M.l.take (k + 1))).length c8).ownBlock ≠ some gb := fun e => by
            rcases hob8 with h | h
            · exact hBe.ne (by rw [← h]; exact e)
            · rw [e] at h
              injection h with h
              have h5 : gb < we.heap.size := get?_lt hBe.get
              omega
          have hnm8 : SlQ GName (fun q => w2.heap.size ≤ q ∧ q ≠ gb ∧ (Value.slice A8 (spotsL (M.l.take (k + 1))).length c8).ownBlock ≠ some q) w8 lh (namesL M) :=
            (hBe.names.mono (Q' := fun q => (w2.heap.size ≤ q ∧ q ≠ gb ∧ (Value.slice A8 (spotsL (M.l.take (k + 1))).length c8).ownBlock ≠ some q) ∧ (Hdr.val ⟨oa, on, oc⟩).ownBlock ≠ some q) (fun q hq hp => ⟨⟨hp.1, hp.2.1, fun e => by
              rcases hob8 with h | h
              · exact hp.2.2 (by rw [← h]; exact e)
              · rw [e] at h
                injection h with h
                omega⟩, hp.2.2⟩)).chg (Chg.of_grown (S := fun q => (Hdr.val ⟨oa, on, oc⟩).ownBlock = some q) hg8 (fun q hq => hq)) (fun q hq e => hq.2 e) |>.mono' (fun q hq => hq.1)
          have hb8 : Bel w2 w8 := hBe.bel.grown hg8 (fun q hq => (hBe.own.lt q hq).1)
          have HO8 := Lib.hid ho8; have HGE8 := Lib.hid hge8; have HFR8 := Lib.hid hfr8; have HNE8 := Lib.hid hne8; have HNM8 := Lib.hid hnm8; have HB8 := Lib.hid hb8
          refine hK _ _ (fun h => absurd (by simp) h) ?_
          clear hK K hrun8 ho8 hg8 hob8 hge8 hfr8 hne8 hnm8 hb8 hBe hbce hbe1 hsl7 hwe hwd
          refine wpG_force 14 _ rfl (by kernel_rfl) rfl fun wf hwf K hK => ?_
          go_simp
          refine hK _ _ (fun _ => GB.rf _) ?_
          clear hK K
          refine wpG_force 15 _ rfl (by kernel_rfl) rfl fun wg hwg K hK => ?_
          have hb9 : Bel w8 wg := Bel.trans hwf hwg
          have hge9 := GB.get hb9 HGE8.out
          have hlt9 : gb < w8.heap.size := get?_lt HGE8.out
          have hfr9 : blkFree wg gb = true := (blkFree_keep (hb9.block _ hlt9)).trans HFR8.out
          have e5 : wg.cell? ⟨gb, 5, none⟩ = some (.slice oa on oc) := cell_off (by omega) (GRef09Base.at_open_ hge9)
          have z5 : wg.frozen? ⟨gb, 5, none⟩ = false := frozen_of_free (a := ⟨gb, 5, none⟩) hfr9
          go_simp
          have hge10 : get? GRef09Base (wg.setCell ⟨gb, 5, none⟩ (.slice A8 (spotsL (M.l.take (k + 1))).length c8)) ⟨gb, 0, none⟩ = some ⟨cf, M.epoch, M.last, lh, ⟨A8, (spotsL (M.l.take (k + 1))).length, c8⟩⟩ := get?_poke hge9 rfl
          have hc10 : Chg (fun q => q = gb) wg (wg.setCell ⟨gb, 5, none⟩ (.slice A8 (spotsL (M.l.take (k + 1))).length c8)) := Chg.setCell (S := fun q => q = gb) (p := ⟨gb, 5, none⟩) rfl _
          have HBX := Lib.hid (show BaseAt w2 (wg.setCell ⟨gb, 5, none⟩ (.slice A8 (spotsL (M.l.take (k + 1))).length c8)) gb M cf lh ⟨A8, (spotsL (M.l.take (k + 1))).length, c8⟩ (spotsL (M.l.take (k + 1))) from
            ⟨hge10, by rw [blkFree_setCell]; exact hfr9, (OwnS.step HO8.out hb9).chg hc10 (fun q hq e => HNE8.out (by rw [← e]; exact hq)), HNE8.out, (HNM8.out.bel hb9).chg hc10 (fun q hq e => hq.2.1 e), HB.out.low, Chg.bel2 (HB8.out.trans hb9) hc10 (fun q hq => by have h1 : q = gb := hq; rw [h1]; exact HB.out.low)⟩)
          clear hge10 hc10 e5 z5 hge9 hfr9 hb9 hwf hwg
          generalize wg.setCell ⟨gb, 5, none⟩ (.slice A8 (spotsL (M.l.take (k + 1))).length c8) = wl at HBX ⊢
          refine hK _ _ (fun h => absurd (by simp) h) ?_
          clear hK K
          refine wpG_end (by kernel_rfl) (fun wm hwm => ?_) _
          have HBY := Lib.hid (HBX.out.bel' hwm)
          clear hwm
          go_wp2_with fail
          exact ⟨⟨k + 1, _, by omega, by go_num, HBY.out⟩, by simp [intOf]; omega⟩
        · have hb1 : (m.status == 1) = false := by simp [h1]
          rw [if_neg h1, List.append_nil] at hst
          have HST := Lib.hid hst
          clear hm hx hxe hxs hgx h1 hst fe
          go_wp2_with fail
          exact ⟨⟨k + 1, ⟨oa, on, oc⟩, by omega, by go_num, by rw [HST.out]; exact HB.out⟩, by simp [intOf]; omega⟩
      · have hkn : n = k := by omega
        have hot : spotsL (M.l.take k) = spotsL M.l := by rw [List.take_of_length_le (by rw [HN.out, hkn]; exact Nat.le_refl _)]
        rw [hot] at HB
        have hk3 : ¬ (k : Int) < (n : Int) := by omega
        have hgb := HB.out.get
        have hg4 := GB.get HB.out.bel HG4.out
        have hf4 : blkFree wi (w.heap.size + 1) = true := (blkFree_keep (HB.out.bel.block _ (by omega))).trans HF4.out
        clear hot hkn
        go_wp2_with fail
        --GOAL
        have hput := get?_put (⟨cf, M.epoch, M.last, lh, ⟨oa, on, oc⟩⟩ : GRef09Base) hg4
        have hcp : Chg (fun q => q = w.heap.size + 1) wi (World.putCells wi ⟨w.heap.size + 1, 0, none⟩ (GRef09Base.enc ⟨cf, M.epoch, M.last, lh, ⟨oa, on, oc⟩⟩)) := Chg.putCells (a := ⟨w.heap.size + 1, 0, none⟩) _
        have hown : SlQ GRef09Spot (fun q => w2.heap.size ≤ q) wi ⟨oa, on, oc⟩ (spotsL M.l) := by
          obtain ⟨A9, c9, hv9, _⟩ := OwnS.ownA HB.out.own
          unfold Hdr.val at hv9
          injection hv9 with _ hon _
          exact own_s (by have := HB.out.own; exact this) hon.symm
        refine bodyPost_ret (results_cell (x := (⟨cf, M.epoch, M.last, lh, ⟨oa, on, oc⟩⟩ : GRef09Base)) rfl rfl ag211 sz211 hput) rfl ⟨lh, ⟨oa, on, oc⟩, by rw [GRef09Base.val_eq], (HB.out.names.chg hcp (fun q hq e => by omega)).mono' (fun q hq => by omega), (hown.chg hcp (fun q hq e => by omega)).mono' (fun q hq => by omega), Below_putCells (a := ⟨w.heap.size + 1, 0, none⟩) (HB2.out.trans HB.out.bel) (by show w.heap.size ≤ w.heap.size + 1; omega) _⟩
end Go.Proofs.Yteockodnfempfaa
/- Batches to both ledgers: what each call answers; names that are in no ledger. Conditions: those named in each theorem. -/
namespace Go.Proofs.Yteockodnfempfaa
open Go Go.RowKit Go.Gv Go.Sort

def resI (M : MLedger) (B : MBatch) (M' : MLedger) : Int × Int := if refuseB M B = true then (0, 1) else ((M'.l.length : Int) - (M.l.length : Int), 0)
theorem resI_yes {M : MLedger} {B : MBatch} {es : List GEntry} (h : refuseB M B = false) : resI M B (appliedM M B es) = ((es.length : Int), 0) := by
  unfold resI
  rw [if_neg (by rw [h]; decide)]
  have : (appliedM M B es).l.length = M.l.length + es.length := by
    show ((endedM M B).l ++ es.map newP).length = _
    rw [List.length_append, List.length_map, (endedM_same M B).len]
  rw [this]
  congr 1
  push_cast
  omega
theorem resI_no {M : MLedger} {B : MBatch} {M' : MLedger} (h : refuseB M B = true) : resI M B M' = (0, 1) := by
  unfold resI
  rw [if_pos h]
def Apply3 (g : Nat) (S U : Nat → Prop) (M : MLedger) (B : MBatch) (w : World) (e : Ending) (w' : World) : Prop :=
  ∃ (M' : MLedger) (S' U' : Nat → Prop), StepM M B M' ∧ e = .returned (.tuple #[.int .i64 (resI M B M').1, .int .i64 (resI M B M').2]) ∧ LedgerIs w' g S' U' M' ∧ (∀ k, U' k → U k ∨ w.heap.size ≤ k) ∧ (∀ k, S' k → S k ∨ w.heap.size ≤ k) ∧ Chg S w w'
theorem apply3_any (g : Nat) (S U : Nat → Prop) (M : MLedger) (x : GBatch) (B : MBatch) (Q : Nat → Prop) (w : World) (h : LedgerIs w g S U M) (hx : BatchIs Q w x B) (hQ : ∀ k, Q k → ¬ U k)
    (he0 : 0 ≤ M.epoch) (he1 : M.epoch ≤ 1000000) (hml : M.l.length ≤ 1000000) (hfl : B.proms.flatten.length ≤ 1000000) :
    Calls Try.prog 42 #[.pointer (some ⟨g, 0, none⟩), x.val] w (Apply3 g S U M B w) := by
  cases hr : refuseB M B with
  | true =>
    refine (apply_no g S U M x B Q w h hx hr).mono ?_
    rintro e w' ⟨rfl, hL, hb⟩
    exact ⟨M, S, U, .inl ⟨hr, rfl⟩, by rw [resI_no hr], hL, fun _ h => .inl h, fun _ h => .inl h, Chg.of_bel hb S⟩
  | false =>
    refine (apply_yes g S U M x B Q w h hx hQ hr he0 he1 hml hfl).mono ?_
    rintro e w' ⟨es, S', U', hes, rfl, hL, hU, hS, hC⟩
    exact ⟨appliedM M B es, S', U', .inr ⟨hr, es, hes, rfl⟩, by rw [resI_yes hr], hL, hU, hS, hC⟩
def RApply3 (g : Nat) (S U : Nat → Prop) (M M' : MLedger) (B : MBatch) (w : World) (e : Ending) (w' : World) : Prop :=
  ∃ (S' U' : Nat → Prop), e = .returned (.tuple #[.int .i64 (resI M B M').1, .int .i64 (resI M B M').2]) ∧ RefIs w' g S' U' M' ∧ (∀ k, U' k → U k ∨ w.heap.size ≤ k) ∧ (∀ k, S' k → S k ∨ w.heap.size ≤ k) ∧ Chg (fun q => q = g) w w'
theorem rapply3_any (g : Nat) (S U : Nat → Prop) (M M' : MLedger) (x : GBatch) (B : MBatch) (Q : Nat → Prop) (w : World) (h : RefIs w g S U M) (hx : BatchIs Q w x B) (hQ : ∀ k, Q k → k ≠ g) (hst : StepM M B M')
    (he0 : 0 ≤ M.epoch) (he1 : M.epoch ≤ 1000000) (hml : M.l.length ≤ 1000000) (hfl : B.proms.flatten.length ≤ 1000000) (hoe : OpenE M) :
    Calls Try.prog 56 #[.pointer (some ⟨g, 0, none⟩), x.val] w (RApply3 g S U M M' B w) := by
  rcases hst with ⟨hr, rfl⟩ | ⟨hr, es, hes, rfl⟩
  · refine (rapply_no g S U M' x B Q w h hx hr).mono ?_
    rintro e w' ⟨rfl, hb⟩
    exact ⟨S, U, by rw [resI_no hr], h.bel hb, fun _ h => .inl h, fun _ h => .inl h, Chg.of_bel hb _⟩
  · refine (rapply_yes g S U M x B Q w h hx hQ hr he0 he1 hml hfl hoe).mono ?_
    rintro e w' ⟨es', S', U', hes', rfl, h1, h2, h3, h4⟩
    obtain rfl := EntriesOf.one hes hes'
    exact ⟨S', U', by rw [resI_yes hr], h1, h2, fun q hq => by
      rcases h3 q hq with e | e
      · rw [e]; exact .inl h.gS
      · exact .inr e, h4⟩
/-- Names of small batches: clients below 3. -/
def NamesOk (M : MLedger) : Prop := ∀ m ∈ M.l, m.e.name.client < 9
theorem NamesOk.nine {M : MLedger} (h : NamesOk M) : ∀ m ∈ M.l, m.e.name ≠ ⟨9, 9⟩ := fun m hm e => by
  have := h m hm
  rw [e] at this
  simp at this
theorem small_names (R : RBatch) (epoch last : Int) : ∀ e ∈ (smallM R epoch last).proms.flatten, e.name.client < 9 := by
  intro e he
  rw [List.mem_flatten] at he
  obtain ⟨l, hl, hel⟩ := he
  unfold smallM at hl
  simp only [List.mem_map] at hl
  obtain ⟨r, _, rfl⟩ := hl
  unfold promE promK at hel
  rw [List.mem_map] at hel
  obtain ⟨p, _, rfl⟩ := hel
  have := (within_lt p.1.name.client (n := 3) (by omega)).2
  show within p.1.name.client 3 < 9
  omega
theorem EntriesOf.mem {last : Int} {S : List GName} {B : MBatch} {es : List GEntry} (h : EntriesOf last S B es) {e : GEntry} (he : e ∈ es) : e ∈ B.proms.flatten := by
  have h1 := (h.1.mem_iff).1 he
  rw [List.mem_map] at h1
  obtain ⟨p, hp, rfl⟩ := h1
  exact ((bestIs last B.time S B.proms.flatten).is p hp).2.2.2.2
theorem StepM.namesOk {M M' : MLedger} {R : RBatch} (h : StepM M (smallM R M.epoch M.last) M') (hn : NamesOk M) : NamesOk M' := by
  rcases h with ⟨_, rfl⟩ | ⟨_, es, hes, rfl⟩
  · exact hn
  · intro m hm
    have hm' : m ∈ (endedM M (smallM R M.epoch M.last)).l ++ es.map newP := hm
    rw [List.mem_append] at hm'
    rcases hm' with hm' | hm'
    · exact tombF_all (P := fun m => m.e.name.client < 9) _ _ (openF_all _ _ hn fun m o h _ => h) (fun m h => h) m hm'
    · rw [List.mem_map] at hm'
      obtain ⟨e, he, rfl⟩ := hm'
      exact small_names R M.epoch M.last e (hes.mem he)
end Go.Proofs.Yteockodnfempfaa
/- The two bases are alike: the first region of base. Conditions: those named in each theorem. -/
namespace Go.Proofs.Yteockodnfempfaa
open Go Go.RowKit Go.Gv Go.Sort

section
variable {P : Program} {md : Region.Mode} {Q : Exit → Act → World → Prop} {G : World → World → Prop} {T : List Nat}
/-- Three operations are ready. -/
theorem wpG_three {l : List Oper} {fuel : Nat} {listed : Array Bool} {a : Act} {w : World} (t1 t2 t3 : Nat) (o1 o2 o3 : Oper) (ho1 : nthO l t1 = some o1) (ho2 : nthO l t2 = some o2) (ho3 : nthO l t3 = some o3) (hr : (Region.ready md l.toArray listed == [t1, t2, t3]) = true) (hg1 : o1.guard = none) (hg2 : o2.guard = none) (hg3 : o3.guard = none)
    (h1 : ∀ w', G w w' → ∀ K : Act → World → Prop, (∀ a' w'', (t1 ∉ T → G w' w'') → wpG P md l.toArray Q G T fuel (listed.setIfInBounds t1 true) a' w'' → K a' w'') → o1.wp P a w' K Q)
    (h2 : ∀ w', G w w' → ∀ K : Act → World → Prop, (∀ a' w'', (t2 ∉ T → G w' w'') → wpG P md l.toArray Q G T fuel (listed.setIfInBounds t2 true) a' w'' → K a' w'') → o2.wp P a w' K Q)
    (h3 : ∀ w', G w w' → ∀ K : Act → World → Prop, (∀ a' w'', (t3 ∉ T → G w' w'') → wpG P md l.toArray Q G T fuel (listed.setIfInBounds t3 true) a' w'' → K a' w'') → o3.wp P a w' K Q) : wpG P md l.toArray Q G T (fuel + 1) listed a w := by
  have ho1 : l.toArray[t1]? = some o1 := by rw [← ho1, nthO_eq]; simp
  have ho2 : l.toArray[t2]? = some o2 := by rw [← ho2, nthO_eq]; simp
  have ho3 : l.toArray[t3]? = some o3 := by rw [← ho3, nthO_eq]; simp
  have hr' : Region.ready md l.toArray listed = [t1, t2, t3] := by simpa using hr
  refine ⟨fun h0 => (by rw [hr'] at h0; cases h0), fun i hi w' hw' => ?_⟩
  rw [hr'] at hi
  simp only [List.mem_cons, List.not_mem_nil, or_false] at hi
  unfold Go.wpOp
  rcases hi with rfl | rfl | rfl
  · simp only [ho1]
    rw [if_pos (by simp [Region.wanted, hg1])]
    exact .inl (h1 w' hw' _ fun a' w'' k1 k2 => ⟨k1, k2⟩)
  · simp only [ho2]
    rw [if_pos (by simp [Region.wanted, hg2])]
    exact .inl (h2 w' hw' _ fun a' w'' k1 k2 => ⟨k1, k2⟩)
  · simp only [ho3]
    rw [if_pos (by simp [Region.wanted, hg3])]
    exact .inl (h3 w' hw' _ fun a' w'' k1 k2 => ⟨k1, k2⟩)
end
/-- Both bases lie there. -/
def BasesAt (w0 w : World) (g1 g2 : Nat) (M : MLedger) (cf : GConf) : Prop := ∃ (rl ro : Nat) (nl : List (GName × Bool)) (lh oh : Hdr), get? GBatchBase w ⟨g1, 0, none⟩ = some ⟨cf, M.epoch, M.last, some rl, some ro⟩ ∧ mapAt GName Bool w rl = some nl ∧ SetIs nl (namesL M) ∧ mapAt Int GEntry w ro = some (opensL M) ∧
  get? GRef09Base w ⟨g2, 0, none⟩ = some ⟨cf, M.epoch, M.last, lh, oh⟩ ∧ SlQ GName (fun _ => True) w lh (namesL M) ∧ SlQ GRef09Spot (fun _ => True) w oh (spotsL M.l) ∧ Bel w0 w
theorem bases_put {w0 wx : World} {gA gB rl ro : Nat} {nl : List (GName × Bool)} {lh oh : Hdr} {M : MLedger} {cf : GConf} (hb : Bel w0 wx) (hA0 : w0.heap.size ≤ gA) (hB0 : w0.heap.size ≤ gB) (hAB : gA ≠ gB)
    (hgA : get? GBatchBase wx ⟨gA, 0, none⟩ = some default) (hgB : get? GRef09Base wx ⟨gB, 0, none⟩ = some default)
    (hnl : mapAt GName Bool wx rl = some nl) (hset : SetIs nl (namesL M)) (hop : mapAt Int GEntry wx ro = some (opensL M)) (hlh : SlQ GName (fun q => q ≠ gA ∧ q ≠ gB) wx lh (namesL M)) (hoh : SlQ GRef09Spot (fun q => q ≠ gA ∧ q ≠ gB) wx oh (spotsL M.l))
    (h1 : rl ≠ gA) (h2 : rl ≠ gB) (h3 : ro ≠ gA) (h4 : ro ≠ gB) :
    get? GRef09Base (World.putCells wx ⟨gA, 0, none⟩ (GBatchBase.enc ⟨cf, M.epoch, M.last, some rl, some ro⟩)) ⟨gB, 0, none⟩ = some default ∧
    (∀ wy, Bel (World.putCells wx ⟨gA, 0, none⟩ (GBatchBase.enc ⟨cf, M.epoch, M.last, some rl, some ro⟩)) wy → BasesAt w0 (World.putCells wy ⟨gB, 0, none⟩ (GRef09Base.enc ⟨cf, M.epoch, M.last, lh, oh⟩)) gA gB M cf) := by
  have hput := get?_put (⟨cf, M.epoch, M.last, some rl, some ro⟩ : GBatchBase) hgA
  have hcp : Chg (fun q => q = gA) wx (World.putCells wx ⟨gA, 0, none⟩ (Enc.enc (⟨cf, M.epoch, M.last, some rl, some ro⟩ : GBatchBase))) := Chg.putCells (a := ⟨gA, 0, none⟩) _
  have hbp : Bel w0 (World.putCells wx ⟨gA, 0, none⟩ (Enc.enc (⟨cf, M.epoch, M.last, some rl, some ro⟩ : GBatchBase))) := Chg.bel2 hb hcp (fun q hq => by have e : q = gA := hq; omega)
  have hB1 := hcp.get hgB (fun e => hAB (Eq.symm e))
  refine ⟨hB1, fun wy hy => ?_⟩
  have hB2 := GB.get hy hB1
  have hput2 := get?_put (⟨cf, M.epoch, M.last, lh, oh⟩ : GRef09Base) hB2
  have hcp2 : Chg (fun q => q = gB) wy (World.putCells wy ⟨gB, 0, none⟩ (Enc.enc (⟨cf, M.epoch, M.last, lh, oh⟩ : GRef09Base))) := Chg.putCells (a := ⟨gB, 0, none⟩) _
  have hn1 := hcp.map hnl h1
  have ho1 := hcp.map hop h3
  exact ⟨rl, ro, nl, lh, oh, hcp2.get (GB.get hy hput) (fun e => hAB e), hcp2.map ((mapAt_below hy (mapAt_lt hn1)).trans hn1) h2, hset, hcp2.map ((mapAt_below hy (mapAt_lt ho1)).trans ho1) h4, hput2,
    ((((hlh.chg hcp (fun q hq e => hq.1 e)).bel hy).chg hcp2 (fun q hq e => hq.2 e))).mono' (fun _ _ => trivial), ((((hoh.chg hcp (fun q hq e => hq.1 e)).bel hy).chg hcp2 (fun q hq e => hq.2 e))).mono' (fun _ _ => trivial), Chg.bel2 (hbp.trans hy) hcp2 (fun q hq => by have e : q = gB := hq; omega)⟩
end Go.Proofs.Yteockodnfempfaa
/- The bases are alike, walked: the first region of base. Conditions: those named in each theorem. -/
namespace Go.Proofs.Yteockodnfempfaa
open Go Go.RowKit Go.Gv Go.Sort

theorem addr_add_block (a : Addr) (n : Nat) : (a.add n).block = a.block := by unfold Addr.add; split <;> rfl
theorem BasesAt.bel' {w0 w w' : World} {g1 g2 : Nat} {M : MLedger} {cf : GConf} (h : BasesAt w0 w g1 g2 M cf) (hb : Bel w w') : BasesAt w0 w' g1 g2 M cf := by
  obtain ⟨rl, ro, nl, lh, oh, h1, h2, h3, h4, h5, h6, h7, h8⟩ := h
  exact ⟨rl, ro, nl, lh, oh, GB.get hb h1, (mapAt_below hb (mapAt_lt h2)).trans h2, h3, (mapAt_below hb (mapAt_lt h4)).trans h4, GB.get hb h5, h6.bel hb, h7.bel hb, h8.trans hb⟩
theorem BasesAt.count {M : MLedger} {nl : List (GName × Bool)} (h : SetIs nl (namesL M)) (hn : (nl.map (·.1)).Nodup) (hN : (namesL M).Nodup) : nl.length = (namesL M).length := by
  have hp : (nl.map (·.1)).Perm (namesL M) := by
    refine (List.perm_ext_iff_of_nodup hn hN).2 fun k => ?_
    have h1 := h k
    constructor
    · intro hk
      by_cases hm : k ∈ namesL M
      · exact hm
      · rw [if_neg hm] at h1
        exact absurd hk (mget_none.1 h1)
    · intro hk
      rw [if_pos hk] at h1
      rw [mget_mem hn] at h1
      exact List.mem_map.2 ⟨_, h1, rfl⟩
  have := hp.length_eq
  rwa [List.length_map] at this
set_option maxRecDepth 100000 in
set_option maxHeartbeats 8000000 in
theorem sameBase_any (g h : Nat) (S U S' U' : Nat → Prop) (M : MLedger) (kk : Nat) (cf : GConf) (w : World) (hL : LedgerIs w g S U M) (hR : RefIs w h S' U' M) (hG : GoodM M kk) (hkk : kk ≤ 1000) :
    Calls Try.prog 93 #[.pointer (some ⟨g, 0, none⟩), .pointer (some ⟨h, 0, none⟩), cf.val] w fun e w' => e = .returned (.bool true) ∧ Bel w w' := by
  have hl : M.l.length ≤ 1000000 := by have := hG.len; omega
  have hb0 := (Bel.refl w).alloc (.cells cf.enc.toArray 109)
  have hcf := get?_new (w := w) 109 cf
  have HL1 := Lib.hid (hL.bel hb0); have HR1 := Lib.hid (hR.bel hb0); have HB0 := Lib.hid hb0; have HG := Lib.hid hG
  clear hL hR hb0 hG
  go_enter Try.func93, Try.ntmps93
  go_wp2_with fail
  change get? GConf (w.alloc (.cells cf.enc.toArray 109)) ⟨w.heap.size, 0, none⟩ = some cf at hcf
  generalize w.alloc (.cells cf.enc.toArray 109) = w1 at HL1 HR1 HB0 hcf ⊢
  go_cut [7, 8] (fun a b wx => ∃ (gA gB : Nat), a = .pointer (some ⟨gA, 0, none⟩) ∧ b = .pointer (some ⟨gB, 0, none⟩) ∧ BasesAt w1 wx gA gB M cf)
  case first =>
    go_wp2_with fail
    refine wp_region_G GB [8, 9] GB.rf (by kernel_rfl) ?_
    refine wpG_looks 6 10 [0,1,3,4] rfl GB.rf GB.tr (by kernel_rfl) (fun _ _ _ _ hd h => And.intro (hd ▸ And.left h) (And.right h)) rfl (by kernel_rfl) ?_
    intro ι W hne CW
    have g2 := fun z => (CW.out z).get hcf
    repeat (refine wpLooksG_step (fun K hK => ?_); go_simp; refine hK _ ?_; clear hK K)
    refine wpLooksG_nil ?_
    clear g2 CW hne W ι hcf
    refine wpG_three 2 6 7 _ _ _ rfl rfl rfl (by kernel_rfl) rfl rfl rfl ?_ ?_ ?_
    · intro x1 hwx1 K hK
      have hb1 : Bel w1 x1 := hwx1.undrew
      have hq1 : Bel w1 x1 := hb1
      go_simp
      refine (base_any g S U M cf x1 (HL1.out.bel hq1) hl).mono ?_
      rintro _ y1 ⟨rl, ro, nl, rfl, hnl, hset, hop, hrl, hro, hc1⟩
      have hrlt := mapAt_lt hnl
      have hrot := mapAt_lt hop
      have HNL := Lib.hid hnl; have HSET := Lib.hid hset; have HOP := Lib.hid hop
      refine hK _ _ (fun _ => hc1) ?_
      clear hK K hnl hset hop
      have HB1 : Bel w1 y1 := hq1.trans hc1
      have hs1 := hb1.size; have ht1 := hc1.size
      refine wpG_three 5 6 7 _ _ _ rfl rfl rfl (by kernel_rfl) rfl rfl rfl ?_ ?_ ?_
      · intro x2 hwx2 K hK
        have hb2 : Bel y1 x2 := hwx2
        have hq2 : Bel w1 x2 := HB1.trans hb2
        go_simp
        refine (rbase_any h S' U' M cf x2 (HR1.out.bel hq2) hl).mono ?_
        rintro _ y2 ⟨lh, oh, rfl, hlh, hoh, hc2⟩
        have HLH := Lib.hid (hlh.mono (Q' := fun q => x2.heap.size ≤ q ∧ q < y2.heap.size) (fun q hq hp => ⟨hp, hq⟩)); have HOH := Lib.hid (hoh.mono (Q' := fun q => x2.heap.size ≤ q ∧ q < y2.heap.size) (fun q hq hp => ⟨hp, hq⟩))
        refine hK _ _ (fun _ => hc2) ?_
        clear hK K hlh hoh
        have HB2 : Bel w1 y2 := hq2.trans hc2
        have hs2 := hb2.size; have ht2 := hc2.size
        refine wpG_two 6 7 _ _ rfl rfl (by kernel_rfl) rfl rfl ?_ ?_
        · intro x3 hwx3 K hK
          have hb3 : Bel y2 x3 := hwx3
          have hq3 : Bel w1 x3 := HB2.trans hb3
          go_simp
          refine hK _ _ (fun _ => GB.al _ _) ?_
          clear hK K
          have hgA := get?_new (w := x3) 113 (default : GBatchBase)
          have hfA : blkFree (x3.alloc (.cells (GBatchBase.enc default).toArray 113)) x3.heap.size = true := blkFree_new _ _ rfl
          have hc3 : Bel x3 (x3.alloc (.cells (GBatchBase.enc default).toArray 113)) := (Bel.refl x3).alloc _
          have hzA : (x3.alloc (.cells (GBatchBase.enc default).toArray 113)).heap.size = x3.heap.size + 1 := by simp
          change get? GBatchBase (x3.alloc (.cells (GBatchBase.enc default).toArray 113)) ⟨x3.heap.size, 0, none⟩ = some default at hgA
          generalize (x3.alloc (.cells (GBatchBase.enc default).toArray 113)) = y3 at hgA hfA hc3 hzA ⊢
          have HB3 : Bel w1 y3 := hq3.trans hc3
          have hs3 := hb3.size; have ht3 := hc3.size
          refine wpG_force 7 _ rfl (by kernel_rfl) rfl fun x4 hwx4 K hK => ?_
          have hb4 : Bel y3 x4 := hwx4
          have hq4 : Bel w1 x4 := HB3.trans hb4
          go_simp
          refine hK _ _ (fun _ => GB.al _ _) ?_
          clear hK K
          have hgB := get?_new (w := x4) 211 (default : GRef09Base)
          have hfB : blkFree (x4.alloc (.cells (GRef09Base.enc default).toArray 211)) x4.heap.size = true := blkFree_new _ _ rfl
          have hc4 : Bel x4 (x4.alloc (.cells (GRef09Base.enc default).toArray 211)) := (Bel.refl x4).alloc _
          have hzB : (x4.alloc (.cells (GRef09Base.enc default).toArray 211)).heap.size = x4.heap.size + 1 := by simp
          change get? GRef09Base (x4.alloc (.cells (GRef09Base.enc default).toArray 211)) ⟨x4.heap.size, 0, none⟩ = some default at hgB
          generalize (x4.alloc (.cells (GRef09Base.enc default).toArray 211)) = y4 at hgB hfB hc4 hzB ⊢
          have HB4 : Bel w1 y4 := hq4.trans hc4
          have hs4 := hb4.size; have ht4 := hc4.size
          refine wpG_force 8 _ rfl (by kernel_rfl) rfl fun wx hwx K hK => ?_
          have hbx : Bel y4 wx := hwx
          have kA : get? GBatchBase wx ⟨x3.heap.size, 0, none⟩ = some default := GB.get ((hb4.trans hc4).trans hbx) hgA
          have kF : blkFree wx x3.heap.size = true := (blkFree_keep (((hb4.trans hc4).trans hbx : Bel y3 wx).block _ (by omega))).trans hfA
          have kB : get? GRef09Base wx ⟨x4.heap.size, 0, none⟩ = some default := GB.get (hbx) hgB
          have kG : blkFree wx x4.heap.size = true := (blkFree_keep ((hbx : Bel y4 wx).block _ (by omega))).trans hfB
          have kN : mapAt GName Bool wx rl = some nl := (mapAt_below ((((hb2.trans hc2).trans (hb3.trans hc3)).trans (hb4.trans hc4)).trans hbx : Bel y1 wx) (mapAt_lt HNL.out)).trans HNL.out
          have kO : mapAt Int GEntry wx ro = some (opensL M) := (mapAt_below ((((hb2.trans hc2).trans (hb3.trans hc3)).trans (hb4.trans hc4)).trans hbx : Bel y1 wx) (mapAt_lt HOP.out)).trans HOP.out
          obtain ⟨hB1, hfin⟩ := bases_put (cf := cf) (HB4.trans hbx) (gA := x3.heap.size) (gB := x4.heap.size) (by omega) (by omega) (by omega) kA kB kN HSET.out kO ((HLH.out.bel (((hb3.trans hc3).trans (hb4.trans hc4)).trans hbx : Bel y2 wx)).mono' (fun q hq => ⟨by omega, by omega⟩)) ((HOH.out.bel (((hb3.trans hc3).trans (hb4.trans hc4)).trans hbx : Bel y2 wx)).mono' (fun q hq => ⟨by omega, by omega⟩)) (by omega) (by omega) (by omega) (by omega)
          go_simp
          have HB1 := Lib.hid hB1; have HFIN := Lib.hid hfin
          have HFB := Lib.hid (show blkFree (World.putCells wx ⟨x3.heap.size, 0, none⟩ (GBatchBase.enc ⟨cf, M.epoch, M.last, some rl, some ro⟩)) x4.heap.size = true from blkFree_putCells.trans kG)
          clear kA kF kB kG kN kO hB1 hfin
          generalize World.putCells wx ⟨x3.heap.size, 0, none⟩ (GBatchBase.enc ⟨cf, M.epoch, M.last, some rl, some ro⟩) = we at HB1 HFIN HFB ⊢
          refine hK _ _ (fun h => absurd (by simp) h) ?_
          clear hK K
          refine wpG_force 9 _ rfl (by kernel_rfl) rfl fun wy hwy K hK => ?_
          have hby : Bel we wy := hwy
          have kB : get? GRef09Base wy ⟨x4.heap.size, 0, none⟩ = some default := GB.get hby HB1.out
          have kG : blkFree wy x4.heap.size = true := (blkFree_keep (hby.block _ (get?_lt HB1.out))).trans HFB.out
          go_simp
          have HBAS := Lib.hid (HFIN.out wy hby)
          clear kB kG
          generalize World.putCells wy ⟨x4.heap.size, 0, none⟩ (GRef09Base.enc ⟨cf, M.epoch, M.last, lh, oh⟩) = wz at HBAS ⊢
          refine hK _ _ (fun h => absurd (by simp) h) ?_
          clear hK K
          refine wpG_end (by kernel_rfl) (fun wn hwn => ?_) _
          have HFF := Lib.hid (HBAS.out.bel' hwn)
          clear hwn
          go_wp2_with fail
          go_meet
          exact ⟨_, _, rfl, rfl, HFF.out⟩
        · intro x3 hwx3 K hK
          have hb3 : Bel y2 x3 := hwx3
          have hq3 : Bel w1 x3 := HB2.trans hb3
          go_simp
          refine hK _ _ (fun _ => GB.al _ _) ?_
          clear hK K
          have hgB := get?_new (w := x3) 211 (default : GRef09Base)
          have hfB : blkFree (x3.alloc (.cells (GRef09Base.enc default).toArray 211)) x3.heap.size = true := blkFree_new _ _ rfl
          have hc3 : Bel x3 (x3.alloc (.cells (GRef09Base.enc default).toArray 211)) := (Bel.refl x3).alloc _
          have hzB : (x3.alloc (.cells (GRef09Base.enc default).toArray 211)).heap.size = x3.heap.size + 1 := by simp
          change get? GRef09Base (x3.alloc (.cells (GRef09Base.enc default).toArray 211)) ⟨x3.heap.size, 0, none⟩ = some default at hgB
          generalize (x3.alloc (.cells (GRef09Base.enc default).toArray 211)) = y3 at hgB hfB hc3 hzB ⊢
          have HB3 : Bel w1 y3 := hq3.trans hc3
          have hs3 := hb3.size; have ht3 := hc3.size
          refine wpG_force 6 _ rfl (by kernel_rfl) rfl fun x4 hwx4 K hK => ?_
          have hb4 : Bel y3 x4 := hwx4
          have hq4 : Bel w1 x4 := HB3.trans hb4
          go_simp
          refine hK _ _ (fun _ => GB.al _ _) ?_
          clear hK K
          have hgA := get?_new (w := x4) 113 (default : GBatchBase)
          have hfA : blkFree (x4.alloc (.cells (GBatchBase.enc default).toArray 113)) x4.heap.size = true := blkFree_new _ _ rfl
          have hc4 : Bel x4 (x4.alloc (.cells (GBatchBase.enc default).toArray 113)) := (Bel.refl x4).alloc _
          have hzA : (x4.alloc (.cells (GBatchBase.enc default).toArray 113)).heap.size = x4.heap.size + 1 := by simp
          change get? GBatchBase (x4.alloc (.cells (GBatchBase.enc default).toArray 113)) ⟨x4.heap.size, 0, none⟩ = some default at hgA
          generalize (x4.alloc (.cells (GBatchBase.enc default).toArray 113)) = y4 at hgA hfA hc4 hzA ⊢
          have HB4 : Bel w1 y4 := hq4.trans hc4
          have hs4 := hb4.size; have ht4 := hc4.size
          refine wpG_force 8 _ rfl (by kernel_rfl) rfl fun wx hwx K hK => ?_
          have hbx : Bel y4 wx := hwx
          have kA : get? GBatchBase wx ⟨x4.heap.size, 0, none⟩ = some default := GB.get (hbx) hgA
          have kF : blkFree wx x4.heap.size = true := (blkFree_keep ((hbx : Bel y4 wx).block _ (by omega))).trans hfA
          have kB : get? GRef09Base wx ⟨x3.heap.size, 0, none⟩ = some default := GB.get ((hb4.trans hc4).trans hbx) hgB
          have kG : blkFree wx x3.heap.size = true := (blkFree_keep (((hb4.trans hc4).trans hbx : Bel y3 wx).block _ (by omega))).trans hfB
          have kN : mapAt GName Bool wx rl = some nl := (mapAt_below ((((hb2.trans hc2).trans (hb3.trans hc3)).trans (hb4.trans hc4)).trans hbx : Bel y1 wx) (mapAt_lt HNL.out)).trans HNL.out
          have kO : mapAt Int GEntry wx ro = some (opensL M) := (mapAt_below ((((hb2.trans hc2).trans (hb3.trans hc3)).trans (hb4.trans hc4)).trans hbx : Bel y1 wx) (mapAt_lt HOP.out)).trans HOP.out
          obtain ⟨hB1, hfin⟩ := bases_put (cf := cf) (HB4.trans hbx) (gA := x4.heap.size) (gB := x3.heap.size) (by omega) (by omega) (by omega) kA kB kN HSET.out kO ((HLH.out.bel (((hb3.trans hc3).trans (hb4.trans hc4)).trans hbx : Bel y2 wx)).mono' (fun q hq => ⟨by omega, by omega⟩)) ((HOH.out.bel (((hb3.trans hc3).trans (hb4.trans hc4)).trans hbx : Bel y2 wx)).mono' (fun q hq => ⟨by omega, by omega⟩)) (by omega) (by omega) (by omega) (by omega)
          go_simp
          have HB1 := Lib.hid hB1; have HFIN := Lib.hid hfin
          have HFB := Lib.hid (show blkFree (World.putCells wx ⟨x4.heap.size, 0, none⟩ (GBatchBase.enc ⟨cf, M.epoch, M.last, some rl, some ro⟩)) x3.heap.size = true from blkFree_putCells.trans kG)
          clear kA kF kB kG kN kO hB1 hfin
          generalize World.putCells wx ⟨x4.heap.size, 0, none⟩ (GBatchBase.enc ⟨cf, M.epoch, M.last, some rl, some ro⟩) = we at HB1 HFIN HFB ⊢
          refine hK _ _ (fun h => absurd (by simp) h) ?_
          clear hK K
          refine wpG_force 9 _ rfl (by kernel_rfl) rfl fun wy hwy K hK => ?_
          have hby : Bel we wy := hwy
          have kB : get? GRef09Base wy ⟨x3.heap.size, 0, none⟩ = some default := GB.get hby HB1.out
          have kG : blkFree wy x3.heap.size = true := (blkFree_keep (hby.block _ (get?_lt HB1.out))).trans HFB.out
          go_simp
          have HBAS := Lib.hid (HFIN.out wy hby)
          clear kB kG
          generalize World.putCells wy ⟨x3.heap.size, 0, none⟩ (GRef09Base.enc ⟨cf, M.epoch, M.last, lh, oh⟩) = wz at HBAS ⊢
          refine hK _ _ (fun h => absurd (by simp) h) ?_
          clear hK K
          refine wpG_end (by kernel_rfl) (fun wn hwn => ?_) _
          have HFF := Lib.hid (HBAS.out.bel' hwn)
          clear hwn
          go_wp2_with fail
          go_meet
          exact ⟨_, _, rfl, rfl, HFF.out⟩
      · intro x2 hwx2 K hK
        have hb2 : Bel y1 x2 := hwx2
        have hq2 : Bel w1 x2 := HB1.trans hb2
        go_simp
        refine hK _ _ (fun _ => GB.al _ _) ?_
        clear hK K
        have hgA := get?_new (w := x2) 113 (default : GBatchBase)
        have hfA : blkFree (x2.alloc (.cells (GBatchBase.enc default).toArray 113)) x2.heap.size = true := blkFree_new _ _ rfl
        have hc2 : Bel x2 (x2.alloc (.cells (GBatchBase.enc default).toArray 113)) := (Bel.refl x2).alloc _
        have hzA : (x2.alloc (.cells (GBatchBase.enc default).toArray 113)).heap.size = x2.heap.size + 1 := by simp
        change get? GBatchBase (x2.alloc (.cells (GBatchBase.enc default).toArray 113)) ⟨x2.heap.size, 0, none⟩ = some default at hgA
        generalize (x2.alloc (.cells (GBatchBase.enc default).toArray 113)) = y2 at hgA hfA hc2 hzA ⊢
        have HB2 : Bel w1 y2 := hq2.trans hc2
        have hs2 := hb2.size; have ht2 := hc2.size
        refine wpG_two 5 7 _ _ rfl rfl (by kernel_rfl) rfl rfl ?_ ?_
        · intro x3 hwx3 K hK
          have hb3 : Bel y2 x3 := hwx3
          have hq3 : Bel w1 x3 := HB2.trans hb3
          go_simp
          refine (rbase_any h S' U' M cf x3 (HR1.out.bel hq3) hl).mono ?_
          rintro _ y3 ⟨lh, oh, rfl, hlh, hoh, hc3⟩
          have HLH := Lib.hid (hlh.mono (Q' := fun q => x3.heap.size ≤ q ∧ q < y3.heap.size) (fun q hq hp => ⟨hp, hq⟩)); have HOH := Lib.hid (hoh.mono (Q' := fun q => x3.heap.size ≤ q ∧ q < y3.heap.size) (fun q hq hp => ⟨hp, hq⟩))
          refine hK _ _ (fun _ => hc3) ?_
          clear hK K hlh hoh
          have HB3 : Bel w1 y3 := hq3.trans hc3
          have hs3 := hb3.size; have ht3 := hc3.size
          refine wpG_force 7 _ rfl (by kernel_rfl) rfl fun x4 hwx4 K hK => ?_
          have hb4 : Bel y3 x4 := hwx4
          have hq4 : Bel w1 x4 := HB3.trans hb4
          go_simp
          refine hK _ _ (fun _ => GB.al _ _) ?_
          clear hK K
          have hgB := get?_new (w := x4) 211 (default : GRef09Base)
          have hfB : blkFree (x4.alloc (.cells (GRef09Base.enc default).toArray 211)) x4.heap.size = true := blkFree_new _ _ rfl
          have hc4 : Bel x4 (x4.alloc (.cells (GRef09Base.enc default).toArray 211)) := (Bel.refl x4).alloc _
          have hzB : (x4.alloc (.cells (GRef09Base.enc default).toArray 211)).heap.size = x4.heap.size + 1 := by simp
          change get? GRef09Base (x4.alloc (.cells (GRef09Base.enc default).toArray 211)) ⟨x4.heap.size, 0, none⟩ = some default at hgB
          generalize (x4.alloc (.cells (GRef09Base.enc default).toArray 211)) = y4 at hgB hfB hc4 hzB ⊢
          have HB4 : Bel w1 y4 := hq4.trans hc4
          have hs4 := hb4.size; have ht4 := hc4.size
          refine wpG_force 8 _ rfl (by kernel_rfl) rfl fun wx hwx K hK => ?_
          have hbx : Bel y4 wx := hwx
          have kA : get? GBatchBase wx ⟨x2.heap.size, 0, none⟩ = some default := GB.get (((hb3.trans hc3).trans (hb4.trans hc4)).trans hbx) hgA
          have kF : blkFree wx x2.heap.size = true := (blkFree_keep ((((hb3.trans hc3).trans (hb4.trans hc4)).trans hbx : Bel y2 wx).block _ (by omega))).trans hfA
          have kB : get? GRef09Base wx ⟨x4.heap.size, 0, none⟩ = some default := GB.get (hbx) hgB
          have kG : blkFree wx x4.heap.size = true := (blkFree_keep ((hbx : Bel y4 wx).block _ (by omega))).trans hfB
          have kN : mapAt GName Bool wx rl = some nl := (mapAt_below ((((hb2.trans hc2).trans (hb3.trans hc3)).trans (hb4.trans hc4)).trans hbx : Bel y1 wx) (mapAt_lt HNL.out)).trans HNL.out
          have kO : mapAt Int GEntry wx ro = some (opensL M) := (mapAt_below ((((hb2.trans hc2).trans (hb3.trans hc3)).trans (hb4.trans hc4)).trans hbx : Bel y1 wx) (mapAt_lt HOP.out)).trans HOP.out
          obtain ⟨hB1, hfin⟩ := bases_put (cf := cf) (HB4.trans hbx) (gA := x2.heap.size) (gB := x4.heap.size) (by omega) (by omega) (by omega) kA kB kN HSET.out kO ((HLH.out.bel ((hb4.trans hc4).trans hbx : Bel y3 wx)).mono' (fun q hq => ⟨by omega, by omega⟩)) ((HOH.out.bel ((hb4.trans hc4).trans hbx : Bel y3 wx)).mono' (fun q hq => ⟨by omega, by omega⟩)) (by omega) (by omega) (by omega) (by omega)
          go_simp
          have HB1 := Lib.hid hB1; have HFIN := Lib.hid hfin
          have HFB := Lib.hid (show blkFree (World.putCells wx ⟨x2.heap.size, 0, none⟩ (GBatchBase.enc ⟨cf, M.epoch, M.last, some rl, some ro⟩)) x4.heap.size = true from blkFree_putCells.trans kG)
          clear kA kF kB kG kN kO hB1 hfin
          generalize World.putCells wx ⟨x2.heap.size, 0, none⟩ (GBatchBase.enc ⟨cf, M.epoch, M.last, some rl, some ro⟩) = we at HB1 HFIN HFB ⊢
          refine hK _ _ (fun h => absurd (by simp) h) ?_
          clear hK K
          refine wpG_force 9 _ rfl (by kernel_rfl) rfl fun wy hwy K hK => ?_
          have hby : Bel we wy := hwy
          have kB : get? GRef09Base wy ⟨x4.heap.size, 0, none⟩ = some default := GB.get hby HB1.out
          have kG : blkFree wy x4.heap.size = true := (blkFree_keep (hby.block _ (get?_lt HB1.out))).trans HFB.out
          go_simp
          have HBAS := Lib.hid (HFIN.out wy hby)
          clear kB kG
          generalize World.putCells wy ⟨x4.heap.size, 0, none⟩ (GRef09Base.enc ⟨cf, M.epoch, M.last, lh, oh⟩) = wz at HBAS ⊢
          refine hK _ _ (fun h => absurd (by simp) h) ?_
          clear hK K
          refine wpG_end (by kernel_rfl) (fun wn hwn => ?_) _
          have HFF := Lib.hid (HBAS.out.bel' hwn)
          clear hwn
          go_wp2_with fail
          go_meet
          exact ⟨_, _, rfl, rfl, HFF.out⟩
        · intro x3 hwx3 K hK
          have hb3 : Bel y2 x3 := hwx3
          have hq3 : Bel w1 x3 := HB2.trans hb3
          go_simp
          refine hK _ _ (fun _ => GB.al _ _) ?_
          clear hK K
          have hgB := get?_new (w := x3) 211 (default : GRef09Base)
          have hfB : blkFree (x3.alloc (.cells (GRef09Base.enc default).toArray 211)) x3.heap.size = true := blkFree_new _ _ rfl
          have hc3 : Bel x3 (x3.alloc (.cells (GRef09Base.enc default).toArray 211)) := (Bel.refl x3).alloc _
          have hzB : (x3.alloc (.cells (GRef09Base.enc default).toArray 211)).heap.size = x3.heap.size + 1 := by simp
          change get? GRef09Base (x3.alloc (.cells (GRef09Base.enc default).toArray 211)) ⟨x3.heap.size, 0, none⟩ = some default at hgB
          generalize (x3.alloc (.cells (GRef09Base.enc default).toArray 211)) = y3 at hgB hfB hc3 hzB ⊢
          have HB3 : Bel w1 y3 := hq3.trans hc3
          have hs3 := hb3.size; have ht3 := hc3.size
          refine wpG_force 5 _ rfl (by kernel_rfl) rfl fun x4 hwx4 K hK => ?_
          have hb4 : Bel y3 x4 := hwx4
          have hq4 : Bel w1 x4 := HB3.trans hb4
          go_simp
          refine (rbase_any h S' U' M cf x4 (HR1.out.bel hq4) hl).mono ?_
          rintro _ y4 ⟨lh, oh, rfl, hlh, hoh, hc4⟩
          have HLH := Lib.hid (hlh.mono (Q' := fun q => x4.heap.size ≤ q ∧ q < y4.heap.size) (fun q hq hp => ⟨hp, hq⟩)); have HOH := Lib.hid (hoh.mono (Q' := fun q => x4.heap.size ≤ q ∧ q < y4.heap.size) (fun q hq hp => ⟨hp, hq⟩))
          refine hK _ _ (fun _ => hc4) ?_
          clear hK K hlh hoh
          have HB4 : Bel w1 y4 := hq4.trans hc4
          have hs4 := hb4.size; have ht4 := hc4.size
          refine wpG_force 8 _ rfl (by kernel_rfl) rfl fun wx hwx K hK => ?_
          have hbx : Bel y4 wx := hwx
          have kA : get? GBatchBase wx ⟨x2.heap.size, 0, none⟩ = some default := GB.get (((hb3.trans hc3).trans (hb4.trans hc4)).trans hbx) hgA
          have kF : blkFree wx x2.heap.size = true := (blkFree_keep ((((hb3.trans hc3).trans (hb4.trans hc4)).trans hbx : Bel y2 wx).block _ (by omega))).trans hfA
          have kB : get? GRef09Base wx ⟨x3.heap.size, 0, none⟩ = some default := GB.get ((hb4.trans hc4).trans hbx) hgB
          have kG : blkFree wx x3.heap.size = true := (blkFree_keep (((hb4.trans hc4).trans hbx : Bel y3 wx).block _ (by omega))).trans hfB
          have kN : mapAt GName Bool wx rl = some nl := (mapAt_below ((((hb2.trans hc2).trans (hb3.trans hc3)).trans (hb4.trans hc4)).trans hbx : Bel y1 wx) (mapAt_lt HNL.out)).trans HNL.out
          have kO : mapAt Int GEntry wx ro = some (opensL M) := (mapAt_below ((((hb2.trans hc2).trans (hb3.trans hc3)).trans (hb4.trans hc4)).trans hbx : Bel y1 wx) (mapAt_lt HOP.out)).trans HOP.out
          obtain ⟨hB1, hfin⟩ := bases_put (cf := cf) (HB4.trans hbx) (gA := x2.heap.size) (gB := x3.heap.size) (by omega) (by omega) (by omega) kA kB kN HSET.out kO ((HLH.out.bel (hbx : Bel y4 wx)).mono' (fun q hq => ⟨by omega, by omega⟩)) ((HOH.out.bel (hbx : Bel y4 wx)).mono' (fun q hq => ⟨by omega, by omega⟩)) (by omega) (by omega) (by omega) (by omega)
          go_simp
          have HB1 := Lib.hid hB1; have HFIN := Lib.hid hfin
          have HFB := Lib.hid (show blkFree (World.putCells wx ⟨x2.heap.size, 0, none⟩ (GBatchBase.enc ⟨cf, M.epoch, M.last, some rl, some ro⟩)) x3.heap.size = true from blkFree_putCells.trans kG)
          clear kA kF kB kG kN kO hB1 hfin
          generalize World.putCells wx ⟨x2.heap.size, 0, none⟩ (GBatchBase.enc ⟨cf, M.epoch, M.last, some rl, some ro⟩) = we at HB1 HFIN HFB ⊢
          refine hK _ _ (fun h => absurd (by simp) h) ?_
          clear hK K
          refine wpG_force 9 _ rfl (by kernel_rfl) rfl fun wy hwy K hK => ?_
          have hby : Bel we wy := hwy
          have kB : get? GRef09Base wy ⟨x3.heap.size, 0, none⟩ = some default := GB.get hby HB1.out
          have kG : blkFree wy x3.heap.size = true := (blkFree_keep (hby.block _ (get?_lt HB1.out))).trans HFB.out
          go_simp
          have HBAS := Lib.hid (HFIN.out wy hby)
          clear kB kG
          generalize World.putCells wy ⟨x3.heap.size, 0, none⟩ (GRef09Base.enc ⟨cf, M.epoch, M.last, lh, oh⟩) = wz at HBAS ⊢
          refine hK _ _ (fun h => absurd (by simp) h) ?_
          clear hK K
          refine wpG_end (by kernel_rfl) (fun wn hwn => ?_) _
          have HFF := Lib.hid (HBAS.out.bel' hwn)
          clear hwn
          go_wp2_with fail
          go_meet
          exact ⟨_, _, rfl, rfl, HFF.out⟩
      · intro x2 hwx2 K hK
        have hb2 : Bel y1 x2 := hwx2
        have hq2 : Bel w1 x2 := HB1.trans hb2
        go_simp
        refine hK _ _ (fun _ => GB.al _ _) ?_
        clear hK K
        have hgB := get?_new (w := x2) 211 (default : GRef09Base)
        have hfB : blkFree (x2.alloc (.cells (GRef09Base.enc default).toArray 211)) x2.heap.size = true := blkFree_new _ _ rfl
        have hc2 : Bel x2 (x2.alloc (.cells (GRef09Base.enc default).toArray 211)) := (Bel.refl x2).alloc _
        have hzB : (x2.alloc (.cells (GRef09Base.enc default).toArray 211)).heap.size = x2.heap.size + 1 := by simp
        change get? GRef09Base (x2.alloc (.cells (GRef09Base.enc default).toArray 211)) ⟨x2.heap.size, 0, none⟩ = some default at hgB
        generalize (x2.alloc (.cells (GRef09Base.enc default).toArray 211)) = y2 at hgB hfB hc2 hzB ⊢
        have HB2 : Bel w1 y2 := hq2.trans hc2
        have hs2 := hb2.size; have ht2 := hc2.size
        refine wpG_two 5 6 _ _ rfl rfl (by kernel_rfl) rfl rfl ?_ ?_
        · intro x3 hwx3 K hK
          have hb3 : Bel y2 x3 := hwx3
          have hq3 : Bel w1 x3 := HB2.trans hb3
          go_simp
          refine (rbase_any h S' U' M cf x3 (HR1.out.bel hq3) hl).mono ?_
          rintro _ y3 ⟨lh, oh, rfl, hlh, hoh, hc3⟩
          have HLH := Lib.hid (hlh.mono (Q' := fun q => x3.heap.size ≤ q ∧ q < y3.heap.size) (fun q hq hp => ⟨hp, hq⟩)); have HOH := Lib.hid (hoh.mono (Q' := fun q => x3.heap.size ≤ q ∧ q < y3.heap.size) (fun q hq hp => ⟨hp, hq⟩))
          refine hK _ _ (fun _ => hc3) ?_
          clear hK K hlh hoh
          have HB3 : Bel w1 y3 := hq3.trans hc3
          have hs3 := hb3.size; have ht3 := hc3.size
          refine wpG_force 6 _ rfl (by kernel_rfl) rfl fun x4 hwx4 K hK => ?_
          have hb4 : Bel y3 x4 := hwx4
          have hq4 : Bel w1 x4 := HB3.trans hb4
          go_simp
          refine hK _ _ (fun _ => GB.al _ _) ?_
          clear hK K
          have hgA := get?_new (w := x4) 113 (default : GBatchBase)
          have hfA : blkFree (x4.alloc (.cells (GBatchBase.enc default).toArray 113)) x4.heap.size = true := blkFree_new _ _ rfl
          have hc4 : Bel x4 (x4.alloc (.cells (GBatchBase.enc default).toArray 113)) := (Bel.refl x4).alloc _
          have hzA : (x4.alloc (.cells (GBatchBase.enc default).toArray 113)).heap.size = x4.heap.size + 1 := by simp
          change get? GBatchBase (x4.alloc (.cells (GBatchBase.enc default).toArray 113)) ⟨x4.heap.size, 0, none⟩ = some default at hgA
          generalize (x4.alloc (.cells (GBatchBase.enc default).toArray 113)) = y4 at hgA hfA hc4 hzA ⊢
          have HB4 : Bel w1 y4 := hq4.trans hc4
          have hs4 := hb4.size; have ht4 := hc4.size
          refine wpG_force 8 _ rfl (by kernel_rfl) rfl fun wx hwx K hK => ?_
          have hbx : Bel y4 wx := hwx
          have kA : get? GBatchBase wx ⟨x4.heap.size, 0, none⟩ = some default := GB.get (hbx) hgA
          have kF : blkFree wx x4.heap.size = true := (blkFree_keep ((hbx : Bel y4 wx).block _ (by omega))).trans hfA
          have kB : get? GRef09Base wx ⟨x2.heap.size, 0, none⟩ = some default := GB.get (((hb3.trans hc3).trans (hb4.trans hc4)).trans hbx) hgB
          have kG : blkFree wx x2.heap.size = true := (blkFree_keep ((((hb3.trans hc3).trans (hb4.trans hc4)).trans hbx : Bel y2 wx).block _ (by omega))).trans hfB
          have kN : mapAt GName Bool wx rl = some nl := (mapAt_below ((((hb2.trans hc2).trans (hb3.trans hc3)).trans (hb4.trans hc4)).trans hbx : Bel y1 wx) (mapAt_lt HNL.out)).trans HNL.out
          have kO : mapAt Int GEntry wx ro = some (opensL M) := (mapAt_below ((((hb2.trans hc2).trans (hb3.trans hc3)).trans (hb4.trans hc4)).trans hbx : Bel y1 wx) (mapAt_lt HOP.out)).trans HOP.out
          obtain ⟨hB1, hfin⟩ := bases_put (cf := cf) (HB4.trans hbx) (gA := x4.heap.size) (gB := x2.heap.size) (by omega) (by omega) (by omega) kA kB kN HSET.out kO ((HLH.out.bel ((hb4.trans hc4).trans hbx : Bel y3 wx)).mono' (fun q hq => ⟨by omega, by omega⟩)) ((HOH.out.bel ((hb4.trans hc4).trans hbx : Bel y3 wx)).mono' (fun q hq => ⟨by omega, by omega⟩)) (by omega) (by omega) (by omega) (by omega)
          go_simp
          have HB1 := Lib.hid hB1; have HFIN := Lib.hid hfin
          have HFB := Lib.hid (show blkFree (World.putCells wx ⟨x4.heap.size, 0, none⟩ (GBatchBase.enc ⟨cf, M.epoch, M.last, some rl, some ro⟩)) x2.heap.size = true from blkFree_putCells.trans kG)
          clear kA kF kB kG kN kO hB1 hfin
          generalize World.putCells wx ⟨x4.heap.size, 0, none⟩ (GBatchBase.enc ⟨cf, M.epoch, M.last, some rl, some ro⟩) = we at HB1 HFIN HFB ⊢
          refine hK _ _ (fun h => absurd (by simp) h) ?_
          clear hK K
          refine wpG_force 9 _ rfl (by kernel_rfl) rfl fun wy hwy K hK => ?_
          have hby : Bel we wy := hwy
          have kB : get? GRef09Base wy ⟨x2.heap.size, 0, none⟩ = some default := GB.get hby HB1.out
          have kG : blkFree wy x2.heap.size = true := (blkFree_keep (hby.block _ (get?_lt HB1.out))).trans HFB.out
          go_simp
          have HBAS := Lib.hid (HFIN.out wy hby)
          clear kB kG
          generalize World.putCells wy ⟨x2.heap.size, 0, none⟩ (GRef09Base.enc ⟨cf, M.epoch, M.last, lh, oh⟩) = wz at HBAS ⊢
          refine hK _ _ (fun h => absurd (by simp) h) ?_
          clear hK K
          refine wpG_end (by kernel_rfl) (fun wn hwn => ?_) _
          have HFF := Lib.hid (HBAS.out.bel' hwn)
          clear hwn
          go_wp2_with fail
          go_meet
          exact ⟨_, _, rfl, rfl, HFF.out⟩
        · intro x3 hwx3 K hK
          have hb3 : Bel y2 x3 := hwx3
          have hq3 : Bel w1 x3 := HB2.trans hb3
          go_simp
          refine hK _ _ (fun _ => GB.al _ _) ?_
          clear hK K
          have hgA := get?_new (w := x3) 113 (default : GBatchBase)
          have hfA : blkFree (x3.alloc (.cells (GBatchBase.enc default).toArray 113)) x3.heap.size = true := blkFree_new _ _ rfl
          have hc3 : Bel x3 (x3.alloc (.cells (GBatchBase.enc default).toArray 113)) := (Bel.refl x3).alloc _
          have hzA : (x3.alloc (.cells (GBatchBase.enc default).toArray 113)).heap.size = x3.heap.size + 1 := by simp
          change get? GBatchBase (x3.alloc (.cells (GBatchBase.enc default).toArray 113)) ⟨x3.heap.size, 0, none⟩ = some default at hgA
          generalize (x3.alloc (.cells (GBatchBase.enc default).toArray 113)) = y3 at hgA hfA hc3 hzA ⊢
          have HB3 : Bel w1 y3 := hq3.trans hc3
          have hs3 := hb3.size; have ht3 := hc3.size
          refine wpG_force 5 _ rfl (by kernel_rfl) rfl fun x4 hwx4 K hK => ?_
          have hb4 : Bel y3 x4 := hwx4
          have hq4 : Bel w1 x4 := HB3.trans hb4
          go_simp
          refine (rbase_any h S' U' M cf x4 (HR1.out.bel hq4) hl).mono ?_
          rintro _ y4 ⟨lh, oh, rfl, hlh, hoh, hc4⟩
          have HLH := Lib.hid (hlh.mono (Q' := fun q => x4.heap.size ≤ q ∧ q < y4.heap.size) (fun q hq hp => ⟨hp, hq⟩)); have HOH := Lib.hid (hoh.mono (Q' := fun q => x4.heap.size ≤ q ∧ q < y4.heap.size) (fun q hq hp => ⟨hp, hq⟩))
          refine hK _ _ (fun _ => hc4) ?_
          clear hK K hlh hoh
          have HB4 : Bel w1 y4 := hq4.trans hc4
          have hs4 := hb4.size; have ht4 := hc4.size
          refine wpG_force 8 _ rfl (by kernel_rfl) rfl fun wx hwx K hK => ?_
          have hbx : Bel y4 wx := hwx
          have kA : get? GBatchBase wx ⟨x3.heap.size, 0, none⟩ = some default := GB.get ((hb4.trans hc4).trans hbx) hgA
          have kF : blkFree wx x3.heap.size = true := (blkFree_keep (((hb4.trans hc4).trans hbx : Bel y3 wx).block _ (by omega))).trans hfA
          have kB : get? GRef09Base wx ⟨x2.heap.size, 0, none⟩ = some default := GB.get (((hb3.trans hc3).trans (hb4.trans hc4)).trans hbx) hgB
          have kG : blkFree wx x2.heap.size = true := (blkFree_keep ((((hb3.trans hc3).trans (hb4.trans hc4)).trans hbx : Bel y2 wx).block _ (by omega))).trans hfB
          have kN : mapAt GName Bool wx rl = some nl := (mapAt_below ((((hb2.trans hc2).trans (hb3.trans hc3)).trans (hb4.trans hc4)).trans hbx : Bel y1 wx) (mapAt_lt HNL.out)).trans HNL.out
          have kO : mapAt Int GEntry wx ro = some (opensL M) := (mapAt_below ((((hb2.trans hc2).trans (hb3.trans hc3)).trans (hb4.trans hc4)).trans hbx : Bel y1 wx) (mapAt_lt HOP.out)).trans HOP.out
          obtain ⟨hB1, hfin⟩ := bases_put (cf := cf) (HB4.trans hbx) (gA := x3.heap.size) (gB := x2.heap.size) (by omega) (by omega) (by omega) kA kB kN HSET.out kO ((HLH.out.bel (hbx : Bel y4 wx)).mono' (fun q hq => ⟨by omega, by omega⟩)) ((HOH.out.bel (hbx : Bel y4 wx)).mono' (fun q hq => ⟨by omega, by omega⟩)) (by omega) (by omega) (by omega) (by omega)
          go_simp
          have HB1 := Lib.hid hB1; have HFIN := Lib.hid hfin
          have HFB := Lib.hid (show blkFree (World.putCells wx ⟨x3.heap.size, 0, none⟩ (GBatchBase.enc ⟨cf, M.epoch, M.last, some rl, some ro⟩)) x2.heap.size = true from blkFree_putCells.trans kG)
          clear kA kF kB kG kN kO hB1 hfin
          generalize World.putCells wx ⟨x3.heap.size, 0, none⟩ (GBatchBase.enc ⟨cf, M.epoch, M.last, some rl, some ro⟩) = we at HB1 HFIN HFB ⊢
          refine hK _ _ (fun h => absurd (by simp) h) ?_
          clear hK K
          refine wpG_force 9 _ rfl (by kernel_rfl) rfl fun wy hwy K hK => ?_
          have hby : Bel we wy := hwy
          have kB : get? GRef09Base wy ⟨x2.heap.size, 0, none⟩ = some default := GB.get hby HB1.out
          have kG : blkFree wy x2.heap.size = true := (blkFree_keep (hby.block _ (get?_lt HB1.out))).trans HFB.out
          go_simp
          have HBAS := Lib.hid (HFIN.out wy hby)
          clear kB kG
          generalize World.putCells wy ⟨x2.heap.size, 0, none⟩ (GRef09Base.enc ⟨cf, M.epoch, M.last, lh, oh⟩) = wz at HBAS ⊢
          refine hK _ _ (fun h => absurd (by simp) h) ?_
          clear hK K
          refine wpG_end (by kernel_rfl) (fun wn hwn => ?_) _
          have HFF := Lib.hid (HBAS.out.bel' hwn)
          clear hwn
          go_wp2_with fail
          go_meet
          exact ⟨_, _, rfl, rfl, HFF.out⟩
    · intro x1 hwx1 K hK
      have hb1 : Bel w1 x1 := hwx1.undrew
      have hq1 : Bel w1 x1 := hb1
      go_simp
      refine hK _ _ (fun _ => GB.al _ _) ?_
      clear hK K
      have hgA := get?_new (w := x1) 113 (default : GBatchBase)
      have hfA : blkFree (x1.alloc (.cells (GBatchBase.enc default).toArray 113)) x1.heap.size = true := blkFree_new _ _ rfl
      have hc1 : Bel x1 (x1.alloc (.cells (GBatchBase.enc default).toArray 113)) := (Bel.refl x1).alloc _
      have hzA : (x1.alloc (.cells (GBatchBase.enc default).toArray 113)).heap.size = x1.heap.size + 1 := by simp
      change get? GBatchBase (x1.alloc (.cells (GBatchBase.enc default).toArray 113)) ⟨x1.heap.size, 0, none⟩ = some default at hgA
      generalize (x1.alloc (.cells (GBatchBase.enc default).toArray 113)) = y1 at hgA hfA hc1 hzA ⊢
      have HB1 : Bel w1 y1 := hq1.trans hc1
      have hs1 := hb1.size; have ht1 := hc1.size
      refine wpG_two 2 7 _ _ rfl rfl (by kernel_rfl) rfl rfl ?_ ?_
      · intro x2 hwx2 K hK
        have hb2 : Bel y1 x2 := hwx2
        have hq2 : Bel w1 x2 := HB1.trans hb2
        go_simp
        refine (base_any g S U M cf x2 (HL1.out.bel hq2) hl).mono ?_
        rintro _ y2 ⟨rl, ro, nl, rfl, hnl, hset, hop, hrl, hro, hc2⟩
        have hrlt := mapAt_lt hnl
        have hrot := mapAt_lt hop
        have HNL := Lib.hid hnl; have HSET := Lib.hid hset; have HOP := Lib.hid hop
        refine hK _ _ (fun _ => hc2) ?_
        clear hK K hnl hset hop
        have HB2 : Bel w1 y2 := hq2.trans hc2
        have hs2 := hb2.size; have ht2 := hc2.size
        refine wpG_two 5 7 _ _ rfl rfl (by kernel_rfl) rfl rfl ?_ ?_
        · intro x3 hwx3 K hK
          have hb3 : Bel y2 x3 := hwx3
          have hq3 : Bel w1 x3 := HB2.trans hb3
          go_simp
          refine (rbase_any h S' U' M cf x3 (HR1.out.bel hq3) hl).mono ?_
          rintro _ y3 ⟨lh, oh, rfl, hlh, hoh, hc3⟩
          have HLH := Lib.hid (hlh.mono (Q' := fun q => x3.heap.size ≤ q ∧ q < y3.heap.size) (fun q hq hp => ⟨hp, hq⟩)); have HOH := Lib.hid (hoh.mono (Q' := fun q => x3.heap.size ≤ q ∧ q < y3.heap.size) (fun q hq hp => ⟨hp, hq⟩))
          refine hK _ _ (fun _ => hc3) ?_
          clear hK K hlh hoh
          have HB3 : Bel w1 y3 := hq3.trans hc3
          have hs3 := hb3.size; have ht3 := hc3.size
          refine wpG_force 7 _ rfl (by kernel_rfl) rfl fun x4 hwx4 K hK => ?_
          have hb4 : Bel y3 x4 := hwx4
          have hq4 : Bel w1 x4 := HB3.trans hb4
          go_simp
          refine hK _ _ (fun _ => GB.al _ _) ?_
          clear hK K
          have hgB := get?_new (w := x4) 211 (default : GRef09Base)
          have hfB : blkFree (x4.alloc (.cells (GRef09Base.enc default).toArray 211)) x4.heap.size = true := blkFree_new _ _ rfl
          have hc4 : Bel x4 (x4.alloc (.cells (GRef09Base.enc default).toArray 211)) := (Bel.refl x4).alloc _
          have hzB : (x4.alloc (.cells (GRef09Base.enc default).toArray 211)).heap.size = x4.heap.size + 1 := by simp
          change get? GRef09Base (x4.alloc (.cells (GRef09Base.enc default).toArray 211)) ⟨x4.heap.size, 0, none⟩ = some default at hgB
          generalize (x4.alloc (.cells (GRef09Base.enc default).toArray 211)) = y4 at hgB hfB hc4 hzB ⊢
          have HB4 : Bel w1 y4 := hq4.trans hc4
          have hs4 := hb4.size; have ht4 := hc4.size
          refine wpG_force 8 _ rfl (by kernel_rfl) rfl fun wx hwx K hK => ?_
          have hbx : Bel y4 wx := hwx
          have kA : get? GBatchBase wx ⟨x1.heap.size, 0, none⟩ = some default := GB.get ((((hb2.trans hc2).trans (hb3.trans hc3)).trans (hb4.trans hc4)).trans hbx) hgA
          have kF : blkFree wx x1.heap.size = true := (blkFree_keep (((((hb2.trans hc2).trans (hb3.trans hc3)).trans (hb4.trans hc4)).trans hbx : Bel y1 wx).block _ (by omega))).trans hfA
          have kB : get? GRef09Base wx ⟨x4.heap.size, 0, none⟩ = some default := GB.get (hbx) hgB
          have kG : blkFree wx x4.heap.size = true := (blkFree_keep ((hbx : Bel y4 wx).block _ (by omega))).trans hfB
          have kN : mapAt GName Bool wx rl = some nl := (mapAt_below (((hb3.trans hc3).trans (hb4.trans hc4)).trans hbx : Bel y2 wx) (mapAt_lt HNL.out)).trans HNL.out
          have kO : mapAt Int GEntry wx ro = some (opensL M) := (mapAt_below (((hb3.trans hc3).trans (hb4.trans hc4)).trans hbx : Bel y2 wx) (mapAt_lt HOP.out)).trans HOP.out
          obtain ⟨hB1, hfin⟩ := bases_put (cf := cf) (HB4.trans hbx) (gA := x1.heap.size) (gB := x4.heap.size) (by omega) (by omega) (by omega) kA kB kN HSET.out kO ((HLH.out.bel ((hb4.trans hc4).trans hbx : Bel y3 wx)).mono' (fun q hq => ⟨by omega, by omega⟩)) ((HOH.out.bel ((hb4.trans hc4).trans hbx : Bel y3 wx)).mono' (fun q hq => ⟨by omega, by omega⟩)) (by omega) (by omega) (by omega) (by omega)
          go_simp
          have HB1 := Lib.hid hB1; have HFIN := Lib.hid hfin
          have HFB := Lib.hid (show blkFree (World.putCells wx ⟨x1.heap.size, 0, none⟩ (GBatchBase.enc ⟨cf, M.epoch, M.last, some rl, some ro⟩)) x4.heap.size = true from blkFree_putCells.trans kG)
          clear kA kF kB kG kN kO hB1 hfin
          generalize World.putCells wx ⟨x1.heap.size, 0, none⟩ (GBatchBase.enc ⟨cf, M.epoch, M.last, some rl, some ro⟩) = we at HB1 HFIN HFB ⊢
          refine hK _ _ (fun h => absurd (by simp) h) ?_
          clear hK K
          refine wpG_force 9 _ rfl (by kernel_rfl) rfl fun wy hwy K hK => ?_
          have hby : Bel we wy := hwy
          have kB : get? GRef09Base wy ⟨x4.heap.size, 0, none⟩ = some default := GB.get hby HB1.out
          have kG : blkFree wy x4.heap.size = true := (blkFree_keep (hby.block _ (get?_lt HB1.out))).trans HFB.out
          go_simp
          have HBAS := Lib.hid (HFIN.out wy hby)
          clear kB kG
          generalize World.putCells wy ⟨x4.heap.size, 0, none⟩ (GRef09Base.enc ⟨cf, M.epoch, M.last, lh, oh⟩) = wz at HBAS ⊢
          refine hK _ _ (fun h => absurd (by simp) h) ?_
          clear hK K
          refine wpG_end (by kernel_rfl) (fun wn hwn => ?_) _
          have HFF := Lib.hid (HBAS.out.bel' hwn)
          clear hwn
          go_wp2_with fail
          go_meet
          exact ⟨_, _, rfl, rfl, HFF.out⟩
        · intro x3 hwx3 K hK
          have hb3 : Bel y2 x3 := hwx3
          have hq3 : Bel w1 x3 := HB2.trans hb3
          go_simp
          refine hK _ _ (fun _ => GB.al _ _) ?_
          clear hK K
          have hgB := get?_new (w := x3) 211 (default : GRef09Base)
          have hfB : blkFree (x3.alloc (.cells (GRef09Base.enc default).toArray 211)) x3.heap.size = true := blkFree_new _ _ rfl
          have hc3 : Bel x3 (x3.alloc (.cells (GRef09Base.enc default).toArray 211)) := (Bel.refl x3).alloc _
          have hzB : (x3.alloc (.cells (GRef09Base.enc default).toArray 211)).heap.size = x3.heap.size + 1 := by simp
          change get? GRef09Base (x3.alloc (.cells (GRef09Base.enc default).toArray 211)) ⟨x3.heap.size, 0, none⟩ = some default at hgB
          generalize (x3.alloc (.cells (GRef09Base.enc default).toArray 211)) = y3 at hgB hfB hc3 hzB ⊢
          have HB3 : Bel w1 y3 := hq3.trans hc3
          have hs3 := hb3.size; have ht3 := hc3.size
          refine wpG_force 5 _ rfl (by kernel_rfl) rfl fun x4 hwx4 K hK => ?_
          have hb4 : Bel y3 x4 := hwx4
          have hq4 : Bel w1 x4 := HB3.trans hb4
          go_simp
          refine (rbase_any h S' U' M cf x4 (HR1.out.bel hq4) hl).mono ?_
          rintro _ y4 ⟨lh, oh, rfl, hlh, hoh, hc4⟩
          have HLH := Lib.hid (hlh.mono (Q' := fun q => x4.heap.size ≤ q ∧ q < y4.heap.size) (fun q hq hp => ⟨hp, hq⟩)); have HOH := Lib.hid (hoh.mono (Q' := fun q => x4.heap.size ≤ q ∧ q < y4.heap.size) (fun q hq hp => ⟨hp, hq⟩))
          refine hK _ _ (fun _ => hc4) ?_
          clear hK K hlh hoh
          have HB4 : Bel w1 y4 := hq4.trans hc4
          have hs4 := hb4.size; have ht4 := hc4.size
          refine wpG_force 8 _ rfl (by kernel_rfl) rfl fun wx hwx K hK => ?_
          have hbx : Bel y4 wx := hwx
          have kA : get? GBatchBase wx ⟨x1.heap.size, 0, none⟩ = some default := GB.get ((((hb2.trans hc2).trans (hb3.trans hc3)).trans (hb4.trans hc4)).trans hbx) hgA
          have kF : blkFree wx x1.heap.size = true := (blkFree_keep (((((hb2.trans hc2).trans (hb3.trans hc3)).trans (hb4.trans hc4)).trans hbx : Bel y1 wx).block _ (by omega))).trans hfA
          have kB : get? GRef09Base wx ⟨x3.heap.size, 0, none⟩ = some default := GB.get ((hb4.trans hc4).trans hbx) hgB
          have kG : blkFree wx x3.heap.size = true := (blkFree_keep (((hb4.trans hc4).trans hbx : Bel y3 wx).block _ (by omega))).trans hfB
          have kN : mapAt GName Bool wx rl = some nl := (mapAt_below (((hb3.trans hc3).trans (hb4.trans hc4)).trans hbx : Bel y2 wx) (mapAt_lt HNL.out)).trans HNL.out
          have kO : mapAt Int GEntry wx ro = some (opensL M) := (mapAt_below (((hb3.trans hc3).trans (hb4.trans hc4)).trans hbx : Bel y2 wx) (mapAt_lt HOP.out)).trans HOP.out
          obtain ⟨hB1, hfin⟩ := bases_put (cf := cf) (HB4.trans hbx) (gA := x1.heap.size) (gB := x3.heap.size) (by omega) (by omega) (by omega) kA kB kN HSET.out kO ((HLH.out.bel (hbx : Bel y4 wx)).mono' (fun q hq => ⟨by omega, by omega⟩)) ((HOH.out.bel (hbx : Bel y4 wx)).mono' (fun q hq => ⟨by omega, by omega⟩)) (by omega) (by omega) (by omega) (by omega)
          go_simp
          have HB1 := Lib.hid hB1; have HFIN := Lib.hid hfin
          have HFB := Lib.hid (show blkFree (World.putCells wx ⟨x1.heap.size, 0, none⟩ (GBatchBase.enc ⟨cf, M.epoch, M.last, some rl, some ro⟩)) x3.heap.size = true from blkFree_putCells.trans kG)
          clear kA kF kB kG kN kO hB1 hfin
          generalize World.putCells wx ⟨x1.heap.size, 0, none⟩ (GBatchBase.enc ⟨cf, M.epoch, M.last, some rl, some ro⟩) = we at HB1 HFIN HFB ⊢
          refine hK _ _ (fun h => absurd (by simp) h) ?_
          clear hK K
          refine wpG_force 9 _ rfl (by kernel_rfl) rfl fun wy hwy K hK => ?_
          have hby : Bel we wy := hwy
          have kB : get? GRef09Base wy ⟨x3.heap.size, 0, none⟩ = some default := GB.get hby HB1.out
          have kG : blkFree wy x3.heap.size = true := (blkFree_keep (hby.block _ (get?_lt HB1.out))).trans HFB.out
          go_simp
          have HBAS := Lib.hid (HFIN.out wy hby)
          clear kB kG
          generalize World.putCells wy ⟨x3.heap.size, 0, none⟩ (GRef09Base.enc ⟨cf, M.epoch, M.last, lh, oh⟩) = wz at HBAS ⊢
          refine hK _ _ (fun h => absurd (by simp) h) ?_
          clear hK K
          refine wpG_end (by kernel_rfl) (fun wn hwn => ?_) _
          have HFF := Lib.hid (HBAS.out.bel' hwn)
          clear hwn
          go_wp2_with fail
          go_meet
          exact ⟨_, _, rfl, rfl, HFF.out⟩
      · intro x2 hwx2 K hK
        have hb2 : Bel y1 x2 := hwx2
        have hq2 : Bel w1 x2 := HB1.trans hb2
        go_simp
        refine hK _ _ (fun _ => GB.al _ _) ?_
        clear hK K
        have hgB := get?_new (w := x2) 211 (default : GRef09Base)
        have hfB : blkFree (x2.alloc (.cells (GRef09Base.enc default).toArray 211)) x2.heap.size = true := blkFree_new _ _ rfl
        have hc2 : Bel x2 (x2.alloc (.cells (GRef09Base.enc default).toArray 211)) := (Bel.refl x2).alloc _
        have hzB : (x2.alloc (.cells (GRef09Base.enc default).toArray 211)).heap.size = x2.heap.size + 1 := by simp
        change get? GRef09Base (x2.alloc (.cells (GRef09Base.enc default).toArray 211)) ⟨x2.heap.size, 0, none⟩ = some default at hgB
        generalize (x2.alloc (.cells (GRef09Base.enc default).toArray 211)) = y2 at hgB hfB hc2 hzB ⊢
        have HB2 : Bel w1 y2 := hq2.trans hc2
        have hs2 := hb2.size; have ht2 := hc2.size
        refine wpG_force 2 _ rfl (by kernel_rfl) rfl fun x3 hwx3 K hK => ?_
        have hb3 : Bel y2 x3 := hwx3
        have hq3 : Bel w1 x3 := HB2.trans hb3
        go_simp
        refine (base_any g S U M cf x3 (HL1.out.bel hq3) hl).mono ?_
        rintro _ y3 ⟨rl, ro, nl, rfl, hnl, hset, hop, hrl, hro, hc3⟩
        have hrlt := mapAt_lt hnl
        have hrot := mapAt_lt hop
        have HNL := Lib.hid hnl; have HSET := Lib.hid hset; have HOP := Lib.hid hop
        refine hK _ _ (fun _ => hc3) ?_
        clear hK K hnl hset hop
        have HB3 : Bel w1 y3 := hq3.trans hc3
        have hs3 := hb3.size; have ht3 := hc3.size
        refine wpG_force 5 _ rfl (by kernel_rfl) rfl fun x4 hwx4 K hK => ?_
        have hb4 : Bel y3 x4 := hwx4
        have hq4 : Bel w1 x4 := HB3.trans hb4
        go_simp
        refine (rbase_any h S' U' M cf x4 (HR1.out.bel hq4) hl).mono ?_
        rintro _ y4 ⟨lh, oh, rfl, hlh, hoh, hc4⟩
        have HLH := Lib.hid (hlh.mono (Q' := fun q => x4.heap.size ≤ q ∧ q < y4.heap.size) (fun q hq hp => ⟨hp, hq⟩)); have HOH := Lib.hid (hoh.mono (Q' := fun q => x4.heap.size ≤ q ∧ q < y4.heap.size) (fun q hq hp => ⟨hp, hq⟩))
        refine hK _ _ (fun _ => hc4) ?_
        clear hK K hlh hoh
        have HB4 : Bel w1 y4 := hq4.trans hc4
        have hs4 := hb4.size; have ht4 := hc4.size
        refine wpG_force 8 _ rfl (by kernel_rfl) rfl fun wx hwx K hK => ?_
        have hbx : Bel y4 wx := hwx
        have kA : get? GBatchBase wx ⟨x1.heap.size, 0, none⟩ = some default := GB.get ((((hb2.trans hc2).trans (hb3.trans hc3)).trans (hb4.trans hc4)).trans hbx) hgA
        have kF : blkFree wx x1.heap.size = true := (blkFree_keep (((((hb2.trans hc2).trans (hb3.trans hc3)).trans (hb4.trans hc4)).trans hbx : Bel y1 wx).block _ (by omega))).trans hfA
        have kB : get? GRef09Base wx ⟨x2.heap.size, 0, none⟩ = some default := GB.get (((hb3.trans hc3).trans (hb4.trans hc4)).trans hbx) hgB
        have kG : blkFree wx x2.heap.size = true := (blkFree_keep ((((hb3.trans hc3).trans (hb4.trans hc4)).trans hbx : Bel y2 wx).block _ (by omega))).trans hfB
        have kN : mapAt GName Bool wx rl = some nl := (mapAt_below ((hb4.trans hc4).trans hbx : Bel y3 wx) (mapAt_lt HNL.out)).trans HNL.out
        have kO : mapAt Int GEntry wx ro = some (opensL M) := (mapAt_below ((hb4.trans hc4).trans hbx : Bel y3 wx) (mapAt_lt HOP.out)).trans HOP.out
        obtain ⟨hB1, hfin⟩ := bases_put (cf := cf) (HB4.trans hbx) (gA := x1.heap.size) (gB := x2.heap.size) (by omega) (by omega) (by omega) kA kB kN HSET.out kO ((HLH.out.bel (hbx : Bel y4 wx)).mono' (fun q hq => ⟨by omega, by omega⟩)) ((HOH.out.bel (hbx : Bel y4 wx)).mono' (fun q hq => ⟨by omega, by omega⟩)) (by omega) (by omega) (by omega) (by omega)
        go_simp
        have HB1 := Lib.hid hB1; have HFIN := Lib.hid hfin
        have HFB := Lib.hid (show blkFree (World.putCells wx ⟨x1.heap.size, 0, none⟩ (GBatchBase.enc ⟨cf, M.epoch, M.last, some rl, some ro⟩)) x2.heap.size = true from blkFree_putCells.trans kG)
        clear kA kF kB kG kN kO hB1 hfin
        generalize World.putCells wx ⟨x1.heap.size, 0, none⟩ (GBatchBase.enc ⟨cf, M.epoch, M.last, some rl, some ro⟩) = we at HB1 HFIN HFB ⊢
        refine hK _ _ (fun h => absurd (by simp) h) ?_
        clear hK K
        refine wpG_force 9 _ rfl (by kernel_rfl) rfl fun wy hwy K hK => ?_
        have hby : Bel we wy := hwy
        have kB : get? GRef09Base wy ⟨x2.heap.size, 0, none⟩ = some default := GB.get hby HB1.out
        have kG : blkFree wy x2.heap.size = true := (blkFree_keep (hby.block _ (get?_lt HB1.out))).trans HFB.out
        go_simp
        have HBAS := Lib.hid (HFIN.out wy hby)
        clear kB kG
        generalize World.putCells wy ⟨x2.heap.size, 0, none⟩ (GRef09Base.enc ⟨cf, M.epoch, M.last, lh, oh⟩) = wz at HBAS ⊢
        refine hK _ _ (fun h => absurd (by simp) h) ?_
        clear hK K
        refine wpG_end (by kernel_rfl) (fun wn hwn => ?_) _
        have HFF := Lib.hid (HBAS.out.bel' hwn)
        clear hwn
        go_wp2_with fail
        go_meet
        exact ⟨_, _, rfl, rfl, HFF.out⟩
    · intro x1 hwx1 K hK
      have hb1 : Bel w1 x1 := hwx1.undrew
      have hq1 : Bel w1 x1 := hb1
      go_simp
      refine hK _ _ (fun _ => GB.al _ _) ?_
      clear hK K
      have hgB := get?_new (w := x1) 211 (default : GRef09Base)
      have hfB : blkFree (x1.alloc (.cells (GRef09Base.enc default).toArray 211)) x1.heap.size = true := blkFree_new _ _ rfl
      have hc1 : Bel x1 (x1.alloc (.cells (GRef09Base.enc default).toArray 211)) := (Bel.refl x1).alloc _
      have hzB : (x1.alloc (.cells (GRef09Base.enc default).toArray 211)).heap.size = x1.heap.size + 1 := by simp
      change get? GRef09Base (x1.alloc (.cells (GRef09Base.enc default).toArray 211)) ⟨x1.heap.size, 0, none⟩ = some default at hgB
      generalize (x1.alloc (.cells (GRef09Base.enc default).toArray 211)) = y1 at hgB hfB hc1 hzB ⊢
      have HB1 : Bel w1 y1 := hq1.trans hc1
      have hs1 := hb1.size; have ht1 := hc1.size
      refine wpG_two 2 6 _ _ rfl rfl (by kernel_rfl) rfl rfl ?_ ?_
      · intro x2 hwx2 K hK
        have hb2 : Bel y1 x2 := hwx2
        have hq2 : Bel w1 x2 := HB1.trans hb2
        go_simp
        refine (base_any g S U M cf x2 (HL1.out.bel hq2) hl).mono ?_
        rintro _ y2 ⟨rl, ro, nl, rfl, hnl, hset, hop, hrl, hro, hc2⟩
        have hrlt := mapAt_lt hnl
        have hrot := mapAt_lt hop
        have HNL := Lib.hid hnl; have HSET := Lib.hid hset; have HOP := Lib.hid hop
        refine hK _ _ (fun _ => hc2) ?_
        clear hK K hnl hset hop
        have HB2 : Bel w1 y2 := hq2.trans hc2
        have hs2 := hb2.size; have ht2 := hc2.size
        refine wpG_two 5 6 _ _ rfl rfl (by kernel_rfl) rfl rfl ?_ ?_
        · intro x3 hwx3 K hK
          have hb3 : Bel y2 x3 := hwx3
          have hq3 : Bel w1 x3 := HB2.trans hb3
          go_simp
          refine (rbase_any h S' U' M cf x3 (HR1.out.bel hq3) hl).mono ?_
          rintro _ y3 ⟨lh, oh, rfl, hlh, hoh, hc3⟩
          have HLH := Lib.hid (hlh.mono (Q' := fun q => x3.heap.size ≤ q ∧ q < y3.heap.size) (fun q hq hp => ⟨hp, hq⟩)); have HOH := Lib.hid (hoh.mono (Q' := fun q => x3.heap.size ≤ q ∧ q < y3.heap.size) (fun q hq hp => ⟨hp, hq⟩))
          refine hK _ _ (fun _ => hc3) ?_
          clear hK K hlh hoh
          have HB3 : Bel w1 y3 := hq3.trans hc3
          have hs3 := hb3.size; have ht3 := hc3.size
          refine wpG_force 6 _ rfl (by kernel_rfl) rfl fun x4 hwx4 K hK => ?_
          have hb4 : Bel y3 x4 := hwx4
          have hq4 : Bel w1 x4 := HB3.trans hb4
          go_simp
          refine hK _ _ (fun _ => GB.al _ _) ?_
          clear hK K
          have hgA := get?_new (w := x4) 113 (default : GBatchBase)
          have hfA : blkFree (x4.alloc (.cells (GBatchBase.enc default).toArray 113)) x4.heap.size = true := blkFree_new _ _ rfl
          have hc4 : Bel x4 (x4.alloc (.cells (GBatchBase.enc default).toArray 113)) := (Bel.refl x4).alloc _
          have hzA : (x4.alloc (.cells (GBatchBase.enc default).toArray 113)).heap.size = x4.heap.size + 1 := by simp
          change get? GBatchBase (x4.alloc (.cells (GBatchBase.enc default).toArray 113)) ⟨x4.heap.size, 0, none⟩ = some default at hgA
          generalize (x4.alloc (.cells (GBatchBase.enc default).toArray 113)) = y4 at hgA hfA hc4 hzA ⊢
          have HB4 : Bel w1 y4 := hq4.trans hc4
          have hs4 := hb4.size; have ht4 := hc4.size
          refine wpG_force 8 _ rfl (by kernel_rfl) rfl fun wx hwx K hK => ?_
          have hbx : Bel y4 wx := hwx
          have kA : get? GBatchBase wx ⟨x4.heap.size, 0, none⟩ = some default := GB.get (hbx) hgA
          have kF : blkFree wx x4.heap.size = true := (blkFree_keep ((hbx : Bel y4 wx).block _ (by omega))).trans hfA
          have kB : get? GRef09Base wx ⟨x1.heap.size, 0, none⟩ = some default := GB.get ((((hb2.trans hc2).trans (hb3.trans hc3)).trans (hb4.trans hc4)).trans hbx) hgB
          have kG : blkFree wx x1.heap.size = true := (blkFree_keep (((((hb2.trans hc2).trans (hb3.trans hc3)).trans (hb4.trans hc4)).trans hbx : Bel y1 wx).block _ (by omega))).trans hfB
          have kN : mapAt GName Bool wx rl = some nl := (mapAt_below (((hb3.trans hc3).trans (hb4.trans hc4)).trans hbx : Bel y2 wx) (mapAt_lt HNL.out)).trans HNL.out
          have kO : mapAt Int GEntry wx ro = some (opensL M) := (mapAt_below (((hb3.trans hc3).trans (hb4.trans hc4)).trans hbx : Bel y2 wx) (mapAt_lt HOP.out)).trans HOP.out
          obtain ⟨hB1, hfin⟩ := bases_put (cf := cf) (HB4.trans hbx) (gA := x4.heap.size) (gB := x1.heap.size) (by omega) (by omega) (by omega) kA kB kN HSET.out kO ((HLH.out.bel ((hb4.trans hc4).trans hbx : Bel y3 wx)).mono' (fun q hq => ⟨by omega, by omega⟩)) ((HOH.out.bel ((hb4.trans hc4).trans hbx : Bel y3 wx)).mono' (fun q hq => ⟨by omega, by omega⟩)) (by omega) (by omega) (by omega) (by omega)
          go_simp
          have HB1 := Lib.hid hB1; have HFIN := Lib.hid hfin
          have HFB := Lib.hid (show blkFree (World.putCells wx ⟨x4.heap.size, 0, none⟩ (GBatchBase.enc ⟨cf, M.epoch, M.last, some rl, some ro⟩)) x1.heap.size = true from blkFree_putCells.trans kG)
          clear kA kF kB kG kN kO hB1 hfin
          generalize World.putCells wx ⟨x4.heap.size, 0, none⟩ (GBatchBase.enc ⟨cf, M.epoch, M.last, some rl, some ro⟩) = we at HB1 HFIN HFB ⊢
          refine hK _ _ (fun h => absurd (by simp) h) ?_
          clear hK K
          refine wpG_force 9 _ rfl (by kernel_rfl) rfl fun wy hwy K hK => ?_
          have hby : Bel we wy := hwy
          have kB : get? GRef09Base wy ⟨x1.heap.size, 0, none⟩ = some default := GB.get hby HB1.out
          have kG : blkFree wy x1.heap.size = true := (blkFree_keep (hby.block _ (get?_lt HB1.out))).trans HFB.out
          go_simp
          have HBAS := Lib.hid (HFIN.out wy hby)
          clear kB kG
          generalize World.putCells wy ⟨x1.heap.size, 0, none⟩ (GRef09Base.enc ⟨cf, M.epoch, M.last, lh, oh⟩) = wz at HBAS ⊢
          refine hK _ _ (fun h => absurd (by simp) h) ?_
          clear hK K
          refine wpG_end (by kernel_rfl) (fun wn hwn => ?_) _
          have HFF := Lib.hid (HBAS.out.bel' hwn)
          clear hwn
          go_wp2_with fail
          go_meet
          exact ⟨_, _, rfl, rfl, HFF.out⟩
        · intro x3 hwx3 K hK
          have hb3 : Bel y2 x3 := hwx3
          have hq3 : Bel w1 x3 := HB2.trans hb3
          go_simp
          refine hK _ _ (fun _ => GB.al _ _) ?_
          clear hK K
          have hgA := get?_new (w := x3) 113 (default : GBatchBase)
          have hfA : blkFree (x3.alloc (.cells (GBatchBase.enc default).toArray 113)) x3.heap.size = true := blkFree_new _ _ rfl
          have hc3 : Bel x3 (x3.alloc (.cells (GBatchBase.enc default).toArray 113)) := (Bel.refl x3).alloc _
          have hzA : (x3.alloc (.cells (GBatchBase.enc default).toArray 113)).heap.size = x3.heap.size + 1 := by simp
          change get? GBatchBase (x3.alloc (.cells (GBatchBase.enc default).toArray 113)) ⟨x3.heap.size, 0, none⟩ = some default at hgA
          generalize (x3.alloc (.cells (GBatchBase.enc default).toArray 113)) = y3 at hgA hfA hc3 hzA ⊢
          have HB3 : Bel w1 y3 := hq3.trans hc3
          have hs3 := hb3.size; have ht3 := hc3.size
          refine wpG_force 5 _ rfl (by kernel_rfl) rfl fun x4 hwx4 K hK => ?_
          have hb4 : Bel y3 x4 := hwx4
          have hq4 : Bel w1 x4 := HB3.trans hb4
          go_simp
          refine (rbase_any h S' U' M cf x4 (HR1.out.bel hq4) hl).mono ?_
          rintro _ y4 ⟨lh, oh, rfl, hlh, hoh, hc4⟩
          have HLH := Lib.hid (hlh.mono (Q' := fun q => x4.heap.size ≤ q ∧ q < y4.heap.size) (fun q hq hp => ⟨hp, hq⟩)); have HOH := Lib.hid (hoh.mono (Q' := fun q => x4.heap.size ≤ q ∧ q < y4.heap.size) (fun q hq hp => ⟨hp, hq⟩))
          refine hK _ _ (fun _ => hc4) ?_
          clear hK K hlh hoh
          have HB4 : Bel w1 y4 := hq4.trans hc4
          have hs4 := hb4.size; have ht4 := hc4.size
          refine wpG_force 8 _ rfl (by kernel_rfl) rfl fun wx hwx K hK => ?_
          have hbx : Bel y4 wx := hwx
          have kA : get? GBatchBase wx ⟨x3.heap.size, 0, none⟩ = some default := GB.get ((hb4.trans hc4).trans hbx) hgA
          have kF : blkFree wx x3.heap.size = true := (blkFree_keep (((hb4.trans hc4).trans hbx : Bel y3 wx).block _ (by omega))).trans hfA
          have kB : get? GRef09Base wx ⟨x1.heap.size, 0, none⟩ = some default := GB.get ((((hb2.trans hc2).trans (hb3.trans hc3)).trans (hb4.trans hc4)).trans hbx) hgB
          have kG : blkFree wx x1.heap.size = true := (blkFree_keep (((((hb2.trans hc2).trans (hb3.trans hc3)).trans (hb4.trans hc4)).trans hbx : Bel y1 wx).block _ (by omega))).trans hfB
          have kN : mapAt GName Bool wx rl = some nl := (mapAt_below (((hb3.trans hc3).trans (hb4.trans hc4)).trans hbx : Bel y2 wx) (mapAt_lt HNL.out)).trans HNL.out
          have kO : mapAt Int GEntry wx ro = some (opensL M) := (mapAt_below (((hb3.trans hc3).trans (hb4.trans hc4)).trans hbx : Bel y2 wx) (mapAt_lt HOP.out)).trans HOP.out
          obtain ⟨hB1, hfin⟩ := bases_put (cf := cf) (HB4.trans hbx) (gA := x3.heap.size) (gB := x1.heap.size) (by omega) (by omega) (by omega) kA kB kN HSET.out kO ((HLH.out.bel (hbx : Bel y4 wx)).mono' (fun q hq => ⟨by omega, by omega⟩)) ((HOH.out.bel (hbx : Bel y4 wx)).mono' (fun q hq => ⟨by omega, by omega⟩)) (by omega) (by omega) (by omega) (by omega)
          go_simp
          have HB1 := Lib.hid hB1; have HFIN := Lib.hid hfin
          have HFB := Lib.hid (show blkFree (World.putCells wx ⟨x3.heap.size, 0, none⟩ (GBatchBase.enc ⟨cf, M.epoch, M.last, some rl, some ro⟩)) x1.heap.size = true from blkFree_putCells.trans kG)
          clear kA kF kB kG kN kO hB1 hfin
          generalize World.putCells wx ⟨x3.heap.size, 0, none⟩ (GBatchBase.enc ⟨cf, M.epoch, M.last, some rl, some ro⟩) = we at HB1 HFIN HFB ⊢
          refine hK _ _ (fun h => absurd (by simp) h) ?_
          clear hK K
          refine wpG_force 9 _ rfl (by kernel_rfl) rfl fun wy hwy K hK => ?_
          have hby : Bel we wy := hwy
          have kB : get? GRef09Base wy ⟨x1.heap.size, 0, none⟩ = some default := GB.get hby HB1.out
          have kG : blkFree wy x1.heap.size = true := (blkFree_keep (hby.block _ (get?_lt HB1.out))).trans HFB.out
          go_simp
          have HBAS := Lib.hid (HFIN.out wy hby)
          clear kB kG
          generalize World.putCells wy ⟨x1.heap.size, 0, none⟩ (GRef09Base.enc ⟨cf, M.epoch, M.last, lh, oh⟩) = wz at HBAS ⊢
          refine hK _ _ (fun h => absurd (by simp) h) ?_
          clear hK K
          refine wpG_end (by kernel_rfl) (fun wn hwn => ?_) _
          have HFF := Lib.hid (HBAS.out.bel' hwn)
          clear hwn
          go_wp2_with fail
          go_meet
          exact ⟨_, _, rfl, rfl, HFF.out⟩
      · intro x2 hwx2 K hK
        have hb2 : Bel y1 x2 := hwx2
        have hq2 : Bel w1 x2 := HB1.trans hb2
        go_simp
        refine hK _ _ (fun _ => GB.al _ _) ?_
        clear hK K
        have hgA := get?_new (w := x2) 113 (default : GBatchBase)
        have hfA : blkFree (x2.alloc (.cells (GBatchBase.enc default).toArray 113)) x2.heap.size = true := blkFree_new _ _ rfl
        have hc2 : Bel x2 (x2.alloc (.cells (GBatchBase.enc default).toArray 113)) := (Bel.refl x2).alloc _
        have hzA : (x2.alloc (.cells (GBatchBase.enc default).toArray 113)).heap.size = x2.heap.size + 1 := by simp
        change get? GBatchBase (x2.alloc (.cells (GBatchBase.enc default).toArray 113)) ⟨x2.heap.size, 0, none⟩ = some default at hgA
        generalize (x2.alloc (.cells (GBatchBase.enc default).toArray 113)) = y2 at hgA hfA hc2 hzA ⊢
        have HB2 : Bel w1 y2 := hq2.trans hc2
        have hs2 := hb2.size; have ht2 := hc2.size
        refine wpG_force 2 _ rfl (by kernel_rfl) rfl fun x3 hwx3 K hK => ?_
        have hb3 : Bel y2 x3 := hwx3
        have hq3 : Bel w1 x3 := HB2.trans hb3
        go_simp
        refine (base_any g S U M cf x3 (HL1.out.bel hq3) hl).mono ?_
        rintro _ y3 ⟨rl, ro, nl, rfl, hnl, hset, hop, hrl, hro, hc3⟩
        have hrlt := mapAt_lt hnl
        have hrot := mapAt_lt hop
        have HNL := Lib.hid hnl; have HSET := Lib.hid hset; have HOP := Lib.hid hop
        refine hK _ _ (fun _ => hc3) ?_
        clear hK K hnl hset hop
        have HB3 : Bel w1 y3 := hq3.trans hc3
        have hs3 := hb3.size; have ht3 := hc3.size
        refine wpG_force 5 _ rfl (by kernel_rfl) rfl fun x4 hwx4 K hK => ?_
        have hb4 : Bel y3 x4 := hwx4
        have hq4 : Bel w1 x4 := HB3.trans hb4
        go_simp
        refine (rbase_any h S' U' M cf x4 (HR1.out.bel hq4) hl).mono ?_
        rintro _ y4 ⟨lh, oh, rfl, hlh, hoh, hc4⟩
        have HLH := Lib.hid (hlh.mono (Q' := fun q => x4.heap.size ≤ q ∧ q < y4.heap.size) (fun q hq hp => ⟨hp, hq⟩)); have HOH := Lib.hid (hoh.mono (Q' := fun q => x4.heap.size ≤ q ∧ q < y4.heap.size) (fun q hq hp => ⟨hp, hq⟩))
        refine hK _ _ (fun _ => hc4) ?_
        clear hK K hlh hoh
        have HB4 : Bel w1 y4 := hq4.trans hc4
        have hs4 := hb4.size; have ht4 := hc4.size
        refine wpG_force 8 _ rfl (by kernel_rfl) rfl fun wx hwx K hK => ?_
        have hbx : Bel y4 wx := hwx
        have kA : get? GBatchBase wx ⟨x2.heap.size, 0, none⟩ = some default := GB.get (((hb3.trans hc3).trans (hb4.trans hc4)).trans hbx) hgA
        have kF : blkFree wx x2.heap.size = true := (blkFree_keep ((((hb3.trans hc3).trans (hb4.trans hc4)).trans hbx : Bel y2 wx).block _ (by omega))).trans hfA
        have kB : get? GRef09Base wx ⟨x1.heap.size, 0, none⟩ = some default := GB.get ((((hb2.trans hc2).trans (hb3.trans hc3)).trans (hb4.trans hc4)).trans hbx) hgB
        have kG : blkFree wx x1.heap.size = true := (blkFree_keep (((((hb2.trans hc2).trans (hb3.trans hc3)).trans (hb4.trans hc4)).trans hbx : Bel y1 wx).block _ (by omega))).trans hfB
        have kN : mapAt GName Bool wx rl = some nl := (mapAt_below ((hb4.trans hc4).trans hbx : Bel y3 wx) (mapAt_lt HNL.out)).trans HNL.out
        have kO : mapAt Int GEntry wx ro = some (opensL M) := (mapAt_below ((hb4.trans hc4).trans hbx : Bel y3 wx) (mapAt_lt HOP.out)).trans HOP.out
        obtain ⟨hB1, hfin⟩ := bases_put (cf := cf) (HB4.trans hbx) (gA := x2.heap.size) (gB := x1.heap.size) (by omega) (by omega) (by omega) kA kB kN HSET.out kO ((HLH.out.bel (hbx : Bel y4 wx)).mono' (fun q hq => ⟨by omega, by omega⟩)) ((HOH.out.bel (hbx : Bel y4 wx)).mono' (fun q hq => ⟨by omega, by omega⟩)) (by omega) (by omega) (by omega) (by omega)
        go_simp
        have HB1 := Lib.hid hB1; have HFIN := Lib.hid hfin
        have HFB := Lib.hid (show blkFree (World.putCells wx ⟨x2.heap.size, 0, none⟩ (GBatchBase.enc ⟨cf, M.epoch, M.last, some rl, some ro⟩)) x1.heap.size = true from blkFree_putCells.trans kG)
        clear kA kF kB kG kN kO hB1 hfin
        generalize World.putCells wx ⟨x2.heap.size, 0, none⟩ (GBatchBase.enc ⟨cf, M.epoch, M.last, some rl, some ro⟩) = we at HB1 HFIN HFB ⊢
        refine hK _ _ (fun h => absurd (by simp) h) ?_
        clear hK K
        refine wpG_force 9 _ rfl (by kernel_rfl) rfl fun wy hwy K hK => ?_
        have hby : Bel we wy := hwy
        have kB : get? GRef09Base wy ⟨x1.heap.size, 0, none⟩ = some default := GB.get hby HB1.out
        have kG : blkFree wy x1.heap.size = true := (blkFree_keep (hby.block _ (get?_lt HB1.out))).trans HFB.out
        go_simp
        have HBAS := Lib.hid (HFIN.out wy hby)
        clear kB kG
        generalize World.putCells wy ⟨x1.heap.size, 0, none⟩ (GRef09Base.enc ⟨cf, M.epoch, M.last, lh, oh⟩) = wz at HBAS ⊢
        refine hK _ _ (fun h => absurd (by simp) h) ?_
        clear hK K
        refine wpG_end (by kernel_rfl) (fun wn hwn => ?_) _
        have HFF := Lib.hid (HBAS.out.bel' hwn)
        clear hwn
        go_wp2_with fail
        go_meet
        exact ⟨_, _, rfl, rfl, HFF.out⟩
  case rest =>
    obtain ⟨gA, gB, rfl, rfl, rl, ro, nl, ⟨la, ln, lc⟩, ⟨oa, on, oc⟩, hgA, hnl, hset, hop, hgB, hlh, hoh, hbx⟩ := hcut
    obtain ⟨wx, rfl⟩ : ∃ wx : World, wx = wc := ⟨_, rfl⟩
    obtain ⟨hlh, hlc, hlm, _⟩ := hlh
    obtain ⟨hoh, hoc, hom, _⟩ := hoh
    simp only at hlh hoh hlc hlm hoc hom
    have hon := hoh.1
    have hln := hlh.1
    have hnlen : nl.length = ln := (BasesAt.count hset (mapAt_nodup hnl) HG.out.names).trans hln
    have honl : (opensL M).length = on := by rw [← hon]; unfold spotsL opensL; rw [List.length_map]
    have honb : on ≤ 1000000 := by have := opens_len M.l 0; unfold opensL at honl; omega
    have hlnb : ln ≤ 1000000 := by unfold namesL at hln; rw [List.length_map] at hln; omega
    have HNL := Lib.hid hnl; have HSET := Lib.hid hset; have HOP := Lib.hid hop; have HLH := Lib.hid hlh; have HOH := Lib.hid hoh; have HGA := Lib.hid hgA; have HGB := Lib.hid hgB; have HBX := Lib.hid (HB0.out.trans hbx); have HLEN := Lib.hid hnlen
    have kc : get? GConf wx ⟨gA, 0, none⟩ = some cf := by
      have := GBatchBase.at_conf hgA
      rw [Addr.add_zero'] at this
      exact this
    have kc2 : get? GConf wx ⟨gB, 0, none⟩ = some cf := by
      have := GRef09Base.at_conf hgB
      rw [Addr.add_zero'] at this
      exact this
    have ke : wx.cell? ⟨gA, 2, none⟩ = some (.int .i64 M.epoch) := cell_off (by omega) (GBatchBase.at_epoch hgA)
    have ke2 : wx.cell? ⟨gB, 2, none⟩ = some (.int .i64 M.epoch) := cell_off (by omega) (GRef09Base.at_epoch hgB)
    have kl : wx.cell? ⟨gA, 3, none⟩ = some (.int .u64 M.last) := cell_off (by omega) (GBatchBase.at_last hgA)
    have kl2 : wx.cell? ⟨gB, 3, none⟩ = some (.int .u64 M.last) := cell_off (by omega) (GRef09Base.at_last hgB)
    have ko : wx.cell? ⟨gA, 5, none⟩ = some (.map (some ro)) := cell_off (by omega) (GBatchBase.at_open_ hgA)
    have ko2 : wx.cell? ⟨gB, 5, none⟩ = some (.slice oa on oc) := cell_off (by omega) (GRef09Base.at_open_ hgB)
    have hlen0 : (Builtin.len_ #[111] 3 #[.map (some ro)]).run Try.prog wx = .ok (.int .i64 (on : Int)) wx := by
      rw [Gv.run_len_map kl3 um111 hop 3, honl]
    have HKO := Lib.hid ko; have HKO2 := Lib.hid ko2
    clear hnl hset hop hlh hoh hgA hgB hbx HB0 HL1 HR1 hcf hon hln hnlen honl
    go_wp2_with fail
    clear kc kc2 ke ke2 kl kl2 ko ko2 hlen0
    go_loopw [53] (fun i wr => ∃ p : Nat, p ≤ on ∧ i = .int .i64 p ∧ Bel wx wr) (fun i _ => on - (intOf i).toNat)
    case atStart => exact ⟨0, by omega, rfl, Bel.refl _⟩
    case round =>
      obtain ⟨p, hp, rfl, hbi⟩ := hrel
      obtain ⟨wi, rfl⟩ : ∃ wi : World, wi = wr := ⟨_, rfl⟩
      have HBI := Lib.hid hbi
      by_cases hlt : p < on
      · obtain ⟨ad, x, rfl, _, hxk, hgx⟩ := (HOH.out.stepB hbi).at_ (k := p) hlt
        change get? GRef09Spot wi (ad.add (p * 36)) = some x at hgx
        have hmo : mget (opensL M) x.index = some x.e := by
          refine (mget_mem (opens_nodup M.l 0)).2 ?_
          have h1 := List.mem_of_getElem? hxk
          unfold spotsL at h1
          rw [List.mem_map] at h1
          obtain ⟨q, hq, rfl⟩ := h1
          exact hq
        have fi : wi.cell? (ad.add (p * 36)) = some (.int .i64 x.index) := by
          have := GRef09Spot.at_index hgx
          rw [Addr.add_zero'] at this
          exact this
        have fe : get? GEntry wi { block := (ad.add (p * 36)).block, off := (ad.add (p * 36)).off + 1, spot := none } = some x.e := by
          have := GRef09Spot.at_e hgx
          rwa [Addr.add_succ'] at this
        have ko : wi.cell? ⟨gA, 5, none⟩ = some (.map (some ro)) := GB.cell hbi HKO.out
        have ko2 : wi.cell? ⟨gB, 5, none⟩ = some (.slice (some ad) on oc) := GB.cell hbi HKO2.out
        have hop : mapAt Int GEntry wi ro = some (opensL M) := (mapAt_below hbi (mapAt_lt HOP.out)).trans HOP.out
        have hlt2 : (p : Int) < (on : Int) := by omega
        have hp0 : (0 : Int) ≤ (p : Int) := by omega
        have HFE := Lib.hid fe
        clear hbi hxk hgx
        go_upto_region 7 with fail
        go_cut [10, 11] (fun a b wz => ∃ ge : Nat, a = .pointer (some ⟨ge, 0, none⟩) ∧ b = .bool true ∧ get? GEntry wz ⟨ge, 0, none⟩ = some x.e ∧ Bel wi wz)
        case first =>
          go_wp2_with fail
          refine wp_region_G GB [13] GB.rf (by kernel_rfl) ?_
          refine wpG_looks 4 15 [0,1,2,3,4,5,6,7,8,9,10] rfl GB.rf GB.tr (by kernel_rfl) (fun _ _ _ _ hd h => And.intro (hd ▸ And.left h) (And.right h)) rfl (by kernel_rfl) ?_
          intro ι W hne CW
          have g0 := fun z => (CW.out z).cell fi
          have g1 := fun z => (CW.out z).cell ko
          have g2 := fun z => (CW.out z).cell ko2
          have g3 := fun z => ((mapAt_below (CW.out z).undrew (mapAt_lt hop)).trans hop : mapAt Int GEntry (W z) ro = some (opensL M))
          repeat (refine wpLooksG_step (fun K hK => ?_); go_simp; refine hK _ ?_; clear hK K)
          --GOAL
          refine wpLooksG_nil ?_
          clear g0 g1 g2 g3 CW hne W ι fi ko ko2 hop hmo fe
          refine wpG_two 11 12 _ _ rfl rfl (by kernel_rfl) rfl rfl ?_ ?_
          · intro u1 hw1 K hK
            go_simp
            refine hK _ _ (fun _ => GB.rf _) ?_
            clear hK K
            have hp1 : Bel wi u1 := hw1.undrew
            refine wpG_force 12 _ rfl (by kernel_rfl) rfl fun u2 hw2 K hK => ?_
            go_simp
            refine hK _ _ (fun _ => GB.al _ _) ?_
            clear hK K
            have hgn := get?_new (w := u2) 30 (default : GEntry)
            have hfn : blkFree (u2.alloc (.cells (GEntry.enc default).toArray 30)) u2.heap.size = true := blkFree_new _ _ rfl
            have hpu : Bel wi u2 := (hp1.trans hw2)
            have hp2 : Bel wi (u2.alloc (.cells (GEntry.enc default).toArray 30)) := hpu.trans ((Bel.refl _).alloc _)
            have hzn : (u2.alloc (.cells (GEntry.enc default).toArray 30)).heap.size = u2.heap.size + 1 := by simp
            have hzu := hpu.size
            change get? GEntry (u2.alloc (.cells (GEntry.enc default).toArray 30)) ⟨u2.heap.size, 0, none⟩ = some default at hgn
            generalize (u2.alloc (.cells (GEntry.enc default).toArray 30)) = va at hgn hfn hp2 hzn ⊢
            refine wpG_force 13 _ rfl (by kernel_rfl) rfl fun u3 hw3 K hK => ?_
            have hau : Bel va u3 := hw3
            have k7 : get? GEntry u3 ⟨u2.heap.size, 0, none⟩ = some default := GB.get hau hgn
            have k8 : blkFree u3 u2.heap.size = true := (blkFree_keep (hau.block _ (by omega))).trans hfn
            go_simp
            have hst := get?_put x.e k7
            have hqs : Bel wi (World.putCells u3 ⟨u2.heap.size, 0, none⟩ (GEntry.enc x.e)) := Below_putCells (a := ⟨u2.heap.size, 0, none⟩) (hp2.trans hau) (by show wi.heap.size ≤ u2.heap.size; omega) _
            change get? GEntry (World.putCells u3 ⟨u2.heap.size, 0, none⟩ (GEntry.enc x.e)) ⟨u2.heap.size, 0, none⟩ = some x.e at hst
            clear k7 k8
            generalize (World.putCells u3 ⟨u2.heap.size, 0, none⟩ (GEntry.enc x.e)) = vs at hst hqs ⊢
            refine hK _ _ (fun h => absurd (by simp) h) ?_
            clear hK K
            refine wpG_force 14 _ rfl (by kernel_rfl) rfl fun u4 hw4 K hK => ?_
            go_simp
            refine hK _ _ (fun _ => GB.rf _) ?_
            clear hK K
            have hq4 : Bel vs u4 := hw4
            refine wpG_end (by kernel_rfl) (fun wn hwn => ?_) _
            have HF := Lib.hid (show get? GEntry wn ⟨u2.heap.size, 0, none⟩ = some x.e ∧ Bel wi wn from ⟨GB.get (hq4.trans hwn) hst, hqs.trans (hq4.trans hwn)⟩)
            clear hwn hst hqs
            go_wp2_with fail
            go_meet
            exact ⟨_, rfl, rfl, HF.out⟩
          · intro u1 hw1 K hK
            go_simp
            refine hK _ _ (fun _ => GB.al _ _) ?_
            clear hK K
            have hgn := get?_new (w := u1) 30 (default : GEntry)
            have hfn : blkFree (u1.alloc (.cells (GEntry.enc default).toArray 30)) u1.heap.size = true := blkFree_new _ _ rfl
            have hpu : Bel wi u1 := hw1.undrew
            have hp1 : Bel wi (u1.alloc (.cells (GEntry.enc default).toArray 30)) := hpu.trans ((Bel.refl _).alloc _)
            have hzn : (u1.alloc (.cells (GEntry.enc default).toArray 30)).heap.size = u1.heap.size + 1 := by simp
            have hzu := hpu.size
            change get? GEntry (u1.alloc (.cells (GEntry.enc default).toArray 30)) ⟨u1.heap.size, 0, none⟩ = some default at hgn
            generalize (u1.alloc (.cells (GEntry.enc default).toArray 30)) = va at hgn hfn hp1 hzn ⊢
            refine wpG_two 11 13 _ _ rfl rfl (by kernel_rfl) rfl rfl ?_ ?_
            · intro u2 hw2 K hK
              go_simp
              refine hK _ _ (fun _ => GB.rf _) ?_
              clear hK K
              have hp2 : Bel wi u2 := (hp1.trans hw2)
              have ha2 : Bel va u2 := hw2
              refine wpG_force 13 _ rfl (by kernel_rfl) rfl fun u3 hw3 K hK => ?_
              have hau : Bel va u3 := (ha2.trans hw3)
              have k7 : get? GEntry u3 ⟨u1.heap.size, 0, none⟩ = some default := GB.get hau hgn
              have k8 : blkFree u3 u1.heap.size = true := (blkFree_keep (hau.block _ (by omega))).trans hfn
              go_simp
              have hst := get?_put x.e k7
              have hqs : Bel wi (World.putCells u3 ⟨u1.heap.size, 0, none⟩ (GEntry.enc x.e)) := Below_putCells (a := ⟨u1.heap.size, 0, none⟩) (hp1.trans hau) (by show wi.heap.size ≤ u1.heap.size; omega) _
              change get? GEntry (World.putCells u3 ⟨u1.heap.size, 0, none⟩ (GEntry.enc x.e)) ⟨u1.heap.size, 0, none⟩ = some x.e at hst
              clear k7 k8
              generalize (World.putCells u3 ⟨u1.heap.size, 0, none⟩ (GEntry.enc x.e)) = vs at hst hqs ⊢
              refine hK _ _ (fun h => absurd (by simp) h) ?_
              clear hK K
              refine wpG_force 14 _ rfl (by kernel_rfl) rfl fun u4 hw4 K hK => ?_
              go_simp
              refine hK _ _ (fun _ => GB.rf _) ?_
              clear hK K
              have hq4 : Bel vs u4 := hw4
              refine wpG_end (by kernel_rfl) (fun wn hwn => ?_) _
              have HF := Lib.hid (show get? GEntry wn ⟨u1.heap.size, 0, none⟩ = some x.e ∧ Bel wi wn from ⟨GB.get (hq4.trans hwn) hst, hqs.trans (hq4.trans hwn)⟩)
              clear hwn hst hqs
              go_wp2_with fail
              go_meet
              exact ⟨_, rfl, rfl, HF.out⟩
            · intro u2 hw2 K hK
              have hau : Bel va u2 := hw2
              have k7 : get? GEntry u2 ⟨u1.heap.size, 0, none⟩ = some default := GB.get hau hgn
              have k8 : blkFree u2 u1.heap.size = true := (blkFree_keep (hau.block _ (by omega))).trans hfn
              go_simp
              have hst := get?_put x.e k7
              have hqs : Bel wi (World.putCells u2 ⟨u1.heap.size, 0, none⟩ (GEntry.enc x.e)) := Below_putCells (a := ⟨u1.heap.size, 0, none⟩) (hp1.trans hau) (by show wi.heap.size ≤ u1.heap.size; omega) _
              change get? GEntry (World.putCells u2 ⟨u1.heap.size, 0, none⟩ (GEntry.enc x.e)) ⟨u1.heap.size, 0, none⟩ = some x.e at hst
              clear k7 k8
              generalize (World.putCells u2 ⟨u1.heap.size, 0, none⟩ (GEntry.enc x.e)) = vs at hst hqs ⊢
              refine hK _ _ (fun h => absurd (by simp) h) ?_
              clear hK K
              refine wpG_force 11 _ rfl (by kernel_rfl) rfl fun u3 hw3 K hK => ?_
              go_simp
              refine hK _ _ (fun _ => GB.rf _) ?_
              clear hK K
              have hq3 : Bel vs u3 := hw3
              refine wpG_force 14 _ rfl (by kernel_rfl) rfl fun u4 hw4 K hK => ?_
              go_simp
              refine hK _ _ (fun _ => GB.rf _) ?_
              clear hK K
              have hq4 : Bel vs u4 := (hq3.trans hw4)
              refine wpG_end (by kernel_rfl) (fun wn hwn => ?_) _
              have HF := Lib.hid (show get? GEntry wn ⟨u1.heap.size, 0, none⟩ = some x.e ∧ Bel wi wn from ⟨GB.get (hq4.trans hwn) hst, hqs.trans (hq4.trans hwn)⟩)
              clear hwn hst hqs
              go_wp2_with fail
              go_meet
              exact ⟨_, rfl, rfl, HF.out⟩
        case rest =>
          obtain ⟨ge, rfl, rfl, hge, hbz⟩ := hcut
          obtain ⟨wz, rfl⟩ : ∃ wz : World, wz = wc := ⟨_, rfl⟩
          have ko2 : wz.cell? ⟨gB, 5, none⟩ = some (.slice (some ad) on oc) := GB.cell (HBI.out.trans hbz) HKO2.out
          have fe : get? GEntry wz { block := (ad.add (p * 36)).block, off := (ad.add (p * 36)).off + 1, spot := none } = some x.e := GB.get hbz HFE.out
          have fe2 : get? GEntry wz { block := ad.block, off := (ad.add (p * 36)).off + 1, spot := none } = some x.e := by rw [addr_add_block] at fe; exact fe
          have HBZ := Lib.hid (HBI.out.trans hbz)
          clear hbz
          go_wp2_with fail
          go_big_quiet (fail)
          have HBY := Lib.hid (HBZ.out.drewN nq)
          go_wp2_with fail
          exact ⟨⟨p + 1, by omega, by go_num, HBY.out⟩, by simp [intOf]; omega⟩
      · obtain rfl : p = on := by omega
        have hnl := (mapAt_below hbi (mapAt_lt HNL.out)).trans HNL.out
        obtain ⟨o, hrange, hR0⟩ := ranges_start (P := Try.prog) um110 hnl
        have k4 : wi.cell? ⟨gA, 4, none⟩ = some (.map (some rl)) := cell_off (by omega) (GBatchBase.at_logged (GB.get hbi HGA.out))
        obtain ⟨it, hit⟩ : ∃ it, wi.heap.size = it := ⟨_, rfl⟩
        have hitl : wx.heap.size ≤ it := by rw [← hit]; exact hbi.size
        rw [hit] at hrange hR0
        have HR0 := Lib.hid hR0
        have hba : Bel wx (wi.alloc o) := Bel.alloc hbi o
        have HBA := Lib.hid hba
        have hrlit : rl < wx.heap.size := mapAt_lt HNL.out
        clear hbi hnl hR0 hba hlt hp
        go_wp2_with fail
        clear hrange k4
        generalize wi.alloc o = wj at HR0 HBA ⊢
        clear hit
        go_loopw [12] (fun v wr => ∃ (V L : List (GName × Bool)) (q : Nat), (V ++ L).Perm nl ∧ Ranges wr rl it nl L ∧ v = .int .i64 q ∧ V.length = q ∧ Bel wx wr) (fun _ wr => wr.rangeLeft rl it)
        case atStart => exact ⟨[], nl, 0, by simp, HR0.out, rfl, rfl, HBA.out⟩
        case round =>
          obtain ⟨V, L, q, hperm, hRG, rfl, hq, hb⟩ := hrel
          have HP := Lib.hid hperm; have HRG := Lib.hid hRG; have HBL := Lib.hid hb; have HQ := Lib.hid hq; clear hperm hRG hb hq
          have hqb : q ≤ 1000000 := by
            have h1 := HP.out.length_eq
            rw [List.length_append, HLEN.out] at h1
            have := HQ.out
            omega
          rcases HRG.out.next Try.prog with ⟨rfl, hnext⟩ | ⟨l1, pr, l2, w1', rfl, hnext, hR1, hg1, hs1, hen⟩
          · obtain ⟨wm, rfl⟩ : ∃ wm : World, wm = wr := ⟨_, rfl⟩
            obtain rfl : q = ln := by
              have h1 := HP.out.length_eq
              rw [List.append_nil, HLEN.out] at h1
              rw [← HQ.out, h1]
            have k8 : wm.cell? ⟨gB, 4, none⟩ = some (.slice la q lc) := cell_off (by omega) (GRef09Base.at_logged (GB.get HBL.out HGB.out))
            go_wp2_with fail
            clear hnext k8
            go_loopw [94] (fun i wr => ∃ z : Nat, z ≤ q ∧ i = .int .i64 z ∧ Bel wm wr) (fun i _ => q - (intOf i).toNat)
            case atStart => exact ⟨0, by omega, rfl, Bel.refl _⟩
            case round =>
              obtain ⟨z, hz, rfl, hbn⟩ := hrel
              obtain ⟨wn, rfl⟩ : ∃ wn : World, wn = wr := ⟨_, rfl⟩
              have HBN := Lib.hid (HBL.out.trans hbn); have HBN2 := Lib.hid hbn
              clear hbn
              have k8 : wn.cell? ⟨gB, 4, none⟩ = some (.slice la q lc) := cell_off (by omega) (GRef09Base.at_logged (GB.get HBN.out HGB.out))
              by_cases hlz : z < q
              · obtain ⟨ad, x, rfl, _, hxk, hgx⟩ := (HLH.out.stepB HBN.out).at_ (k := z) hlz
                change get? GName wn (ad.add (z * 2)) = some x at hgx
                have hmn : mget nl x = some true := by
                  rw [HSET.out x, if_pos (List.mem_of_getElem? hxk)]
                have k4 : wn.cell? ⟨gA, 4, none⟩ = some (.map (some rl)) := cell_off (by omega) (GBatchBase.at_logged (GB.get HBN.out HGA.out))
                have hnl : mapAt GName Bool wn rl = some nl := (mapAt_below HBN.out (mapAt_lt HNL.out)).trans HNL.out
                have hlz2 : (z : Int) < (q : Int) := by omega
                have hz0 : (0 : Int) ≤ (z : Int) := by omega
                clear hxk
                go_wp2_with fail
                go_big_quiet (fail)
                have HBY := Lib.hid (HBN2.out.drewN nq)
                go_wp2_with fail
                exact ⟨⟨z + 1, by omega, by go_num, HBY.out⟩, by simp [intOf]; omega⟩
              · obtain rfl : z = q := by omega
                clear hlz hz
                go_wp2_with fail
                go_ret
                exact ⟨rfl, (HBX.out.trans HBN.out)⟩
          · obtain ⟨k, v⟩ := pr
            obtain ⟨wm, rfl⟩ : ∃ wm : World, wm = wr := ⟨_, rfl⟩
            replace hnext : ∀ ty : TypeId, (Instr.next (.pointer (some ⟨it, 0, none⟩)) false ty).run Try.prog wm = .ok (.tuple #[.bool true, k.val, .bool v]) w1' := hnext
            replace hen : (Instr.entry (.pointer (some ⟨it, 0, none⟩))).run Try.prog w1' = .ok (.tuple #[k.val, .bool v]) w1' := hen
            obtain rfl : v = true := by
              have h1 : (k, v) ∈ nl := HP.out.mem_iff.1 (by simp)
              have h2 := (mget_mem (mapAt_nodup HNL.out)).2 h1
              rw [HSET.out k] at h2
              split at h2
              · injection h2 with h2; exact h2.symm
              · cases h2
            have HR1 := Lib.hid hR1
            have HB1 := Lib.hid (HBL.out.grown hg1 (fun j hj => by injection hj with hj; omega))
            have HP2 := Lib.hid (show ((V ++ [(k, true)]) ++ (l1 ++ l2)).Perm nl from by
              refine List.Perm.trans ?_ HP.out
              rw [List.append_assoc]
              show (V ++ ((k, true) :: (l1 ++ l2))).Perm _
              exact (List.perm_middle.symm).append_left V)
            have hmeas : (l1 ++ l2).length < wm.rangeLeft rl it := by rw [HRG.out.leftN]; simp
            have HQ2 := Lib.hid (show (V ++ [(k, true)]).length = q + 1 by rw [List.length_append, HQ.out]; rfl)
            clear hR1 hg1 hs1
            go_wp2_with fail
            exact ⟨⟨V ++ [(k, true)], l1 ++ l2, q + 1, HP2.out, HR1.out, by go_num, HQ2.out, HB1.out⟩, by rw [HR1.out.leftN]; exact hmeas⟩
end Go.Proofs.Yteockodnfempfaa
/- Two ledgers, the program's and the document's, side by side. Conditions: those named in each theorem. -/
namespace Go.Proofs.Yteockodnfempfaa
open Go Go.RowKit Go.Gv Go.Sort

/-- The two ledgers lie there, apart, and are alike. -/
structure TwoL (w : World) (g h : Nat) (S U S' U' : Nat → Prop) (M : MLedger) : Prop where
  led : LedgerIs w g S U M
  ref : RefIs w h S' U' M
  d1 : ∀ q, S q → ¬ U' q
  d2 : ∀ q, S' q → ¬ U q
structure GoodP (M : MLedger) (k : Nat) : Prop where
  good : GoodM M k
  names : NamesOk M
  opens : OpenE M
  done0 : 0 ≤ M.done
theorem GoodP.mono {M : MLedger} {k j : Nat} (h : GoodP M k) (hk : k ≤ j) : GoodP M j := ⟨h.good.mono hk, h.names, h.opens, h.done0⟩
theorem GoodP.zero : GoodP ⟨0, 0, [], 0⟩ 0 := ⟨GoodM.zero, fun m hm => by simp at hm, fun m hm => by simp at hm, by simp⟩
theorem doneL_l (M : MLedger) : (doneL M).l = M.l := by unfold doneL; split <;> rfl
theorem GoodP.doneL {M : MLedger} {k : Nat} (h : GoodP M k) : GoodP (doneL M) k := by
  refine ⟨h.good.doneL, ?_, ?_, ?_⟩
  · intro m hm
    rw [doneL_l] at hm
    exact h.names m hm
  · intro m hm
    rw [doneL_l] at hm
    exact h.opens m hm
  · have := h.done0
    unfold Go.Proofs.Yteockodnfempfaa.doneL
    split
    · simp only; omega
    · exact this
theorem GoodP.step {M M' : MLedger} {R : RBatch} {k : Nat} (h : GoodP M k) (hs : StepM M (smallM R M.epoch M.last) M') : GoodP M' (k + 1) :=
  ⟨hs.good h.good, hs.namesOk h.names, hs.openE h.opens, by rw [hs.done.1]; exact h.done0⟩
section
variable {w w' w0 w1 w5 w6 : World} {g h : Nat} {S U S' U' S3 U3 S6 U6 Z : Nat → Prop} {M M' : MLedger}
theorem TwoL.bel (k : TwoL w g h S U S' U' M) (hb : Bel w w') : TwoL w' g h S U S' U' M := ⟨k.led.bel hb, k.ref.bel hb, k.d1, k.d2⟩
theorem TwoL.chg {T : Nat → Prop} (k : TwoL w g h S U S' U' M) (hc : Chg T w w') (h1 : ∀ q, U q → ¬ T q) (h2 : ∀ q, U' q → ¬ T q) : TwoL w' g h S U S' U' M := ⟨k.led.chg hc h1, k.ref.chg hc h2, k.d1, k.d2⟩
theorem TwoL.gh (k : TwoL w g h S U S' U' M) : ¬ U h := k.d2 h k.ref.gS
/-- Both took a batch. -/
theorem TwoL.applied (k : TwoL w g h S U S' U' M) (hL3 : LedgerIs w5 g S3 U3 M') (hU3 : ∀ q, U3 q → U q ∨ w.heap.size ≤ q) (hS3 : ∀ q, S3 q → S q ∨ w.heap.size ≤ q) (hC3 : Chg S w w5)
    (hR6 : RefIs w6 h S6 U6 M') (hU6 : ∀ q, U6 q → U' q ∨ w5.heap.size ≤ q) (hS6 : ∀ q, S6 q → S' q ∨ w5.heap.size ≤ q) (hC6 : Chg (fun q => q = h) w5 w6) : TwoL w6 g h S3 U3 S6 U6 M' := by
  have hz := hC3.size
  have hh : ∀ q, U3 q → ¬ q = h := fun q hq e => by
    subst e
    rcases hU3 q hq with h1 | h1
    · exact k.gh h1
    · have := k.ref.ltU q k.ref.gU; omega
  refine ⟨hL3.chg hC6 hh, hR6, fun q hq hq' => ?_, fun q hq hq' => ?_⟩
  · have h3 := hL3.ltU q (hL3.sub q hq)
    rcases hU6 q hq' with h2 | h2
    · rcases hS3 q hq with h1 | h1
      · exact k.d1 q h1 h2
      · have := k.ref.ltU q h2; omega
    · omega
  · have h3 := hL3.ltU q hq'
    rcases hS6 q hq with h1 | h1
    · rcases hU3 q hq' with h2 | h2
      · exact k.d2 q h1 h2
      · have := k.ref.ltU q (k.ref.sub q h1); omega
    · omega
/-- The next place is done in both. -/
theorem TwoL.done1 (k : TwoL w g h S U S' U' M) (hC : Chg S w w1) : RefIs w1 h S' U' M := k.ref.chg hC (fun q hq hs => k.d1 q hs hq)
theorem RefIs.doneP (k : RefIs w h S' U' M) (hn : nextB M = true) : RefIs (w.setCell ⟨h, 3, none⟩ (.int .i64 (M.done + 1))) h S' U' (doneL M) ∧ Chg (fun q => q = h) w (w.setCell ⟨h, 3, none⟩ (.int .i64 (M.done + 1))) :=
  k.field (doneL_l M) (j := 3) (v := .int .i64 (M.done + 1)) (fun hd => by unfold doneL; rw [if_pos hn]; rfl)
/-- The two ledgers, seen from world w0 on: only blocks of Z and new ones were written. -/
def TwoP (w0 w : World) (g h : Nat) (Z : Nat → Prop) (M : MLedger) (k : Nat) : Prop := GoodP M k ∧ ∃ S U S' U' : Nat → Prop, TwoL w g h S U S' U' M ∧ (∀ q, S q → Z q ∨ w0.heap.size ≤ q) ∧ (∀ q, S' q → Z q ∨ w0.heap.size ≤ q) ∧ Chg Z w0 w
theorem TwoP.bel {k : Nat} (t : TwoP w0 w g h Z M k) (hb : Bel w w') : TwoP w0 w' g h Z M k := by
  obtain ⟨hg, S, U, S', U', h1, h2, h3, h4⟩ := t
  exact ⟨hg, S, U, S', U', h1.bel hb, h2, h3, h4.tr (Chg.of_bel hb Z)⟩
theorem TwoP.applied {k : Nat} (hg : GoodP M' k) (t : TwoL w g h S U S' U' M) (h1 : ∀ q, S q → Z q ∨ w0.heap.size ≤ q) (h2 : ∀ q, S' q → Z q ∨ w0.heap.size ≤ q) (hC : Chg Z w0 w) (hL3 : LedgerIs w5 g S3 U3 M') (hU3 : ∀ q, U3 q → U q ∨ w.heap.size ≤ q) (hS3 : ∀ q, S3 q → S q ∨ w.heap.size ≤ q) (hC3 : Chg S w w5)
    (hR6 : RefIs w6 h S6 U6 M') (hU6 : ∀ q, U6 q → U' q ∨ w5.heap.size ≤ q) (hS6 : ∀ q, S6 q → S' q ∨ w5.heap.size ≤ q) (hC6 : Chg (fun q => q = h) w5 w6) : TwoP w0 w6 g h Z M' k := by
  have hz := hC.size
  have hz5 := hC3.size
  refine ⟨hg, S3, U3, S6, U6, t.applied hL3 hU3 hS3 hC3 hR6 hU6 hS6 hC6, fun q hq => ?_, fun q hq => ?_, ?_⟩
  · rcases hS3 q hq with e | e
    · exact h1 q e
    · right; omega
  · rcases hS6 q hq with e | e
    · exact h2 q e
    · right; omega
  · refine (hC.trans hC3 h1).trans hC6 (fun q hq => ?_)
    obtain rfl : q = h := hq
    exact h2 q t.ref.gS
theorem TwoP.done {k : Nat} (hg : GoodP M k) (t : TwoL w g h S U S' U' M) (h1 : ∀ q, S q → Z q ∨ w0.heap.size ≤ q) (h2 : ∀ q, S' q → Z q ∨ w0.heap.size ≤ q) (hC : Chg Z w0 w) (hL : LedgerIs w1 g S U (doneL M)) (hC1 : Chg S w w1) :
    (nextB M = true → TwoP w0 (w1.setCell ⟨h, 3, none⟩ (.int .i64 (M.done + 1))) g h Z (doneL M) k) ∧ (nextB M = false → TwoP w0 w1 g h Z (doneL M) k) := by
  have hR := t.done1 hC1
  constructor
  · intro hn
    obtain ⟨k1, k2⟩ := hR.doneP hn
    refine ⟨hg.doneL, S, U, S', U', ⟨hL.chg k2 (fun q hq e => t.gh (e ▸ hq)), k1, t.d1, t.d2⟩, h1, h2, (hC.trans hC1 h1).trans k2 (fun q hq => ?_)⟩
    obtain rfl : q = h := hq
    exact h2 q t.ref.gS
  · intro hn
    have e : doneL M = M := by unfold doneL; rw [if_neg (by rw [hn]; decide)]
    rw [e] at hL ⊢
    exact ⟨hg, S, U, S', U', ⟨hL, hR, t.d1, t.d2⟩, h1, h2, hC.trans hC1 h1⟩
end
end Go.Proofs.Yteockodnfempfaa
/- Batches to both ledgers: play returns true. Conditions: those named in each theorem. -/
namespace Go.Proofs.Yteockodnfempfaa
open Go Go.RowKit Go.Gv Go.Sort

theorem TwoP.from {w w1 w' : World} {g h k : Nat} {Z : Nat → Prop} {M : MLedger} (hb : Bel w w1) (t : TwoP w1 w' g h Z M k) : TwoP w w' g h Z M k := by
  obtain ⟨hg, S, U, S', U', h1, h2, h3, h4⟩ := t
  have hz := hb.size
  exact ⟨hg, S, U, S', U', h1, fun q hq => (h2 q hq).imp id (fun h => by omega), fun q hq => (h3 q hq).imp id (fun h => by omega), (Chg.of_bel hb Z).tr h4⟩
theorem TwoP.mono {w w' : World} {g h k j : Nat} {Z : Nat → Prop} {M : MLedger} (t : TwoP w w' g h Z M k) (hk : k ≤ j) : TwoP w w' g h Z M j := ⟨t.1.mono hk, t.2⟩
def PlayR (g h : Nat) (Z : Nat → Prop) (k : Nat) (w : World) (e : Ending) (w' : World) : Prop := e = .returned (.bool true) ∧ ∃ M', TwoP w w' g h Z M' k
theorem nextB_done {M : MLedger} (h : nextB M = true) : 0 ≤ M.done ∧ M.done < (M.l.length : Int) := by
  have hin : inB M M.done = true := by unfold nextB at h; simp at h; exact h.1
  obtain ⟨d, m, hd, hm, hl⟩ := inB_at hin
  omega
set_option maxRecDepth 100000 in
set_option maxHeartbeats 8000000 in
theorem play_any (g h : Nat) (S U S' U' : Nat → Prop) (M : MLedger) (kk : Nat) (A : Option Addr) (n c : Nat) (xs : List GBatch) (cf : GConf) (w0 w : World) (hx : Sl GBatch w0 w0.heap.size A n xs) (hox : ∀ x ∈ xs, ok74 w0 x) (hn : n ≤ maxLen)
    (hw : Bel w0 w) (hT : TwoL w g h S U S' U' M) (hG : GoodP M kk) (hkk : kk ≤ 100) (hS : ∀ q, S q → w0.heap.size ≤ q) (hS' : ∀ q, S' q → w0.heap.size ≤ q) :
    Calls Try.prog 60 #[.pointer (some ⟨g, 0, none⟩), .pointer (some ⟨h, 0, none⟩), .slice A n c, cf.val] w (PlayR g h (fun q => S q ∨ S' q) (kk + 8) w) := by
  unfold maxLen at hn
  obtain ⟨Z, hZ⟩ : ∃ Z : Nat → Prop, (fun q => S q ∨ S' q) = Z := ⟨_, rfl⟩
  have hZ0 : ∀ q, Z q → w0.heap.size ≤ q := fun q hq => by
    rw [← hZ] at hq
    exact hq.elim (hS q) (hS' q)
  have hZ1 : ∀ q, Z q → q < w.heap.size := fun q hq => by
    rw [← hZ] at hq
    exact hq.elim (fun h => hT.led.ltU q (hT.led.sub q h)) (fun h => hT.ref.ltU q (hT.ref.sub q h))
  have hb1 := (Bel.refl w).alloc (.cells cf.enc.toArray 109)
  have hP0 : TwoP (w.alloc (.cells cf.enc.toArray 109)) (w.alloc (.cells cf.enc.toArray 109)) g h Z M kk :=
    ⟨hG, S, U, S', U', hT.bel hb1, fun q hq => .inl (by rw [← hZ]; exact .inl hq), fun q hq => .inl (by rw [← hZ]; exact .inr hq), Chg.of_bel (Bel.refl _) Z⟩
  have HX := Lib.hid hx; have HOX := Lib.hid hox; have HP0 := Lib.hid hP0; have HZ0 := Lib.hid hZ0; have HZ1 := Lib.hid hZ1; have HZ := Lib.hid hZ
  have HCF := Lib.hid (get?_new (w := w) 109 cf)
  have HB1 := Lib.hid hb1; have HW0 := Lib.hid (hw.trans hb1)
  clear hx hox hP0 hZ0 hZ1 hZ hS hS' hT hG hw hb1
  go_enter Try.func60, Try.ntmps60
  go_upto_block 0 with fail
  change Hid (get? GConf (w.alloc (.cells cf.enc.toArray 109)) ⟨w.heap.size, 0, none⟩ = some cf) at HCF
  generalize w.alloc (.cells cf.enc.toArray 109) = w1 at HCF HB1 HW0 HP0 ⊢
  go_wp2_with fail
  go_loopw [9] (fun i wr => ∃ (k : Nat) (M : MLedger), k ≤ n ∧ k ≤ 8 ∧ i = .int .i64 k ∧ TwoP w1 wr g h Z M (kk + k)) (fun i _ => 9 - (intOf i).toNat)
  case atStart => exact ⟨0, M, by omega, by omega, rfl, HP0.out⟩
  case round =>
    obtain ⟨k, M, hk, hk8, rfl, hP⟩ := hrel
    have HP := Lib.hid hP
    obtain ⟨hG, S2, U2, S2', U2', hT, hS2, hS2', hC⟩ := hP
    have hB2 : Bel w0 wr := Chg.bel2 HW0.out hC HZ0.out
    by_cases hcont : k < n ∧ k < 8
    · obtain ⟨hlt, hlt8⟩ := hcont
      obtain ⟨ad, x, rfl, _, hxk, hgx⟩ := (HX.out.stepB hB2).at_ (k := k) hlt
      obtain ⟨R, hR⟩ := raw_of (HOX.out x (List.mem_of_getElem? hxk))
      change get? GBatch wr (ad.add (k * 5)) = some x at hgx
      have HR := Lib.hid (hR.bel hB2); have HT := Lib.hid hT; have HGP := Lib.hid hG; have HG := Lib.hid hG.good; have HC := Lib.hid hC; have HS2 := Lib.hid hS2; have HS2' := Lib.hid hS2'
      have hUlt := Lib.hid hT.led.ltU
      obtain ⟨A5, c5, hg5, _⟩ := hT.ref.list
      obtain ⟨f0, f1, _, _⟩ := ref_cells hg5
      simp only at f0 f1
      have hhr : h < wr.heap.size := hT.ref.ltU h hT.ref.gU
      have hlt2 : (k : Int) < (n : Int) := by omega
      have hlt66 : (k : Int) < 8 := by omega
      clear hxk hR hT hG hC hS2 hS2' hB2 hg5
      have hlt3 : k < n := hlt
      have hk0 : (0 : Int) ≤ (k : Int) := by omega
      go_upto_region 4 with fail
      go_cut [10] (fun v wx => ∃ (ge : Nat) (y : GBatch) (Q : Nat → Prop), v = .pointer (some ⟨ge, 0, none⟩) ∧ Bel wr wx ∧ wr.heap.size ≤ ge ∧ get? GBatch wx ⟨ge, 0, none⟩ = some y ∧ BatchIs Q wx y (smallM R M.epoch M.last) ∧ ∀ q, Q q → wr.heap.size ≤ q)
      case first =>
        go_wp2_with fail
        refine wp_region_G GB [14] GB.rf (by kernel_rfl) ?_
        refine wpG_looks 3 15 [0,1,2,3,4,5,6,7,8,9,10,11] rfl GB.rf GB.tr (by kernel_rfl) (fun _ _ _ _ hd h => And.intro (hd ▸ And.left h) (And.right h)) rfl (by kernel_rfl) ?_
        intro ι W hne CW
        have g0 := fun z => (CW.out z).get hgx
        have g1 := fun z => (CW.out z).cell f0
        have g2 := fun z => (CW.out z).cell f1
        repeat (refine wpLooksG_step (fun K hK => ?_); go_simp; refine hK _ ?_; clear hK K)
        refine wpLooksG_nil ?_
        clear g0 g1 g2 CW hne W ι f0 f1 hgx
        refine wpG_two 12 13 _ _ rfl rfl (by kernel_rfl) rfl rfl ?_ ?_
        · intro wa hwa K hK
          go_simp
          refine (smallB_any x R M.epoch M.last wa (HR.out.bel hwa.undrew) HG.out.last0 (by have := HG.out.last1; omega)).mono ?_
          rintro _ wb ⟨y, rfl, hy, hbb⟩
          refine hK _ _ (fun _ => hbb) ?_
          clear hK K
          refine wpG_new 13 14 _ _ rfl rfl (by kernel_rfl) (by kernel_rfl) rfl rfl (by kernel_rfl) _ _ rfl rfl default y al_GBatch sz74 (fun _ => rfl) (fun _ => GBatch.val_eq _) GB.al GB.bel ?_
          intro ge wc wd hwc hge hcd hgb hgel
          refine wpG_end (by kernel_rfl) (fun wn hwn => ?_) _
          have hbn : Bel wr wn := Bel.trans (Bel.trans (Bel.trans (hwa.undrew.trans hbb) hwc) hcd) hwn
          have hzge : wr.heap.size ≤ ge := by have h1 := (Bel.trans (hwa.undrew.trans hbb) hwc).size; omega
          have hzwa : wr.heap.size ≤ wa.heap.size := hwa.undrew.size
          have HF := Lib.hid (show Bel wr wn ∧ wr.heap.size ≤ ge ∧ get? GBatch wn ⟨ge, 0, none⟩ = some y ∧ BatchIs (fun q => wa.heap.size ≤ q) wn y (smallM R M.epoch M.last) ∧ ∀ q, wa.heap.size ≤ q → wr.heap.size ≤ q from ⟨hbn, hzge, GB.get hwn hgb, hy.bel (Bel.trans (Bel.trans hwc hcd) hwn), fun q hq => by omega⟩)
          clear hwa hbb hwc hcd hwn hgb hgel hge hbn hy hzge hzwa
          go_wp2_with fail
          go_meet
          exact ⟨ge, y, _, rfl, HF.out⟩
        · intro wa hwa K hK
          go_simp
          refine hK _ _ (fun _ => GB.al _ _) ?_
          clear hK K
          have hg8 := get?_new (w := wa) 74 (default : GBatch)
          have hf8 : blkFree (wa.alloc (.cells (GBatch.enc default).toArray 74)) wa.heap.size = true := blkFree_new _ _ rfl
          have hb8 : Bel wr (wa.alloc (.cells (GBatch.enc default).toArray 74)) := Bel.alloc hwa.undrew _
          have hz8 : (wa.alloc (.cells (GBatch.enc default).toArray 74)).heap.size = wa.heap.size + 1 := by simp
          have hzwa : wr.heap.size ≤ wa.heap.size := hwa.undrew.size
          change get? GBatch (wa.alloc (.cells (GBatch.enc default).toArray 74)) ⟨wa.heap.size, 0, none⟩ = some default at hg8
          generalize wa.alloc (.cells (GBatch.enc default).toArray 74) = w8 at hg8 hf8 hb8 hz8 ⊢
          refine wpG_force 12 _ rfl (by kernel_rfl) rfl fun wb hwb K hK => ?_
          go_simp
          have hbb8 : Bel wr wb := hb8.trans hwb
          refine (smallB_any x R M.epoch M.last wb (HR.out.bel hbb8) HG.out.last0 (by have := HG.out.last1; omega)).mono ?_
          rintro _ wc ⟨y, rfl, hy, hbc⟩
          refine hK _ _ (fun _ => hbc) ?_
          clear hK K
          refine wpG_force 14 _ rfl (by kernel_rfl) rfl fun wd hwd K hK => ?_
          have hzb : wa.heap.size < wb.heap.size := by have := Below.size hwb; omega
          have hb8d : Bel w8 wd := Bel.trans (Bel.trans hwb hbc) hwd
          have k7 : get? GBatch wd ⟨wa.heap.size, 0, none⟩ = some default := GB.get hb8d hg8
          have k8 : blkFree wd wa.heap.size = true := (blkFree_keep (hb8d.block _ (by omega))).trans hf8
          go_simp
          have hput := get?_put y k7
          have hcp : Chg (fun q => q = wa.heap.size) wd (World.putCells wd ⟨wa.heap.size, 0, none⟩ (Enc.enc y)) := Chg.putCells (a := ⟨wa.heap.size, 0, none⟩) _
          have hbp : Bel wr (World.putCells wd ⟨wa.heap.size, 0, none⟩ (Enc.enc y)) := Below_putCells (a := ⟨wa.heap.size, 0, none⟩) (hb8.trans hb8d) (by show wr.heap.size ≤ wa.heap.size; omega) _
          have hyp := (hy.bel hwd).chg hcp (fun q hq e => by omega)
          have HF := Lib.hid (show Bel wr (World.putCells wd ⟨wa.heap.size, 0, none⟩ (GBatch.enc y)) ∧ get? GBatch (World.putCells wd ⟨wa.heap.size, 0, none⟩ (GBatch.enc y)) ⟨wa.heap.size, 0, none⟩ = some y ∧ BatchIs (fun q => wb.heap.size ≤ q) (World.putCells wd ⟨wa.heap.size, 0, none⟩ (GBatch.enc y)) y (smallM R M.epoch M.last) from ⟨hbp, hput, hyp⟩)
          clear k7 k8 hput hcp hbp hyp hb8d hy
          generalize World.putCells wd ⟨wa.heap.size, 0, none⟩ (GBatch.enc y) = we at HF ⊢
          refine hK _ _ (fun h => absurd (by simp) h) ?_
          clear hK K
          refine wpG_end (by kernel_rfl) (fun wn hwn => ?_) _
          obtain ⟨h1, h2, h3⟩ := HF.out
          have HF2 := Lib.hid (show Bel wr wn ∧ wr.heap.size ≤ wa.heap.size ∧ get? GBatch wn ⟨wa.heap.size, 0, none⟩ = some y ∧ BatchIs (fun q => wb.heap.size ≤ q) wn y (smallM R M.epoch M.last) ∧ ∀ q, wb.heap.size ≤ q → wr.heap.size ≤ q from ⟨h1.trans hwn, hzwa, GB.get hwn h2, h3.bel hwn, fun q hq => by omega⟩)
          clear h1 h2 h3 HF hwn hwa hwb hwd hbb8 hbc hg8 hf8 hb8
          go_wp2_with fail
          go_meet
          exact ⟨_, y, _, rfl, HF2.out⟩
      case rest =>
      obtain ⟨ge, y, Q, rfl, hbn, hzge, hgy, hyn, hQr⟩ := hcut
      obtain ⟨wn, rfl⟩ : ∃ wn : World, wn = wc := ⟨_, rfl⟩
      have HYN := Lib.hid hyn; have HGY := Lib.hid hgy; have HTN := Lib.hid (HT.out.bel hbn); have HQR := Lib.hid hQr; have HCN := Lib.hid (HC.out.tr (Chg.of_bel hbn Z))
      have hzn := hbn.size
      clear hbn hyn hQr
      go_wp2_with fail
      refine (apply3_any g S2 U2 M y (smallM R M.epoch M.last) Q wn HTN.out.led HYN.out (fun q hq hu => by have := hUlt.out q hu; have := HQR.out q hq; omega) HG.out.epoch0 (by have := HG.out.epoch1; omega) (by have := HG.out.len; omega) (by have := small_flat R M.epoch M.last; omega)).mono ?_
      rintro _ w5 ⟨M', S3, U3, hst, rfl, hL3, hU3, hS3, hC3⟩
      obtain ⟨n1, hn1⟩ : ∃ z, (resI M (smallM R M.epoch M.last) M').1 = z := ⟨_, rfl⟩
      obtain ⟨e1, he1⟩ : ∃ z, (resI M (smallM R M.epoch M.last) M').2 = z := ⟨_, rfl⟩
      rw [hn1, he1]
      have HN1 := Lib.hid hn1; have HE1 := Lib.hid he1
      have hsub2 := HTN.out.led.sub
      have hz5 := hC3.size
      have hR5 : RefIs w5 h S2' U2' M := HTN.out.ref.chg hC3 (fun q hq hs => HTN.out.d1 q hs hq)
      have hy5 : BatchIs Q w5 y (smallM R M.epoch M.last) := HYN.out.chg hC3 (fun q hq hs => by have := hUlt.out q (hsub2 q hs); have := HQR.out q hq; omega)
      have hgy5 : get? GBatch w5 ⟨ge, 0, none⟩ = some y := hC3.get HGY.out (fun hs => by have h1 : S2 ge := hs; have := hUlt.out ge (hsub2 ge h1); omega)
      have HST := Lib.hid hst; have HR5 := Lib.hid hR5; have HY5 := Lib.hid hy5
      have HL3 := Lib.hid hL3; have HU3 := Lib.hid hU3; have HS3 := Lib.hid hS3; have HC3 := Lib.hid hC3
      clear hst hR5 hy5 hL3 hU3 hS3 hC3 hsub2 hgy HGY hn1 he1
      go_wp2_with fail
      refine (rapply3_any h S2' U2' M M' y (smallM R M.epoch M.last) Q w5 HR5.out HY5.out (fun q hq e => by have := HQR.out q hq; omega) HST.out HG.out.epoch0 (by have := HG.out.epoch1; omega) (by have := HG.out.len; omega) (by have := small_flat R M.epoch M.last; omega) HGP.out.opens).mono ?_
      rintro _ w6 ⟨S6, U6, rfl, hR6, hU6, hS6, hC6⟩
      rw [HN1.out, HE1.out]
      have hP6 : TwoP w1 w6 g h Z M' (kk + k + 1) := TwoP.applied (HGP.out.step HST.out) HTN.out HS2.out HS2'.out HCN.out HL3.out HU3.out HS3.out HC3.out hR6 hU6 hS6 hC6
      have HP6 := Lib.hid hP6
      obtain ⟨hG6, S7, U7, S7', U7', hT7, hS7, hS7', hC7⟩ := hP6
      have HT7 := Lib.hid hT7; have HG7 := Lib.hid hG6
      have hcf : get? GConf w6 ⟨w.heap.size, 0, none⟩ = some cf := hC7.get HCF.out (fun hz => by have := HZ1.out _ hz; simp only at this; omega)
      have HCF6 := Lib.hid hcf
      clear hR6 hU6 hS6 hC6 hgy5 hG6 hT7 hS7 hS7' hC7 hcf
      have hs0 : (n1 == n1) = true := by simp
      have hs1 : (e1 == e1) = true := by simp
      go_wp2_with fail
      refine (same_any g h S7 U7 S7' U7' M' (kk + k + 1) w6 HT7.out.led HT7.out.ref HG7.out.good (by omega) HG7.out.names.nine HG7.out.done0).mono ?_
      rintro _ w7 ⟨rfl, hb7⟩
      have hcf7 : get? GConf w7 ⟨w.heap.size, 0, none⟩ = some cf := GB.get hb7 HCF6.out
      have HT8 := Lib.hid (HT7.out.bel hb7); have HP8 := Lib.hid (HP6.out.bel hb7)
      clear hb7
      go_wp2_with fail
      refine (sameBase_any g h S7 U7 S7' U7' M' (kk + k + 1) cf w7 HT8.out.led HT8.out.ref HG7.out.good (by omega)).mono ?_
      rintro _ w8 ⟨rfl, hb8⟩
      have HP9 := Lib.hid (HP8.out.bel hb8)
      have hrem : Int.tmod (k : Int) 3 = ((k % 3 : Nat) : Int) := by rw [Int.tmod_eq_emod_of_nonneg (by omega)]; omega
      obtain ⟨z, hz⟩ : ∃ z, k % 3 = z := ⟨_, rfl⟩
      rw [hz] at hrem
      have hz2 : z ≤ 2 := by omega
      clear hb8 hcf7 hz
      go_wp2_with fail
      go_loopw [15] (fun v wi => ∃ (j : Nat) (M3 : MLedger), j ≤ z ∧ v = .int .i64 j ∧ TwoP w1 wi g h Z M3 (kk + k + 1)) (fun v _ => 3 - (intOf v).toNat)
      case atStart => exact ⟨0, M', by omega, rfl, HP9.out⟩
      case round =>
        obtain ⟨j, M3, hj, rfl, hPi⟩ := hrel
        obtain ⟨wi, rfl⟩ : ∃ wi : World, wi = wr := ⟨_, rfl⟩
        have HPI := Lib.hid hPi
        by_cases hlj : j < z
        · obtain ⟨hG3, S3, U3, S3', U3', hT3, hS3, hS3', hC3⟩ := hPi
          have HT3 := Lib.hid hT3; have HG3 := Lib.hid hG3; have HS3 := Lib.hid hS3; have HS3' := Lib.hid hS3'; have HC3 := Lib.hid hC3
          have hljz : (j : Int) < (z : Int) := by omega
          clear hG3 hT3 hS3 hS3' hC3
          go_wp2_with fail
          refine (next15_any h S3' U3' M3 _ HT3.out.ref HG3.out.done0).mono ?_
          rintro _ wa ⟨rfl, nd, rfl⟩
          have hba : Bel wi (wi.drewN nd) := (Bel.refl wi).drewN nd
          have HTA := Lib.hid (HT3.out.bel hba); have HCA := Lib.hid (HC3.out.tr (Chg.of_bel hba Z))
          clear hba
          generalize wi.drewN nd = wa at HTA HCA ⊢
          obtain ⟨d, hd⟩ : ∃ d, (if nextB M3 = true then M3.done else 0) = d := ⟨_, rfl⟩
          rw [hd]
          clear hd
          cases hnb : nextB M3 with
          | true =>
            have HNB := Lib.hid hnb
            clear hnb
            go_wp2_with fail
            refine (done_any g S3 U3 M3 wa HTA.out.led (by unfold maxLen; have := HG3.out.good.len; omega)).mono ?_
            rintro _ wb ⟨rfl, hLb, hCb⟩
            rw [HNB.out]
            obtain ⟨hyes, _⟩ := TwoP.done HG3.out HTA.out HS3.out HS3'.out HCA.out hLb hCb
            have HPY := Lib.hid (hyes HNB.out)
            have hRb := HTA.out.done1 hCb
            obtain ⟨A5, c5, hg5, _⟩ := hRb.list
            obtain ⟨_, _, _, f3⟩ := ref_cells hg5
            simp only at f3
            obtain ⟨_, _, rfl, _, _, hfr, _⟩ := hRb
            have hdn := nextB_done HNB.out
            have hlen3 := HG3.out.good.len
            have hd0 : -9223372036854775808 ≤ M3.done + 1 := by omega
            have hd1 : M3.done + 1 ≤ 9223372036854775807 := by omega
            have z3 : wb.frozen? ⟨h, 3, none⟩ = false := frozen_of_free (a := ⟨h, 3, none⟩) hfr
            clear hLb hCb hyes hg5 hfr
            go_wp2_with fail
            --GOAL
            obtain ⟨hG4, S4, U4, S4', U4', hT4, hS4, hS4', hC4⟩ := HPY.out
            refine (same_any g h S4 U4 S4' U4' (doneL M3) (kk + k + 1) _ hT4.led hT4.ref hG4.good (by omega) hG4.names.nine hG4.done0).mono ?_
            rintro _ wd ⟨rfl, hbd⟩
            have HPD := Lib.hid (HPY.out.bel hbd)
            clear hbd hT4 hS4 hS4' hC4 hG4
            go_wp2_with fail
            exact ⟨⟨j + 1, doneL M3, by omega, by go_num, HPD.out⟩, by simp [intOf]; omega⟩
          | false =>
            have HNB := Lib.hid hnb
            clear hnb
            go_wp2_with fail
            refine (done_any g S3 U3 M3 wa HTA.out.led (by unfold maxLen; have := HG3.out.good.len; omega)).mono ?_
            rintro _ wb ⟨rfl, hLb, hCb⟩
            rw [HNB.out]
            obtain ⟨_, hno⟩ := TwoP.done HG3.out HTA.out HS3.out HS3'.out HCA.out hLb hCb
            have HPN := Lib.hid (hno HNB.out)
            clear hLb hCb hno
            go_wp2_with fail
            obtain ⟨hG4, S4, U4, S4', U4', hT4, hS4, hS4', hC4⟩ := HPN.out
            refine (same_any g h S4 U4 S4' U4' (doneL M3) (kk + k + 1) _ hT4.led hT4.ref hG4.good (by omega) hG4.names.nine hG4.done0).mono ?_
            rintro _ wd ⟨rfl, hbd⟩
            have HPD := Lib.hid (HPN.out.bel hbd)
            clear hbd hT4 hS4 hS4' hC4 hG4
            go_wp2_with fail
            exact ⟨⟨j + 1, doneL M3, by omega, by go_num, HPD.out⟩, by simp [intOf]; omega⟩
        · have hljz : ¬ (j : Int) < (z : Int) := by omega
          clear hPi
          go_wp2_with fail
          exact ⟨⟨k + 1, M3, by omega, by omega, by go_num, HPI.out⟩, by simp [intOf]; omega⟩
    · have hstop : (n : Int) ≤ (k : Int) ∨ ((k : Int) < (n : Int) ∧ 8 ≤ (k : Int)) := by omega
      clear hcont hT hG hC hS2 hS2' hB2
      rcases hstop with hs | ⟨hs, hs2⟩
      all_goals
        go_wp2_with fail
        go_ret
        rw [HZ.out]
        exact ⟨rfl, M, (HP.out.from HB1.out).mono (by omega)⟩
end Go.Proofs.Yteockodnfempfaa
/- LedgerPlays returns true, walked. Conditions: those named in each theorem. -/
namespace Go.Proofs.Yteockodnfempfaa
open Go Go.RowKit Go.Gv Go.Sort

theorem TwoAt.two {w0 w : World} {g h : Nat} {M : MLedger} (t : TwoAt w0 w g h M) : ∃ S U S' U' : Nat → Prop, TwoL w g h S U S' U' M ∧ (∀ q, S q → w0.heap.size ≤ q) ∧ (∀ q, S' q → w0.heap.size ≤ q) ∧ Bel w0 w := by
  obtain ⟨S, U, S', U', hL, hR, hU, hU', hd, hb⟩ := t
  exact ⟨S, U, S', U', ⟨hL, hR, fun q hq hq' => hd q (hL.sub q hq) hq', fun q hq hq' => hd q hq' (hR.sub q hq)⟩, fun q hq => hU q (hL.sub q hq), fun q hq => hU' q (hR.sub q hq), hb⟩
theorem clones_two {w4 w5 w6 : World} {g h : Nat} {U' Sm Um Ss Us : Nat → Prop} {M : MLedger} (hl : ∀ q, U' q → q < w4.heap.size) (hLm : LedgerIs w5 g Sm Um M) (hSm : ∀ q, Sm q → w4.heap.size ≤ q) (hRs : RefIs w6 h Ss Us M) (hSs : ∀ q, Ss q → w5.heap.size ≤ q) (hUs : ∀ q, Us q → U' q ∨ w5.heap.size ≤ q) (hb : Bel w5 w6) :
    TwoL w6 g h Sm Um Ss Us M := by
  refine ⟨hLm.bel hb, hRs, fun q h1 h2 => ?_, fun q h1 h2 => ?_⟩
  · have a := hSm q h1
    have b := hLm.ltU q (hLm.sub q h1)
    rcases hUs q h2 with e | e
    · have := hl q e; omega
    · omega
  · have a := hSs q h1
    have b := hLm.ltU q h2
    omega
set_option maxRecDepth 100000 in
set_option maxHeartbeats 8000000 in
theorem ledgerPlays_any (A1 : Option Addr) (n1 c1 : Nat) (xs : List GBatch) (A2 : Option Addr) (n2 c2 : Nat) (ys : List GBatch) (cf : GConf) (w : World) (hx : Sl GBatch w w.heap.size A1 n1 xs) (hox : ∀ x ∈ xs, ok74 w x) (hn1 : n1 ≤ maxLen)
    (hy : Sl GBatch w w.heap.size A2 n2 ys) (hoy : ∀ x ∈ ys, ok74 w x) (hn2 : n2 ≤ maxLen) :
    Calls Try.prog 18 #[.slice A1 n1 c1, .slice A2 n2 c2, cf.val] w fun e w' => e = .returned (.bool true) ∧ Bel w w' := by
  have HX := Lib.hid hx; have HOX := Lib.hid hox; have HY := Lib.hid hy; have HOY := Lib.hid hoy; have HN1 := Lib.hid hn1; have HN2 := Lib.hid hn2
  have HCF := Lib.hid (get?_new (w := w) 109 cf)
  have HB1 := Lib.hid ((Bel.refl w).alloc (.cells cf.enc.toArray 109))
  have HZ1 := Lib.hid (show (w.alloc (.cells cf.enc.toArray 109)).heap.size = w.heap.size + 1 by simp)
  clear hx hox hy hoy hn1 hn2
  go_enter Try.func18, Try.ntmps18
  go_wp2_with fail
  change Hid (get? GConf (w.alloc (.cells cf.enc.toArray 109)) ⟨w.heap.size, 0, none⟩ = some cf) at HCF
  generalize w.alloc (.cells cf.enc.toArray 109) = w1 at HCF HB1 HZ1 ⊢
  refine (newLedger_any _).mono ?_
  rintro _ w2 ⟨g, S, U, rfl, hL, hU, hb⟩
  obtain ⟨S, U, S', U', hT, hS, hS', hB3⟩ := (ref_new w1 w2 g hL hU hb).two
  have HT := Lib.hid hT; have HS := Lib.hid hS; have HS' := Lib.hid hS'; have HB3 := Lib.hid hB3
  clear hL hU hb hT hS hS' hB3
  go_wp2_with fail
  obtain ⟨h, hh⟩ : ∃ h, w2.heap.size = h := ⟨_, rfl⟩
  rw [hh] at HT ⊢
  clear hh
  generalize w2.alloc (.cells (GRef15Ledger.enc default).toArray 120) = w3 at HT HB3 ⊢
  refine (same_any g h S U S' U' ⟨0, 0, [], 0⟩ 0 _ HT.out.led HT.out.ref GoodM.zero (by omega) GoodP.zero.names.nine (by decide)).mono ?_
  rintro _ w4 ⟨rfl, hb4⟩
  have HT4 := Lib.hid (HT.out.bel hb4); have HB4 := Lib.hid (HB3.out.trans hb4)
  have hcf : get? GConf w4 ⟨w.heap.size, 0, none⟩ = some cf := GB.get HB4.out HCF.out
  clear hb4
  go_wp2_with fail
  refine (play_any g h S U S' U' ⟨0, 0, [], 0⟩ 0 A1 n1 c1 xs cf w w4 HX.out HOX.out HN1.out (HB1.out.trans HB4.out) HT4.out GoodP.zero (by omega) (fun q hq => by have := HS.out q hq; have := HZ1.out; omega) (fun q hq => by have := HS'.out q hq; have := HZ1.out; omega)).mono ?_
  rintro _ w5 ⟨rfl, M1, hG1, S1, U1, S1', U1', hT1, hS1, hS1', hC1⟩
  have HG1 := Lib.hid hG1; have HT1 := Lib.hid hT1
  have hz4 := HB4.out.size
  have HS1 := Lib.hid (show ∀ q, S1 q → w1.heap.size ≤ q from fun q hq => by
    rcases hS1 q hq with (e | e) | e
    · exact HS.out q e
    · exact HS'.out q e
    · omega)
  have HS1' := Lib.hid (show ∀ q, S1' q → w1.heap.size ≤ q from fun q hq => by
    rcases hS1' q hq with (e | e) | e
    · exact HS.out q e
    · exact HS'.out q e
    · omega)
  have HB5 := Lib.hid (Chg.bel2 HB4.out hC1 (fun q hq => hq.elim (HS.out q) (HS'.out q)))
  have hl1 : M1.l.length ≤ 1000000 := by have := hG1.good.len; omega
  clear hcf hG1 hT1 hS1 hS1' hC1 hz4
  go_wp2_with fail
  refine (clone_any g S1 U1 M1 _ HT1.out.led hl1).mono ?_
  rintro _ w6 ⟨m, Sm, Um, rfl, hLm, hSm, hUm, hb6⟩
  have HLm := Lib.hid hLm; have HSm := Lib.hid hSm; have HB6 := Lib.hid hb6
  clear hLm hSm hUm hb6
  go_wp2_with fail
  refine (rcopy_any h S1' U1' M1 _ (HT1.out.ref.bel HB6.out) hl1).mono ?_
  rintro _ w7 ⟨s, Ss, Us, rfl, hRs, hSs, hUs, hb7⟩
  have HTm := Lib.hid (clones_two (U' := U1') HT1.out.ref.ltU HLm.out HSm.out hRs hSs hUs hb7)
  have hz5 := HB5.out.size
  have hz6 := HB6.out.size
  have HSs := Lib.hid (show ∀ q, Ss q → w5.heap.size ≤ q from fun q hq => by have := hSs q hq; omega)
  have HB7 := Lib.hid (HB5.out.trans (HB6.out.trans hb7)); have HT7 := Lib.hid (HT1.out.bel (HB6.out.trans hb7))
  have hcf : get? GConf w7 ⟨w.heap.size, 0, none⟩ = some cf := GB.get HB7.out HCF.out
  clear hRs hSs hUs hb7
  go_wp2_with fail
  refine (play_any m s Sm Um Ss Us M1 (0 + 8) A2 n2 c2 ys cf w w7 HY.out HOY.out HN2.out (HB1.out.trans HB7.out) HTm.out HG1.out (by omega) (fun q hq => by have := HSm.out q hq; have := HZ1.out; omega) (fun q hq => by have := HSs.out q hq; have := HZ1.out; omega)).mono ?_
  rintro _ w8 ⟨rfl, M2, _, _, _, _, _, _, _, _, hC2⟩
  have HB8 := Lib.hid (Chg.bel2 HB7.out hC2 (fun q hq => hq.elim (fun e => by have := HSm.out q e; omega) (fun e => by have := HSs.out q e; omega)))
  have HT8 := Lib.hid (HT7.out.chg hC2 (fun q hq e => by
    have h1 := HT1.out.led.ltU q hq
    rcases e with e | e
    · have := HSm.out q e; omega
    · have := HSs.out q e; omega) (fun q hq e => by
    have h1 := HT1.out.ref.ltU q hq
    rcases e with e | e
    · have := HSm.out q e; omega
    · have := HSs.out q e; omega))
  clear hC2 hcf
  go_wp2_with fail
  refine (same_any g h S1 U1 S1' U1' M1 (0 + 8) _ HT8.out.led HT8.out.ref HG1.out.good (by omega) HG1.out.names.nine HG1.out.done0).mono ?_
  rintro _ w9 ⟨rfl, hb9⟩
  have HT9 := Lib.hid (HT8.out.bel hb9); have HB9 := Lib.hid (HB8.out.trans hb9)
  have hcf : get? GConf w9 ⟨w.heap.size, 0, none⟩ = some cf := GB.get HB9.out HCF.out
  clear hb9
  go_wp2_with fail
  refine (play_any g h S1 U1 S1' U1' M1 (0 + 8) A2 n2 c2 ys cf w w9 HY.out HOY.out HN2.out (HB1.out.trans HB9.out) HT9.out HG1.out (by omega) (fun q hq => by have := HS1.out q hq; have := HZ1.out; omega) (fun q hq => by have := HS1'.out q hq; have := HZ1.out; omega)).mono ?_
  rintro _ w10 ⟨rfl, M3, _, _, _, _, _, _, _, _, hC3⟩
  have HB10 := Lib.hid (Chg.bel2 HB9.out hC3 (fun q hq => hq.elim (HS1.out q) (HS1'.out q)))
  clear hC3 hcf
  go_wp2_with fail
  refine (wakesL_any _).mono ?_
  rintro _ w11 ⟨rfl, hb11⟩
  have HB11 := Lib.hid (HB1.out.trans (HB10.out.trans hb11))
  clear hb11
  go_wp2_with fail
  go_ret
  exact ⟨rfl, HB11.out⟩
end Go.Proofs.Yteockodnfempfaa
