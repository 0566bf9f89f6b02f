/- AppFirst: the walk. Conditions: those named in each theorem. -/
import Derived.Test.YteockodnfempfaaDoorP9
import Derived.Deep.CutBlock
/- AppFirst: the walk. Conditions: those named in each theorem. -/
namespace Go.Proofs.YteockodnfempfaaDoor
open Go Go.RowKit Go.Gv Go.Sort Go.Proofs

theorem meas13 {k : Nat} (h : k < 12) : 12 - k < 13 - k := by omega
set_option maxRecDepth 100000 in
set_option maxHeartbeats 16000000 in
theorem first_any (A : Option Addr) (n c0 : Nat) (xs : List I64) (drop : Bool) (w : World) (hL : LibIs w) (hx : Sl I64 w w.heap.size A n xs) (hox : ∀ x ∈ xs, -9223372036854775808 ≤ x.v ∧ x.v ≤ 9223372036854775807) (hn : n ≤ maxLen) :
    Calls Tryd.prog 4 #[.slice A n c0, .bool drop] w fun e w' => e = .returned (.bool true) ∧ Bel w w' := by
  unfold maxLen at hn
  have HX := Lib.hid hx; have HOX := Lib.hid hox; have HL := Lib.hid hL
  clear hx hox hL
  go_enter Tryd.func4, Tryd.ntmps4
  go_wp2_with fail
  refine (newApp_any w).mono ?_
  rintro _ w1 ⟨a, g, r, p, q, rfl, hA, hF, hb⟩
  have HST := Lib.hid (show AF w w1 a g r p q (MF (-1) 0) 0 from ⟨hA, hb, fun k hk => (hF k).resolve_right (fun e => e (.inl hk))⟩)
  clear hA hF hb
  go_upto_block 0 with fail
  go_cut [6, 7] (fun ov _ wx => ∃ (o m : Int) (j : Nat), ov = .int .i64 o ∧ -1 ≤ o ∧ o < 4 ∧ j ≤ 24 ∧ Hid (AF w wx a g r p q (MF o m) j))
  case first =>
    go_wp2_with fail
    go_loopw [6, 7] (fun ov iv wr => ∃ (k : Nat) (o : Int), k ≤ n ∧ k ≤ 12 ∧ ov = .int .i64 o ∧ iv = .int .i64 k ∧ -1 ≤ o ∧ o < 4 ∧ Hid (AF w wr a g r p q (MF o k) (2 * k))) (fun _ iv _ => 13 - (intOf iv).toNat)
    case atStart => exact ⟨0, -1, by omega, by omega, rfl, rfl, by omega, by omega, HST⟩
    case round =>
      obtain ⟨k, o, hk, hk12, rfl, rfl, ho1, ho4, hst⟩ := hrel
      clear HST
      by_cases hcont : k < n ∧ k < 12
      · obtain ⟨hlt, hlt12⟩ := hcont
        obtain ⟨ad, x, rfl, _, hxk, hgx⟩ := (HX.out.stepB hst.out.bel).at_ (k := k) hlt
        have hfx := HOX.out x (List.mem_of_getElem? hxk)
        obtain ⟨xv⟩ := x
        have f1 : wr.cell? (ad.add k) = some (.int .i64 xv) := by have := get1 rfl hgx; rwa [show k * Enc.n I64 = k from Nat.mul_one k] at this
        have hx1 : -9223372036854775808 ≤ xv := hfx.1
        have hx2 : xv ≤ 9223372036854775807 := hfx.2
        have hlt2 : (k : Int) < (n : Int) := by omega
        have hlt3 : (k : Int) < 12 := by omega
        have hk0 : (0 : Int) ≤ (k : Int) := by omega
        obtain ⟨c, hc, hc0, hc4⟩ : ∃ c, within xv 4 = c ∧ 0 ≤ c ∧ c < 4 := by
          refine ⟨_, rfl, ?_, ?_⟩ <;> unfold within <;> rw [if_neg (by omega)]
          · exact Int.emod_nonneg _ (by omega)
          · exact Int.emod_lt_of_pos _ (by omega)
        have HC := Lib.hid hc
        clear hxk hgx hfx hc
        go_wp2_with fail
        refine (within_is xv 4 c _ HC.out (by omega) hx1 hx2).mono ?_
        rintro _ w2 ⟨rfl, h2⟩
        obtain rfl : wr = w2 := by first | exact h2 | exact h2.symm
        have e1 : IntKind.i64.wrap ((k : Int) + 1) = (k : Int) + 1 := IntWalk.i64_in _ (by omega)
        have e2 : IntKind.u64.wrap (k : Int) = (k : Int) := IntWalk.u64_in _ (by omega)
        have HG := Lib.hid (get?_new (w := wr) 32 (⟨⟨c, (k : Int) + 1⟩, default, k⟩ : GEntry))
        have HBW := Lib.hid ((Bel.refl wr).alloc (.cells (GEntry.enc ⟨⟨c, (k : Int) + 1⟩, default, k⟩).toArray 32))
        clear f1
        go_upto_region 10 with fail
        change Hid (get? GEntry (wr.alloc (.cells (GEntry.enc ⟨⟨c, (k : Int) + 1⟩, default, k⟩).toArray 32)) ⟨wr.heap.size, 0, none⟩ = some ⟨⟨c, (k : Int) + 1⟩, default, k⟩) at HG
        replace hst := Lib.hid (hst.out.step HBW.out)
        obtain ⟨ga, hga⟩ : ∃ ga, wr.heap.size = ga := ⟨_, rfl⟩
        rw [hga] at HG ⊢
        generalize wr.alloc (.cells (GEntry.enc ⟨⟨c, (k : Int) + 1⟩, default, k⟩).toArray 32) = wa at HG HBW hst ⊢
        clear hga HBW
        obtain ⟨z, hz⟩ : ∃ z, Int.tmod (k : Int) 3 = z := ⟨_, rfl⟩
        have hz9 : -3 < z ∧ z < 3 := by
          have h1 := Int.tmod_lt_of_pos (k : Int) (b := 3) (by omega)
          have h2 := Int.lt_tmod_of_pos (k : Int) (b := 3) (by omega)
          omega
        have e5 : IntKind.i64.wrap z = z := IntWalk.i64_in _ (by omega)
        go_cut [43] (fun v wx => ∃ b : Bool, v = .bool b ∧ wx = wa)
        case first =>
          cases drop
          · go_wp2_with fail
            go_meet
            exact ⟨_, rfl, rfl⟩
          · go_wp2_with fail
            go_meet
            exact ⟨_, rfl, rfl⟩
        case rest =>
        obtain ⟨b, rfl, rfl⟩ := hcut
        clear hz hz9 e5
        have g1 := HG.out
        have HKO : Hid (k + 1 ≤ 12) := Lib.hid (by omega)
        cases b
        · by_cases hneg : o < 0
          · skip
            have hcv := Lib.run_convert_bytes_const (P := Tryd.prog) wc 35 5 #[.int .u8 114, .int .u8 101, .int .u8 115, .int .u8 101, .int .u8 114, .int .u8 118, .int .u8 101, .int .u8 32, .int .u8 105, .int .u8 116] 10 10 (by kernel_rfl) (by kernel_rfl)
            have hb2 := (Bel.refl wc).alloc (.cells #[.int .u8 114, .int .u8 101, .int .u8 115, .int .u8 101, .int .u8 114, .int .u8 118, .int .u8 101, .int .u8 32, .int .u8 105, .int .u8 116] 5 (10, 11))
            have hsl : Sl U8 (wc.alloc (.cells #[.int .u8 114, .int .u8 101, .int .u8 115, .int .u8 101, .int .u8 114, .int .u8 118, .int .u8 101, .int .u8 32, .int .u8 105, .int .u8 116] 5 (10, 11))) (wc.alloc (.cells #[.int .u8 114, .int .u8 101, .int .u8 115, .int .u8 101, .int .u8 114, .int .u8 118, .int .u8 101, .int .u8 32, .int .u8 105, .int .u8 116] 5 (10, 11))).heap.size (some ⟨wc.heap.size, 0, none⟩) 10 reservePl := Sl.of_row (heap_alloc_new wc _) (by rfl) rfl (by simp)
            have HSL := Lib.hid hsl; have HS2 := Lib.hid (hst.out.step hb2); have HFT := Lib.hid hst.out.foot; have HE := Lib.hid (reserve_free (o := o) (n := k) (t := k) hneg hc0 hc4)
            clear hsl hb2
            go_wp2_with fail
            refine (HS2.out.exec ⟨⟨c, (k : Int) + 1⟩, default, k⟩ (some ⟨wc.heap.size, 0, none⟩) 10 10 reservePl HL.out HSL.out (fun ad e hf => by injection e with e; subst e; have := HFT.out _ hf; simp at this) (by omega) (by omega) HE.out).mono ?_
            rintro _ wf ⟨rfl, hst3, -⟩
            have HST3 := Lib.hid hst3
            clear hst3 hcv
            go_wp2_with fail
            go_roundw
            case rel => exact ⟨k + 1, c, by omega, by omega, rfl, by go_num, by omega, by omega, Lib.hid (by have := HST3.out; exact this)⟩
            case measure => simp [intOf]; exact meas13 hlt12
          · skip
            have hcv := Lib.run_convert_bytes_const (P := Tryd.prog) wc 35 5 #[.int .u8 114, .int .u8 101, .int .u8 115, .int .u8 101, .int .u8 114, .int .u8 118, .int .u8 101, .int .u8 32, .int .u8 105, .int .u8 116] 10 10 (by kernel_rfl) (by kernel_rfl)
            have hb2 := (Bel.refl wc).alloc (.cells #[.int .u8 114, .int .u8 101, .int .u8 115, .int .u8 101, .int .u8 114, .int .u8 118, .int .u8 101, .int .u8 32, .int .u8 105, .int .u8 116] 5 (10, 11))
            have hsl : Sl U8 (wc.alloc (.cells #[.int .u8 114, .int .u8 101, .int .u8 115, .int .u8 101, .int .u8 114, .int .u8 118, .int .u8 101, .int .u8 32, .int .u8 105, .int .u8 116] 5 (10, 11))) (wc.alloc (.cells #[.int .u8 114, .int .u8 101, .int .u8 115, .int .u8 101, .int .u8 114, .int .u8 118, .int .u8 101, .int .u8 32, .int .u8 105, .int .u8 116] 5 (10, 11))).heap.size (some ⟨wc.heap.size, 0, none⟩) 10 reservePl := Sl.of_row (heap_alloc_new wc _) (by rfl) rfl (by simp)
            have HSL := Lib.hid hsl; have HS2 := Lib.hid (hst.out.step hb2); have HFT := Lib.hid hst.out.foot; have HE := Lib.hid (reserve_had (o := o) (n := k) (t := k) hneg hc0 hc4)
            clear hsl hb2
            go_wp2_with fail
            refine (HS2.out.exec ⟨⟨c, (k : Int) + 1⟩, default, k⟩ (some ⟨wc.heap.size, 0, none⟩) 10 10 reservePl HL.out HSL.out (fun ad e hf => by injection e with e; subst e; have := HFT.out _ hf; simp at this) (by omega) (by omega) HE.out).mono ?_
            rintro _ wf ⟨rfl, hst3, -⟩
            have HST3 := Lib.hid hst3
            clear hst3 hcv
            go_wp2_with fail
            go_roundw
            case rel => exact ⟨k + 1, o, by omega, by omega, rfl, by go_num, by omega, by omega, Lib.hid (by have := HST3.out; exact this)⟩
            case measure => simp [intOf]; exact meas13 hlt12
        · by_cases hneg : o < 0
          · skip
            have hcv := Lib.run_convert_bytes_const (P := Tryd.prog) wc 35 5 #[.int .u8 114, .int .u8 101, .int .u8 108, .int .u8 101, .int .u8 97, .int .u8 115, .int .u8 101, .int .u8 32, .int .u8 105, .int .u8 116] 10 10 (by kernel_rfl) (by kernel_rfl)
            have hb2 := (Bel.refl wc).alloc (.cells #[.int .u8 114, .int .u8 101, .int .u8 108, .int .u8 101, .int .u8 97, .int .u8 115, .int .u8 101, .int .u8 32, .int .u8 105, .int .u8 116] 5 (10, 11))
            have hsl : Sl U8 (wc.alloc (.cells #[.int .u8 114, .int .u8 101, .int .u8 108, .int .u8 101, .int .u8 97, .int .u8 115, .int .u8 101, .int .u8 32, .int .u8 105, .int .u8 116] 5 (10, 11))) (wc.alloc (.cells #[.int .u8 114, .int .u8 101, .int .u8 108, .int .u8 101, .int .u8 97, .int .u8 115, .int .u8 101, .int .u8 32, .int .u8 105, .int .u8 116] 5 (10, 11))).heap.size (some ⟨wc.heap.size, 0, none⟩) 10 releasePl := Sl.of_row (heap_alloc_new wc _) (by rfl) rfl (by simp)
            have HSL := Lib.hid hsl; have HS2 := Lib.hid (hst.out.step hb2); have HFT := Lib.hid hst.out.foot; have HE := Lib.hid (release_free (o := o) (n := k) (t := k) hneg hc0 hc4)
            clear hsl hb2
            go_wp2_with fail
            refine (HS2.out.exec ⟨⟨c, (k : Int) + 1⟩, default, k⟩ (some ⟨wc.heap.size, 0, none⟩) 10 10 releasePl HL.out HSL.out (fun ad e hf => by injection e with e; subst e; have := HFT.out _ hf; simp at this) (by omega) (by omega) HE.out).mono ?_
            rintro _ wf ⟨rfl, hst3, -⟩
            have HST3 := Lib.hid hst3
            clear hst3 hcv
            go_wp2_with fail
            go_roundw
            case rel => exact ⟨k + 1, o, by omega, by omega, rfl, by go_num, by omega, by omega, Lib.hid (by have := HST3.out; exact this)⟩
            case measure => simp [intOf]; exact meas13 hlt12
          · by_cases hoc : o = c
            · subst hoc
              have hcv := Lib.run_convert_bytes_const (P := Tryd.prog) wc 35 5 #[.int .u8 114, .int .u8 101, .int .u8 108, .int .u8 101, .int .u8 97, .int .u8 115, .int .u8 101, .int .u8 32, .int .u8 105, .int .u8 116] 10 10 (by kernel_rfl) (by kernel_rfl)
              have hb2 := (Bel.refl wc).alloc (.cells #[.int .u8 114, .int .u8 101, .int .u8 108, .int .u8 101, .int .u8 97, .int .u8 115, .int .u8 101, .int .u8 32, .int .u8 105, .int .u8 116] 5 (10, 11))
              have hsl : Sl U8 (wc.alloc (.cells #[.int .u8 114, .int .u8 101, .int .u8 108, .int .u8 101, .int .u8 97, .int .u8 115, .int .u8 101, .int .u8 32, .int .u8 105, .int .u8 116] 5 (10, 11))) (wc.alloc (.cells #[.int .u8 114, .int .u8 101, .int .u8 108, .int .u8 101, .int .u8 97, .int .u8 115, .int .u8 101, .int .u8 32, .int .u8 105, .int .u8 116] 5 (10, 11))).heap.size (some ⟨wc.heap.size, 0, none⟩) 10 releasePl := Sl.of_row (heap_alloc_new wc _) (by rfl) rfl (by simp)
              have HSL := Lib.hid hsl; have HS2 := Lib.hid (hst.out.step hb2); have HFT := Lib.hid hst.out.foot; have HE := Lib.hid (release_own (o := o) (n := k) (t := k) hc0 hc4)
              clear hsl hb2
              go_wp2_with fail
              refine (HS2.out.exec ⟨⟨o, (k : Int) + 1⟩, default, k⟩ (some ⟨wc.heap.size, 0, none⟩) 10 10 releasePl HL.out HSL.out (fun ad e hf => by injection e with e; subst e; have := HFT.out _ hf; simp at this) (by omega) (by omega) HE.out).mono ?_
              rintro _ wf ⟨rfl, hst3, -⟩
              have HST3 := Lib.hid hst3
              clear hst3 hcv
              go_wp2_with fail
              go_roundw
              case rel => exact ⟨k + 1, (-1), by omega, by omega, rfl, by go_num, by omega, by omega, Lib.hid (by have := HST3.out; exact this)⟩
              case measure => simp [intOf]; exact meas13 hlt12
            · have hoc2 : (o == c) = false := by simpa using hoc
              have hcv := Lib.run_convert_bytes_const (P := Tryd.prog) wc 35 5 #[.int .u8 114, .int .u8 101, .int .u8 108, .int .u8 101, .int .u8 97, .int .u8 115, .int .u8 101, .int .u8 32, .int .u8 105, .int .u8 116] 10 10 (by kernel_rfl) (by kernel_rfl)
              have hb2 := (Bel.refl wc).alloc (.cells #[.int .u8 114, .int .u8 101, .int .u8 108, .int .u8 101, .int .u8 97, .int .u8 115, .int .u8 101, .int .u8 32, .int .u8 105, .int .u8 116] 5 (10, 11))
              have hsl : Sl U8 (wc.alloc (.cells #[.int .u8 114, .int .u8 101, .int .u8 108, .int .u8 101, .int .u8 97, .int .u8 115, .int .u8 101, .int .u8 32, .int .u8 105, .int .u8 116] 5 (10, 11))) (wc.alloc (.cells #[.int .u8 114, .int .u8 101, .int .u8 108, .int .u8 101, .int .u8 97, .int .u8 115, .int .u8 101, .int .u8 32, .int .u8 105, .int .u8 116] 5 (10, 11))).heap.size (some ⟨wc.heap.size, 0, none⟩) 10 releasePl := Sl.of_row (heap_alloc_new wc _) (by rfl) rfl (by simp)
              have HSL := Lib.hid hsl; have HS2 := Lib.hid (hst.out.step hb2); have HFT := Lib.hid hst.out.foot; have HE := Lib.hid (release_other (o := o) (n := k) (t := k) hneg hoc hc0 hc4)
              clear hsl hb2
              go_wp2_with fail
              refine (HS2.out.exec ⟨⟨c, (k : Int) + 1⟩, default, k⟩ (some ⟨wc.heap.size, 0, none⟩) 10 10 releasePl HL.out HSL.out (fun ad e hf => by injection e with e; subst e; have := HFT.out _ hf; simp at this) (by omega) (by omega) HE.out).mono ?_
              rintro _ wf ⟨rfl, hst3, -⟩
              have HST3 := Lib.hid hst3
              clear hst3 hcv
              go_wp2_with fail
              clear hoc hoc2
              go_roundw
              case rel => exact ⟨k + 1, o, by omega, by omega, rfl, by go_num, by omega, by omega, Lib.hid (by have := HST3.out; exact this)⟩
              case measure => simp [intOf]; exact meas13 hlt12
      · have hstop : (n : Int) ≤ (k : Int) ∨ ((k : Int) < (n : Int) ∧ 12 ≤ (k : Int)) := by omega
        rcases hstop with hs | ⟨hs, hs2⟩
        all_goals
        go_wp2_with fail
        go_meet
        exact ⟨o, k, _, rfl, ho1, ho4, by omega, hst⟩
  case rest =>
  obtain ⟨o, m, j, rfl, ho1, ho4, hj, hst⟩ := hcut
  clear HST
  by_cases hneg : o < 0
  · skip
    have hcv := Lib.run_convert_bytes_const (P := Tryd.prog) wc 35 5 #[.int .u8 111, .int .u8 119, .int .u8 110, .int .u8 101, .int .u8 114, .int .u8 32, .int .u8 105, .int .u8 116] 8 8 (by kernel_rfl) (by kernel_rfl)
    have hb2 := (Bel.refl wc).alloc (.cells #[.int .u8 111, .int .u8 119, .int .u8 110, .int .u8 101, .int .u8 114, .int .u8 32, .int .u8 105, .int .u8 116] 5 (8, 9))
    have hsl : Sl U8 (wc.alloc (.cells #[.int .u8 111, .int .u8 119, .int .u8 110, .int .u8 101, .int .u8 114, .int .u8 32, .int .u8 105, .int .u8 116] 5 (8, 9))) (wc.alloc (.cells #[.int .u8 111, .int .u8 119, .int .u8 110, .int .u8 101, .int .u8 114, .int .u8 32, .int .u8 105, .int .u8 116] 5 (8, 9))).heap.size (some ⟨wc.heap.size, 0, none⟩) 8 ownerPl := Sl.of_row (heap_alloc_new wc _) (by rfl) rfl (by simp)
    have HSL := Lib.hid hsl; have HS2 := Lib.hid (hst.out.step hb2); have HFT := Lib.hid hst.out.foot; have HE := Lib.hid (owner_none (o := o) (c := (default : GName).client) (n := m) (t := 99) hneg)
    clear hsl hb2
    go_wp2_with fail
    refine (HS2.out.exec ⟨default, default, 99⟩ (some ⟨wc.heap.size, 0, none⟩) 8 8 ownerPl HL.out HSL.out (fun ad e hf => by injection e with e; subst e; have := HFT.out _ hf; simp at this) (by omega) (by omega) HE.out).mono ?_
    rintro _ wf ⟨rfl, hst3, -⟩
    have HST3 := Lib.hid hst3
    clear hst3 hcv
    go_wp2_with fail
    refine (wakesG_any w _ HL.out HST3.out.bel).mono ?_
    rintro _ w17 ⟨rfl, hb17⟩
    have HB17 := Lib.hid (HST3.out.bel.trans hb17)
    clear hb17
    go_wp2_with fail
    go_ret
    exact ⟨rfl, HB17.out⟩
  · obtain ⟨on, rfl⟩ := Int.eq_ofNat_of_zero_le (show 0 ≤ o by omega)
    go_wp2_with fail
    refine (digits_any on _ (by omega)).mono ?_
    rintro _ w5 ⟨rfl, hb5⟩
    replace hst := Lib.hid (hst.out.step hb5)
    obtain ⟨D, hD⟩ : ∃ D, digS on = D := ⟨_, rfl⟩
    have HDD := Lib.hid ((itoa_dig on).trans hD)
    rw [hD]
    clear hD hb5
    have hcv := Lib.run_convert_bytes_const (P := Tryd.prog) w5 35 5 #[.int .u8 111, .int .u8 119, .int .u8 110, .int .u8 101, .int .u8 114, .int .u8 32, .int .u8 105, .int .u8 116] 8 8 (by kernel_rfl) (by kernel_rfl)
    have hb2 := (Bel.refl w5).alloc (.cells #[.int .u8 111, .int .u8 119, .int .u8 110, .int .u8 101, .int .u8 114, .int .u8 32, .int .u8 105, .int .u8 116] 5 (8, 9))
    have hsl : Sl U8 (w5.alloc (.cells #[.int .u8 111, .int .u8 119, .int .u8 110, .int .u8 101, .int .u8 114, .int .u8 32, .int .u8 105, .int .u8 116] 5 (8, 9))) (w5.alloc (.cells #[.int .u8 111, .int .u8 119, .int .u8 110, .int .u8 101, .int .u8 114, .int .u8 32, .int .u8 105, .int .u8 116] 5 (8, 9))).heap.size (some ⟨w5.heap.size, 0, none⟩) 8 ownerPl := Sl.of_row (heap_alloc_new w5 _) (by rfl) rfl (by simp)
    have HSL := Lib.hid hsl; have HS2 := Lib.hid (hst.out.step hb2); have HFT := Lib.hid hst.out.foot; have HE := Lib.hid ((owner_some (o := (on : Int)) (c := (default : GName).client) (n := m) (t := 99) (show ¬ (on : Int) < 0 by omega)).trans (by rw [HDD.out] : (itoaB (on : Int), MF (on : Int) (m + 1)) = (D, MF (on : Int) (m + 1))))
    clear hsl hb2
    go_wp2_with fail
    refine (HS2.out.exec ⟨default, default, 99⟩ (some ⟨w5.heap.size, 0, none⟩) 8 8 ownerPl HL.out HSL.out (fun ad e hf => by injection e with e; subst e; have := HFT.out _ hf; simp at this) (by omega) (by omega) HE.out).mono ?_
    rintro _ wf ⟨rfl, hst3, -⟩
    have HST3 := Lib.hid hst3
    clear hst3 hcv
    go_wp2_with fail
    refine (wakesG_any w _ HL.out HST3.out.bel).mono ?_
    rintro _ w17 ⟨rfl, hb17⟩
    have HB17 := Lib.hid (HST3.out.bel.trans hb17)
    clear hb17
    go_wp2_with fail
    go_ret
    exact ⟨rfl, HB17.out⟩
end Go.Proofs.YteockodnfempfaaDoor
