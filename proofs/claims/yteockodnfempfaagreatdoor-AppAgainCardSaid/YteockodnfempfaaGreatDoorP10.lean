/- AppAgain returns true, walked. Conditions: those named in each theorem. -/
import Derived.Test.YteockodnfempfaaGreatDoorP9
/- AppAgain returns true, walked. Conditions: those named in each theorem. -/
namespace Go.Proofs.YteockodnfempfaaGreatDoor
open Go Go.RowKit Go.Gv Go.Sort Go.Proofs

def bytesOf (s : ByteArray) : List U8 := s.data.toList.map U8.mk
theorem bytesB_of (s : ByteArray) : bytesB (bytesOf s) = s := by
  unfold bytesB bytesOf
  rw [List.map_map]
  have : (U8.v ∘ U8.mk) = id := rfl
  rw [this, List.map_id]
theorem flat_bytes : ∀ (l : List UInt8), (l.map U8.mk).flatMap Enc.enc = l.map fun b => Value.int .u8 b.toNat
  | [] => rfl
  | b :: l => by rw [List.map_cons, List.flatMap_cons, flat_bytes l]; rfl
theorem conv_pay {w0 w : World} {a g r p q b h s u v ka kb : Nat} {Ma Mb : MApp} (st : St w0 w a g r p q b h s u v Ma ka Mb kb) (pl : ByteArray) :
    ∃ (c : Nat) (w' : World), (convert 9 38 (.string pl)).run Tryz.prog w = .ok (.slice (some ⟨w.heap.size, 0, none⟩) pl.size c) w' ∧ PayAt w' a r q b s v (some ⟨w.heap.size, 0, none⟩) pl.size (bytesOf pl) ∧ Bel w w' := by
  refine ⟨_, _, run_bytes_of_string (P := Tryz.prog) w 9 38 5 pl (by kernel_rfl) (by kernel_rfl) (by kernel_rfl), ⟨Sl.of_row (heap_alloc_new w.drew _) ?_ ?_ (by simp), ?_⟩, (Bel.refl w).drew.alloc _⟩
  · unfold bytesRow bytesOf
    rw [flat_bytes, Array.toList_append, Array.toList_map]
    rw [show pl.size * Enc.n U8 = (pl.data.toList.map fun b => Value.int .u8 b.toNat).length by simp [show Enc.n U8 = 1 from rfl]]
    rw [List.take_left']
    rfl
  · unfold bytesOf
    simp
  · intro ad e hk
    injection e with e
    subst e
    have l1 := st.one.lt
    have l2 := st.one.house.2.lt
    have l3 := st.one.reg.ltr
    have l4 := st.two.lt
    have l5 := st.two.house.2.lt
    have l6 := st.two.reg.ltr
    unfold footA at hk
    simp only at hk
    omega
theorem doA_n (M : MApp) (W : List ByteArray) (who now : Int) : (doA M W who now).2.n = M.n := by
  unfold doA openA bidA
  repeat' split
  all_goals rfl
theorem execA_n (M : MApp) (who now : Int) (pl : ByteArray) : (execA M who now pl).2.n = M.n + 1 := by
  unfold execA
  rw [doA_n]
  rfl
section
variable {w0 w w' : World} {a g r p q b h s u v ka kb : Nat} {Ma Mb : MApp}
theorem St.mono {ja jb : Nat} (st : St w0 w a g r p q b h s u v Ma ka Mb kb) (h1 : ka ≤ ja) (h2 : kb ≤ jb) : St w0 w a g r p q b h s u v Ma ja Mb jb := ⟨st.one.mono h1, st.two.mono h2, st.lib, st.bel, st.far, st.d1, st.d2⟩
theorem St.reclone {b' h' s' u' v' : Nat} (st : St w0 w a g r p q b h s u v Ma ka Mb kb) (hB : AppIs w' b' h' s' u' v' Mb kb) (hF : ∀ k, w.heap.size ≤ k ∨ ¬ (footA b' s' v' k ∨ k = h' ∨ k = u')) (hb : Bel w w') : St w0 w' a g r p q b' h' s' u' v' Ma ka Mb kb := by
  have l1 := st.one.lt
  have l2 := st.one.house.2.lt
  have l3 := st.one.reg.ltr
  have l4 := World.block_lt_of_cell? w _ st.one.house.1
  have l5 := World.block_lt_of_cell? w _ st.one.reg.1
  have lz := st.bel.size
  simp only at l4 l5
  refine ⟨st.one.bel hb, hB, st.lib, st.bel.trans hb, ?_, ?_, ?_⟩
  · intro k hk
    rcases hk with hk | hk
    · exact st.far k (.inl hk)
    · rcases hF k with h | h
      · omega
      · exact absurd (.inl hk) h
  · intro k hk h9
    have h1 := (hF k).resolve_right (fun e => e (.inl h9))
    unfold footA at hk
    omega
  · intro k hk h9
    have h1 := (hF k).resolve_right (fun e => e hk)
    unfold footA at h9
    omega
theorem St.exec1r {A : Option Addr} {n c : Nat} {ys : List U8} (st : St w0 w a g r p q b h s u v Ma ka Mb kb) (x : GEntry) (hy : PayAt w a r q b s v A n ys) (hn : n ≤ 1000000) (hk : ka ≤ 1000) (R : ByteArray × MApp) (hR : execA Ma x.name.client x.time (bytesB ys) = R) :
    Calls Tryz.prog 12 #[.pointer (some ⟨a, 0, none⟩), x.val, .slice A n c] w fun e w' => e = .returned (.string R.1) ∧ St w0 w' a g r p q b h s u v R.2 (ka + 2) Mb kb ∧ Chg (fun k => footA a r q k ∨ footA b s v k) w w' := by
  subst hR; exact st.exec1 x hy hn hk
theorem St.exec2r {A : Option Addr} {n c : Nat} {ys : List U8} (st : St w0 w a g r p q b h s u v Ma ka Mb kb) (x : GEntry) (hy : PayAt w a r q b s v A n ys) (hn : n ≤ 1000000) (hk : kb ≤ 1000) (R : ByteArray × MApp) (hR : execA Mb x.name.client x.time (bytesB ys) = R) :
    Calls Tryz.prog 12 #[.pointer (some ⟨b, 0, none⟩), x.val, .slice A n c] w fun e w' => e = .returned (.string R.1) ∧ St w0 w' a g r p q b h s u v Ma ka R.2 (kb + 2) ∧ Chg (fun k => footA a r q k ∨ footA b s v k) w w' := by
  subst hR; exact st.exec2 x hy hn hk
end
theorem put_payload {w : World} {ga : Nat} {x : GLaw19Act} (h : get? GLaw19Act w ⟨ga, 0, none⟩ = some x) (t : ByteArray) : get? GLaw19Act (w.setCell ⟨ga, 2, none⟩ (.string t)) ⟨ga, 0, none⟩ = some { x with payload := t } := by
  refine get?_iff.2 ?_
  have := atPoke (g := ga) (cs := Enc.enc x) (get?_iff.1 h) (j := 2) (by show 2 < (GLaw19Act.enc x).length; rw [GLaw19Act.enc_len]; omega) (.string t)
  exact this
theorem st_new {w w1 w2 : World} {a g r p q b h s u v : Nat} (hA : AppIs w2 a g r p q M0 0) (hB : AppIs w2 b h s u v M0 0) (hL : LibIs w) (hb : Bel w w2) (f1 : ∀ k, (footA a r q k ∨ k = g ∨ k = p) → w.heap.size ≤ k) (f2 : ∀ k, (footA b s v k ∨ k = h ∨ k = u) → w1.heap.size ≤ k)
    (l1 : a < w1.heap.size) (l2 : r < w1.heap.size) (l3 : q < w1.heap.size) (l4 : g < w1.heap.size) (l5 : p < w1.heap.size) (hz : w.heap.size ≤ w1.heap.size) : St w w2 a g r p q b h s u v M0 0 M0 0 := by
  refine ⟨hA, hB, hL, hb, ?_, ?_, ?_⟩
  · intro k hk
    rcases hk with hk | hk
    · exact f1 k (.inl hk)
    · have := f2 k (.inl hk); omega
  · intro k hk h9
    have h1 := f2 k (.inl h9)
    unfold footA at hk
    omega
  · intro k hk h9
    have h1 := f2 k hk
    unfold footA at h9
    omega
set_option maxRecDepth 100000 in
set_option maxHeartbeats 8000000 in
theorem again_any (A : Option Addr) (n c : Nat) (xs : List GLaw19Act) (cut : Int) (w : World) (hL : LibIs w) (hx : Sl GLaw19Act w w.heap.size A n xs) (hox : ∀ x ∈ xs, FitA x) (hn : n ≤ maxLen) (hc1 : -9223372036854775808 ≤ cut) (hc2 : cut ≤ 9223372036854775807) :
    Calls Tryz.prog 3 #[.slice A n c, .int .i64 cut] w fun e w' => e = .returned (.bool true) ∧ Bel w w' := by
  unfold maxLen at hn
  have HX := Lib.hid hx; have HOX := Lib.hid hox; have HL := Lib.hid hL
  obtain ⟨z, hz, hz0, hz1⟩ : ∃ q, within cut 20 = q ∧ 0 ≤ q ∧ q < 20 := by
    refine ⟨_, rfl, ?_, ?_⟩ <;> unfold within <;> rw [if_neg (by omega)]
    · exact Int.emod_nonneg _ (by omega)
    · exact Int.emod_lt_of_pos _ (by omega)
  have HZ := Lib.hid hz
  clear hx hox hL hz
  go_enter Tryz.func3, Tryz.ntmps3
  go_wp2_with fail
  refine (newApp_any w).mono ?_
  rintro _ w1 ⟨a, g, r, p, q, rfl, hA, hF, hb⟩
  have HA := Lib.hid hA; have HF := Lib.hid hF; have HB := Lib.hid hb
  have hl1 := hA.lt; have hl2 := hA.house.2.lt; have hl3 := hA.reg.ltr
  have hl4 := World.block_lt_of_cell? w1 _ hA.house.1; have hl5 := World.block_lt_of_cell? w1 _ hA.reg.1
  simp only at hl4 hl5
  clear hA hF hb
  go_wp2_with fail
  refine (newApp_any w1).mono ?_
  rintro _ w2 ⟨b, h, s, u, v, rfl, hA2, hF2, hb2⟩
  have hst : St w w2 a g r p q b h s u v M0 0 M0 0 := st_new (HA.out.bel hb2) hA2 HL.out (HB.out.trans hb2) (fun k hk => (HF.out k).resolve_right (fun e => e hk)) (fun k hk => (hF2 k).resolve_right (fun e => e hk)) hl1 hl2 hl3 hl4 hl5 HB.out.size
  have HST := Lib.hid hst
  clear hst hA2 hF2 hb2 HA HF hl1 hl2 hl3 hl4 hl5
  go_wp2_with fail
  refine (within_is cut 20 z _ HZ.out (by omega) hc1 hc2).mono ?_
  rintro _ w3 ⟨rfl, h3⟩
  obtain rfl : w2 = w3 := by first | exact h3 | exact h3.symm
  go_wp2_with fail
  go_loopw [6, 8] (fun bv iv wr => ∃ (k b h s u v : Nat) (M : MApp), k ≤ n ∧ k ≤ 20 ∧ iv = .int .i64 k ∧ bv = .pointer (some ⟨b, 0, none⟩) ∧ M.n = (k : Int) ∧ Hid (St w wr a g r p q b h s u v M (2 * k) M (2 * k))) (fun _ iv _ => 21 - (intOf iv).toNat)
  case atStart => exact ⟨0, b, h, s, u, v, M0, by omega, by omega, rfl, rfl, rfl, HST⟩
  case round =>
    obtain ⟨k, b, h, s, u, v, M, hk, hk20, rfl, rfl, hMn, hst⟩ := hrel
    clear HST
    by_cases hcont : k < n ∧ k < 20
    · obtain ⟨hlt, hlt20⟩ := hcont
      obtain ⟨ad, x, rfl, _, hxk, hgx⟩ := (HX.out.stepB hst.out.bel).at_ (k := k) hlt
      have hfx := HOX.out x (List.mem_of_getElem? hxk)
      change get? GLaw19Act wr (ad.add (k * 4)) = some x at hgx
      have HFX0 := Lib.hid hfx
      have hlt2 : (k : Int) < (n : Int) := by omega
      have hlt3 : (k : Int) < 20 := by omega
      have hk0 : (0 : Int) ≤ (k : Int) := by omega
      have HMN := Lib.hid hMn
      clear hxk hfx hMn
      have HG := Lib.hid (get?_new (w := wr) 28 x)
      have HBW := Lib.hid ((Bel.refl wr).alloc (.cells (GLaw19Act.enc x).toArray 28))
      have HFR := Lib.hid (show blkFree (wr.alloc (.cells (GLaw19Act.enc x).toArray 28)) wr.heap.size = true from blkFree_new _ _ rfl)
      go_upto_region 9 with fail
      change Hid (get? GLaw19Act (wr.alloc (.cells (GLaw19Act.enc x).toArray 28)) ⟨wr.heap.size, 0, none⟩ = some x) at HG
      obtain ⟨ga, hga⟩ : ∃ ga, wr.heap.size = ga := ⟨_, rfl⟩
      have HGA := Lib.hid hga
      rw [hga] at HG HFR ⊢
      generalize wr.alloc (.cells (GLaw19Act.enc x).toArray 28) = wa at HG HBW HFR ⊢
      clear hga
      obtain ⟨f0, f1, f2, f3⟩ := actA_cells HG.out
      have z2 : wa.frozen? ⟨ga, 2, none⟩ = false := frozen_of_free (a := ⟨ga, 2, none⟩) HFR.out
      go_upto_if 37 with fail
      go_cut [9] (fun vx wx => vx = .pointer (some ⟨ga, 0, none⟩) ∧ ∃ pl : ByteArray, get? GLaw19Act wx ⟨ga, 0, none⟩ = some { x with payload := pl } ∧ pl.size ≤ 80 ∧ Bel wr wx)
      case first => as_aux_lemma =>
        by_cases h80 : 80 < x.payload.size
        · have h81 : (80 : Int) < (x.payload.size : Int) := by omega
          have h82 : (80 : Int) ≤ (x.payload.size : Int) := by omega
          go_wp2_with fail
          go_meet
          exact ⟨rfl, _, put_payload HG.out _, by rw [ByteArray.size_extract]; omega, Bel.setCell HBW.out (by show wr.heap.size ≤ ga; rw [HGA.out]; exact Nat.le_refl _) _⟩
        · have h81 : ¬ (80 : Int) < (x.payload.size : Int) := by omega
          go_wp2_with fail
          go_meet
          exact ⟨rfl, x.payload, HG.out, by omega, HBW.out⟩
      case rest =>
      obtain ⟨rfl, pl, hgx9, hpl, hbw⟩ := hcut
      obtain ⟨wb, rfl⟩ : ∃ w', w' = wc := ⟨_, rfl⟩
      have HST := Lib.hid (hst.out.step hbw)
      obtain ⟨x9, hx9⟩ : ∃ y : GLaw19Act, y = { x with payload := pl } := ⟨_, rfl⟩
      have HFX := Lib.hid (show FitA x9 by rw [hx9]; exact ⟨HFX0.out.1, HFX0.out.2.1, by show pl.size ≤ maxLen; unfold maxLen; omega⟩)
      rw [← hx9] at hgx9
      have hp9 : x9.payload = pl := by rw [hx9]
      have HGF := Lib.hid (show ¬ (footA a r q ga ∨ footA b s v ga) from fun hk => by
        have l1 := hst.out.one.lt
        have l2 := hst.out.one.house.2.lt
        have l3 := hst.out.one.reg.ltr
        have l4 := hst.out.two.lt
        have l5 := hst.out.two.house.2.lt
        have l6 := hst.out.two.reg.ltr
        have := HGA.out
        unfold footA at hk
        omega)
      clear f0 f1 f2 f3 z2 HG HBW HFR HGA hbw hst hx9 hgx HFX0
      have HG9 := Lib.hid hgx9
      clear hgx9
      go_upto_if 44 with fail
      go_cut [6] (fun vx wx => ∃ b h s u v : Nat, vx = .pointer (some ⟨b, 0, none⟩) ∧ St w wx a g r p q b h s u v M (2 * k) M (2 * k) ∧ Bel wb wx ∧ ¬ (footA a r q ga ∨ footA b s v ga))
      case first => as_aux_lemma =>
        by_cases hkz : (k : Int) = z
        · have hkb : ((k : Int) == z) = true := by rw [beq_iff_eq]; exact hkz
          clear hkz
          go_wp2_with fail
          refine (cloneApp_any b h s u v (2 * k) M wb HST.out.two).mono ?_
          rintro _ w5 ⟨b', h', s', u', v', rfl, hB5, hF5, hb5⟩
          have hst5 := HST.out.reclone hB5 hF5 hb5
          have HGF5 := Lib.hid (show ¬ (footA a r q ga ∨ footA b' s' v' ga) from fun hk => by
            rcases hk with hk | hk
            · exact HGF.out (.inl hk)
            · rcases hF5 ga with e | e
              · have : ga < wb.heap.size := get?_lt HG9.out
                omega
              · exact e (.inl hk))
          have HST5 := Lib.hid hst5; have HB5 := Lib.hid hb5
          clear hst5 hB5 hF5 hb5
          go_wp2_with fail
          go_meet
          exact ⟨b', h', s', u', v', rfl, HST5.out, HB5.out, HGF5.out⟩
        · have hkb : ((k : Int) == z) = false := by rw [beq_eq_false_iff_ne]; exact hkz
          clear hkz
          go_wp2_with fail
          go_meet
          exact ⟨b, h, s, u, v, rfl, HST.out, Bel.refl _, HGF.out⟩
      case rest =>
      clear HST HGF
      obtain ⟨b, h, s, u, v, rfl, hst, hbx, hgfar⟩ := hcut
      obtain ⟨wd, rfl⟩ : ∃ w', w' = wc := ⟨_, rfl⟩
      obtain ⟨f0, f1, f2, f3⟩ := actA_cells (GB.get hbx HG9.out)
      have hga9 : get? GLaw19Act wd ⟨ga, 0, none⟩ = some x9 := GB.get hbx HG9.out
      have hgl : ga < wd.heap.size := get?_lt hga9
      rw [hp9] at f2
      obtain ⟨bb, hbb⟩ : ∃ bb, x9.bury = bb := ⟨_, rfl⟩
      rw [hbb] at f3
      have HST := Lib.hid hst
      have HGN := Lib.hid (show ¬ (footA a r q ga ∨ footA b s v ga) from hgfar)
      clear hbx hbb HG9
      cases bb
      · obtain ⟨R, hR⟩ : ∃ R, execA M (entryV x9).name.client (entryV x9).time (bytesB (bytesOf pl)) = R := ⟨_, rfl⟩
        have HRX := Lib.hid hR
        have HRN := Lib.hid (show R.2.n = ((k + 1 : Nat) : Int) by rw [← hR, execA_n, HMN.out]; push_cast; rfl)
        clear hR
        go_upto_region 18 with fail
        go_cut [74] (fun vx wx => vx = .bool false ∧ St w wx a g r p q b h s u v R.2 (2 * (k + 1)) R.2 (2 * (k + 1)))
        case rest =>
          obtain ⟨rfl, hst9⟩ := hcut
          have HST9 := Lib.hid hst9
          clear hst9 HST hga9 f0 f1 f2 f3
          go_wp2_with fail
          exact ⟨⟨k + 1, b, h, s, u, v, R.2, by omega, by omega, by go_num, rfl, HRN.out, HST9⟩, by simp [intOf]; omega⟩
        case first => as_aux_lemma =>
        refine wp_region_H GB (Chg (fun k => footA a r q k ∨ footA b s v k)) [6, 13] [] GB.rf (by kernel_rfl) ?_
        refine wpH_looks 7 15 [0,1,3,4,7,8,10,11] rfl GB.rf GB.tr (Chg.refl _) (fun _ _ _ h k => h.tr k) (fun _ _ h => Chg.of_bel h _) (by kernel_rfl) (fun _ _ _ _ hd h => And.intro (hd ▸ And.left h) (And.right h)) rfl (by kernel_rfl) ?_
        intro ι W9 hne CW
        have k1 : ∀ z, get? GLaw19Act (W9 z) ⟨ga, 0, none⟩ = some x9 := fun z => (CW.out z).get hga9 HGN.out
        have k2 : ∀ z, (W9 z).cell? ⟨ga, 2, none⟩ = some (.string pl) := fun z => (CW.out z).cell f2 HGN.out
        repeat (refine wpLooksG_step (fun K hK => ?_); go_simp; refine hK _ ?_; clear hK K)
        refine wpLooksG_nil ?_
        clear k1 k2 CW hne W9 ι hga9 f0 f1 f2 f3
        have hst := HST.out
        clear HST
        refine wpH_three 2 5 12 _ _ _ rfl rfl rfl (by kernel_rfl) rfl rfl rfl ?_ ?_ ?_
        · intro wa1 hwwa1 K hK
          have hst := hst.step (GB.undrew hwwa1)
          clear hwwa1
          go_simp
          refine (entry_any x9 _ HFX.out).mono ?_
          rintro _ wb1 ⟨rfl, hb⟩
          refine hK _ _ (fun _ => hb) (fun _ => Chg.of_bel hb _) ?_
          have hst := hst.step hb
          clear hK K hb
          refine wpH_two 5 12 _ _ rfl rfl (by kernel_rfl) rfl rfl ?_ ?_
          · intro wa2 hwwa2 K hK
            have hst := hst.step (hwwa2)
            clear hwwa2
            obtain ⟨c5, wb2, hcv, hp5, hb⟩ := conv_pay hst pl
            go_simp
            refine hK _ _ (fun _ => hb) (fun _ => Chg.of_bel hb _) ?_
            have hst := hst.step hb
            clear hK K hb hcv
            refine wpH_two 6 12 _ _ rfl rfl (by kernel_rfl) rfl rfl ?_ ?_
            · intro wa3 hwwa3 K hK
              have hst := hst.step (hwwa3)
              have hp5 := hp5.step (hwwa3)
              clear hwwa3
              go_simp
              refine (hst.exec1r (entryV x9) hp5 (by omega) (by omega) R HRX.out).mono ?_
              rintro _ wb3 ⟨rfl, hst2, hc2⟩
              refine hK _ _ (fun h => absurd (by simp) h) (fun _ => hc2) ?_
              have hst := hst2
              clear hK K hc2 hst2 hp5
              refine wpH_two 9 12 _ _ rfl rfl (by kernel_rfl) rfl rfl ?_ ?_
              · intro wa4 hwwa4 K hK
                have hst := hst.step (hwwa4)
                clear hwwa4
                go_simp
                refine (entry_any x9 _ HFX.out).mono ?_
                rintro _ wb4 ⟨rfl, hb⟩
                refine hK _ _ (fun _ => hb) (fun _ => Chg.of_bel hb _) ?_
                have hst := hst.step hb
                clear hK K hb
                refine wpH_force 12 _ rfl (by kernel_rfl) rfl fun wa5 hwwa5 K hK => ?_
                have hst := hst.step (hwwa5)
                clear hwwa5
                obtain ⟨c12, wb5, hcv, hp12, hb⟩ := conv_pay hst pl
                go_simp
                refine hK _ _ (fun _ => hb) (fun _ => Chg.of_bel hb _) ?_
                have hst := hst.step hb
                clear hK K hb hcv
                refine wpH_force 13 _ rfl (by kernel_rfl) rfl fun wa6 hwwa6 K hK => ?_
                have hst := hst.step (hwwa6)
                have hp12 := hp12.step (hwwa6)
                clear hwwa6
                go_simp
                refine (hst.exec2r (entryV x9) hp12 (by omega) (by omega) R HRX.out).mono ?_
                rintro _ wb6 ⟨rfl, hst2, hc2⟩
                refine hK _ _ (fun h => absurd (by simp) h) (fun _ => hc2) ?_
                have hst := hst2
                clear hK K hc2 hst2 hp12
                refine wpH_force 14 _ rfl (by kernel_rfl) rfl fun wa7 hwwa7 K hK => ?_
                have hst := hst.step (hwwa7)
                clear hwwa7
                go_simp
                refine hK _ _ (fun _ => GB.rf _) (fun _ => Chg.refl _ _) ?_
                clear hK K
                refine wpH_end (by kernel_rfl) (fun wn hwn => ?_) _
                have HST := Lib.hid (hst.step hwn)
                clear hst hwn
                go_wp2_with fail
                go_meet
                exact ⟨rfl, HST.out⟩
              · intro wa8 hwwa8 K hK
                have hst := hst.step (hwwa8)
                clear hwwa8
                obtain ⟨c12, wb8, hcv, hp12, hb⟩ := conv_pay hst pl
                go_simp
                refine hK _ _ (fun _ => hb) (fun _ => Chg.of_bel hb _) ?_
                have hst := hst.step hb
                clear hK K hb hcv
                refine wpH_force 9 _ rfl (by kernel_rfl) rfl fun wa9 hwwa9 K hK => ?_
                have hst := hst.step (hwwa9)
                have hp12 := hp12.step (hwwa9)
                clear hwwa9
                go_simp
                refine (entry_any x9 _ HFX.out).mono ?_
                rintro _ wb9 ⟨rfl, hb⟩
                refine hK _ _ (fun _ => hb) (fun _ => Chg.of_bel hb _) ?_
                have hst := hst.step hb
                have hp12 := hp12.step hb
                clear hK K hb
                refine wpH_force 13 _ rfl (by kernel_rfl) rfl fun wa10 hwwa10 K hK => ?_
                have hst := hst.step (hwwa10)
                have hp12 := hp12.step (hwwa10)
                clear hwwa10
                go_simp
                refine (hst.exec2r (entryV x9) hp12 (by omega) (by omega) R HRX.out).mono ?_
                rintro _ wb10 ⟨rfl, hst2, hc2⟩
                refine hK _ _ (fun h => absurd (by simp) h) (fun _ => hc2) ?_
                have hst := hst2
                clear hK K hc2 hst2 hp12
                refine wpH_force 14 _ rfl (by kernel_rfl) rfl fun wa11 hwwa11 K hK => ?_
                have hst := hst.step (hwwa11)
                clear hwwa11
                go_simp
                refine hK _ _ (fun _ => GB.rf _) (fun _ => Chg.refl _ _) ?_
                clear hK K
                refine wpH_end (by kernel_rfl) (fun wn hwn => ?_) _
                have HST := Lib.hid (hst.step hwn)
                clear hst hwn
                go_wp2_with fail
                go_meet
                exact ⟨rfl, HST.out⟩
            · intro wa12 hwwa12 K hK
              have hst := hst.step (hwwa12)
              have hp5 := hp5.step (hwwa12)
              clear hwwa12
              obtain ⟨c12, wb12, hcv, hp12, hb⟩ := conv_pay hst pl
              go_simp
              refine hK _ _ (fun _ => hb) (fun _ => Chg.of_bel hb _) ?_
              have hst := hst.step hb
              have hp5 := hp5.step hb
              clear hK K hb hcv
              refine wpH_force 6 _ rfl (by kernel_rfl) rfl fun wa13 hwwa13 K hK => ?_
              have hst := hst.step (hwwa13)
              have hp5 := hp5.step (hwwa13)
              have hp12 := hp12.step (hwwa13)
              clear hwwa13
              go_simp
              refine (hst.exec1r (entryV x9) hp5 (by omega) (by omega) R HRX.out).mono ?_
              rintro _ wb13 ⟨rfl, hst2, hc2⟩
              refine hK _ _ (fun h => absurd (by simp) h) (fun _ => hc2) ?_
              have hp12 := hp12.chg hc2
              have hst := hst2
              clear hK K hc2 hst2 hp5
              refine wpH_force 9 _ rfl (by kernel_rfl) rfl fun wa14 hwwa14 K hK => ?_
              have hst := hst.step (hwwa14)
              have hp12 := hp12.step (hwwa14)
              clear hwwa14
              go_simp
              refine (entry_any x9 _ HFX.out).mono ?_
              rintro _ wb14 ⟨rfl, hb⟩
              refine hK _ _ (fun _ => hb) (fun _ => Chg.of_bel hb _) ?_
              have hst := hst.step hb
              have hp12 := hp12.step hb
              clear hK K hb
              refine wpH_force 13 _ rfl (by kernel_rfl) rfl fun wa15 hwwa15 K hK => ?_
              have hst := hst.step (hwwa15)
              have hp12 := hp12.step (hwwa15)
              clear hwwa15
              go_simp
              refine (hst.exec2r (entryV x9) hp12 (by omega) (by omega) R HRX.out).mono ?_
              rintro _ wb15 ⟨rfl, hst2, hc2⟩
              refine hK _ _ (fun h => absurd (by simp) h) (fun _ => hc2) ?_
              have hst := hst2
              clear hK K hc2 hst2 hp12
              refine wpH_force 14 _ rfl (by kernel_rfl) rfl fun wa16 hwwa16 K hK => ?_
              have hst := hst.step (hwwa16)
              clear hwwa16
              go_simp
              refine hK _ _ (fun _ => GB.rf _) (fun _ => Chg.refl _ _) ?_
              clear hK K
              refine wpH_end (by kernel_rfl) (fun wn hwn => ?_) _
              have HST := Lib.hid (hst.step hwn)
              clear hst hwn
              go_wp2_with fail
              go_meet
              exact ⟨rfl, HST.out⟩
          · intro wa17 hwwa17 K hK
            have hst := hst.step (hwwa17)
            clear hwwa17
            obtain ⟨c12, wb17, hcv, hp12, hb⟩ := conv_pay hst pl
            go_simp
            refine hK _ _ (fun _ => hb) (fun _ => Chg.of_bel hb _) ?_
            have hst := hst.step hb
            clear hK K hb hcv
            refine wpH_force 5 _ rfl (by kernel_rfl) rfl fun wa18 hwwa18 K hK => ?_
            have hst := hst.step (hwwa18)
            have hp12 := hp12.step (hwwa18)
            clear hwwa18
            obtain ⟨c5, wb18, hcv, hp5, hb⟩ := conv_pay hst pl
            go_simp
            refine hK _ _ (fun _ => hb) (fun _ => Chg.of_bel hb _) ?_
            have hst := hst.step hb
            have hp12 := hp12.step hb
            clear hK K hb hcv
            refine wpH_force 6 _ rfl (by kernel_rfl) rfl fun wa19 hwwa19 K hK => ?_
            have hst := hst.step (hwwa19)
            have hp5 := hp5.step (hwwa19)
            have hp12 := hp12.step (hwwa19)
            clear hwwa19
            go_simp
            refine (hst.exec1r (entryV x9) hp5 (by omega) (by omega) R HRX.out).mono ?_
            rintro _ wb19 ⟨rfl, hst2, hc2⟩
            refine hK _ _ (fun h => absurd (by simp) h) (fun _ => hc2) ?_
            have hp12 := hp12.chg hc2
            have hst := hst2
            clear hK K hc2 hst2 hp5
            refine wpH_force 9 _ rfl (by kernel_rfl) rfl fun wa20 hwwa20 K hK => ?_
            have hst := hst.step (hwwa20)
            have hp12 := hp12.step (hwwa20)
            clear hwwa20
            go_simp
            refine (entry_any x9 _ HFX.out).mono ?_
            rintro _ wb20 ⟨rfl, hb⟩
            refine hK _ _ (fun _ => hb) (fun _ => Chg.of_bel hb _) ?_
            have hst := hst.step hb
            have hp12 := hp12.step hb
            clear hK K hb
            refine wpH_force 13 _ rfl (by kernel_rfl) rfl fun wa21 hwwa21 K hK => ?_
            have hst := hst.step (hwwa21)
            have hp12 := hp12.step (hwwa21)
            clear hwwa21
            go_simp
            refine (hst.exec2r (entryV x9) hp12 (by omega) (by omega) R HRX.out).mono ?_
            rintro _ wb21 ⟨rfl, hst2, hc2⟩
            refine hK _ _ (fun h => absurd (by simp) h) (fun _ => hc2) ?_
            have hst := hst2
            clear hK K hc2 hst2 hp12
            refine wpH_force 14 _ rfl (by kernel_rfl) rfl fun wa22 hwwa22 K hK => ?_
            have hst := hst.step (hwwa22)
            clear hwwa22
            go_simp
            refine hK _ _ (fun _ => GB.rf _) (fun _ => Chg.refl _ _) ?_
            clear hK K
            refine wpH_end (by kernel_rfl) (fun wn hwn => ?_) _
            have HST := Lib.hid (hst.step hwn)
            clear hst hwn
            go_wp2_with fail
            go_meet
            exact ⟨rfl, HST.out⟩
        · intro wa23 hwwa23 K hK
          have hst := hst.step (GB.undrew hwwa23)
          clear hwwa23
          obtain ⟨c5, wb23, hcv, hp5, hb⟩ := conv_pay hst pl
          go_simp
          refine hK _ _ (fun _ => hb) (fun _ => Chg.of_bel hb _) ?_
          have hst := hst.step hb
          clear hK K hb hcv
          refine wpH_two 2 12 _ _ rfl rfl (by kernel_rfl) rfl rfl ?_ ?_
          · intro wa24 hwwa24 K hK
            have hst := hst.step (hwwa24)
            have hp5 := hp5.step (hwwa24)
            clear hwwa24
            go_simp
            refine (entry_any x9 _ HFX.out).mono ?_
            rintro _ wb24 ⟨rfl, hb⟩
            refine hK _ _ (fun _ => hb) (fun _ => Chg.of_bel hb _) ?_
            have hst := hst.step hb
            have hp5 := hp5.step hb
            clear hK K hb
            refine wpH_two 6 12 _ _ rfl rfl (by kernel_rfl) rfl rfl ?_ ?_
            · intro wa25 hwwa25 K hK
              have hst := hst.step (hwwa25)
              have hp5 := hp5.step (hwwa25)
              clear hwwa25
              go_simp
              refine (hst.exec1r (entryV x9) hp5 (by omega) (by omega) R HRX.out).mono ?_
              rintro _ wb25 ⟨rfl, hst2, hc2⟩
              refine hK _ _ (fun h => absurd (by simp) h) (fun _ => hc2) ?_
              have hst := hst2
              clear hK K hc2 hst2 hp5
              refine wpH_two 9 12 _ _ rfl rfl (by kernel_rfl) rfl rfl ?_ ?_
              · intro wa26 hwwa26 K hK
                have hst := hst.step (hwwa26)
                clear hwwa26
                go_simp
                refine (entry_any x9 _ HFX.out).mono ?_
                rintro _ wb26 ⟨rfl, hb⟩
                refine hK _ _ (fun _ => hb) (fun _ => Chg.of_bel hb _) ?_
                have hst := hst.step hb
                clear hK K hb
                refine wpH_force 12 _ rfl (by kernel_rfl) rfl fun wa27 hwwa27 K hK => ?_
                have hst := hst.step (hwwa27)
                clear hwwa27
                obtain ⟨c12, wb27, hcv, hp12, hb⟩ := conv_pay hst pl
                go_simp
                refine hK _ _ (fun _ => hb) (fun _ => Chg.of_bel hb _) ?_
                have hst := hst.step hb
                clear hK K hb hcv
                refine wpH_force 13 _ rfl (by kernel_rfl) rfl fun wa28 hwwa28 K hK => ?_
                have hst := hst.step (hwwa28)
                have hp12 := hp12.step (hwwa28)
                clear hwwa28
                go_simp
                refine (hst.exec2r (entryV x9) hp12 (by omega) (by omega) R HRX.out).mono ?_
                rintro _ wb28 ⟨rfl, hst2, hc2⟩
                refine hK _ _ (fun h => absurd (by simp) h) (fun _ => hc2) ?_
                have hst := hst2
                clear hK K hc2 hst2 hp12
                refine wpH_force 14 _ rfl (by kernel_rfl) rfl fun wa29 hwwa29 K hK => ?_
                have hst := hst.step (hwwa29)
                clear hwwa29
                go_simp
                refine hK _ _ (fun _ => GB.rf _) (fun _ => Chg.refl _ _) ?_
                clear hK K
                refine wpH_end (by kernel_rfl) (fun wn hwn => ?_) _
                have HST := Lib.hid (hst.step hwn)
                clear hst hwn
                go_wp2_with fail
                go_meet
                exact ⟨rfl, HST.out⟩
              · intro wa30 hwwa30 K hK
                have hst := hst.step (hwwa30)
                clear hwwa30
                obtain ⟨c12, wb30, hcv, hp12, hb⟩ := conv_pay hst pl
                go_simp
                refine hK _ _ (fun _ => hb) (fun _ => Chg.of_bel hb _) ?_
                have hst := hst.step hb
                clear hK K hb hcv
                refine wpH_force 9 _ rfl (by kernel_rfl) rfl fun wa31 hwwa31 K hK => ?_
                have hst := hst.step (hwwa31)
                have hp12 := hp12.step (hwwa31)
                clear hwwa31
                go_simp
                refine (entry_any x9 _ HFX.out).mono ?_
                rintro _ wb31 ⟨rfl, hb⟩
                refine hK _ _ (fun _ => hb) (fun _ => Chg.of_bel hb _) ?_
                have hst := hst.step hb
                have hp12 := hp12.step hb
                clear hK K hb
                refine wpH_force 13 _ rfl (by kernel_rfl) rfl fun wa32 hwwa32 K hK => ?_
                have hst := hst.step (hwwa32)
                have hp12 := hp12.step (hwwa32)
                clear hwwa32
                go_simp
                refine (hst.exec2r (entryV x9) hp12 (by omega) (by omega) R HRX.out).mono ?_
                rintro _ wb32 ⟨rfl, hst2, hc2⟩
                refine hK _ _ (fun h => absurd (by simp) h) (fun _ => hc2) ?_
                have hst := hst2
                clear hK K hc2 hst2 hp12
                refine wpH_force 14 _ rfl (by kernel_rfl) rfl fun wa33 hwwa33 K hK => ?_
                have hst := hst.step (hwwa33)
                clear hwwa33
                go_simp
                refine hK _ _ (fun _ => GB.rf _) (fun _ => Chg.refl _ _) ?_
                clear hK K
                refine wpH_end (by kernel_rfl) (fun wn hwn => ?_) _
                have HST := Lib.hid (hst.step hwn)
                clear hst hwn
                go_wp2_with fail
                go_meet
                exact ⟨rfl, HST.out⟩
            · intro wa34 hwwa34 K hK
              have hst := hst.step (hwwa34)
              have hp5 := hp5.step (hwwa34)
              clear hwwa34
              obtain ⟨c12, wb34, hcv, hp12, hb⟩ := conv_pay hst pl
              go_simp
              refine hK _ _ (fun _ => hb) (fun _ => Chg.of_bel hb _) ?_
              have hst := hst.step hb
              have hp5 := hp5.step hb
              clear hK K hb hcv
              refine wpH_force 6 _ rfl (by kernel_rfl) rfl fun wa35 hwwa35 K hK => ?_
              have hst := hst.step (hwwa35)
              have hp5 := hp5.step (hwwa35)
              have hp12 := hp12.step (hwwa35)
              clear hwwa35
              go_simp
              refine (hst.exec1r (entryV x9) hp5 (by omega) (by omega) R HRX.out).mono ?_
              rintro _ wb35 ⟨rfl, hst2, hc2⟩
              refine hK _ _ (fun h => absurd (by simp) h) (fun _ => hc2) ?_
              have hp12 := hp12.chg hc2
              have hst := hst2
              clear hK K hc2 hst2 hp5
              refine wpH_force 9 _ rfl (by kernel_rfl) rfl fun wa36 hwwa36 K hK => ?_
              have hst := hst.step (hwwa36)
              have hp12 := hp12.step (hwwa36)
              clear hwwa36
              go_simp
              refine (entry_any x9 _ HFX.out).mono ?_
              rintro _ wb36 ⟨rfl, hb⟩
              refine hK _ _ (fun _ => hb) (fun _ => Chg.of_bel hb _) ?_
              have hst := hst.step hb
              have hp12 := hp12.step hb
              clear hK K hb
              refine wpH_force 13 _ rfl (by kernel_rfl) rfl fun wa37 hwwa37 K hK => ?_
              have hst := hst.step (hwwa37)
              have hp12 := hp12.step (hwwa37)
              clear hwwa37
              go_simp
              refine (hst.exec2r (entryV x9) hp12 (by omega) (by omega) R HRX.out).mono ?_
              rintro _ wb37 ⟨rfl, hst2, hc2⟩
              refine hK _ _ (fun h => absurd (by simp) h) (fun _ => hc2) ?_
              have hst := hst2
              clear hK K hc2 hst2 hp12
              refine wpH_force 14 _ rfl (by kernel_rfl) rfl fun wa38 hwwa38 K hK => ?_
              have hst := hst.step (hwwa38)
              clear hwwa38
              go_simp
              refine hK _ _ (fun _ => GB.rf _) (fun _ => Chg.refl _ _) ?_
              clear hK K
              refine wpH_end (by kernel_rfl) (fun wn hwn => ?_) _
              have HST := Lib.hid (hst.step hwn)
              clear hst hwn
              go_wp2_with fail
              go_meet
              exact ⟨rfl, HST.out⟩
          · intro wa39 hwwa39 K hK
            have hst := hst.step (hwwa39)
            have hp5 := hp5.step (hwwa39)
            clear hwwa39
            obtain ⟨c12, wb39, hcv, hp12, hb⟩ := conv_pay hst pl
            go_simp
            refine hK _ _ (fun _ => hb) (fun _ => Chg.of_bel hb _) ?_
            have hst := hst.step hb
            have hp5 := hp5.step hb
            clear hK K hb hcv
            refine wpH_force 2 _ rfl (by kernel_rfl) rfl fun wa40 hwwa40 K hK => ?_
            have hst := hst.step (hwwa40)
            have hp5 := hp5.step (hwwa40)
            have hp12 := hp12.step (hwwa40)
            clear hwwa40
            go_simp
            refine (entry_any x9 _ HFX.out).mono ?_
            rintro _ wb40 ⟨rfl, hb⟩
            refine hK _ _ (fun _ => hb) (fun _ => Chg.of_bel hb _) ?_
            have hst := hst.step hb
            have hp5 := hp5.step hb
            have hp12 := hp12.step hb
            clear hK K hb
            refine wpH_force 6 _ rfl (by kernel_rfl) rfl fun wa41 hwwa41 K hK => ?_
            have hst := hst.step (hwwa41)
            have hp5 := hp5.step (hwwa41)
            have hp12 := hp12.step (hwwa41)
            clear hwwa41
            go_simp
            refine (hst.exec1r (entryV x9) hp5 (by omega) (by omega) R HRX.out).mono ?_
            rintro _ wb41 ⟨rfl, hst2, hc2⟩
            refine hK _ _ (fun h => absurd (by simp) h) (fun _ => hc2) ?_
            have hp12 := hp12.chg hc2
            have hst := hst2
            clear hK K hc2 hst2 hp5
            refine wpH_force 9 _ rfl (by kernel_rfl) rfl fun wa42 hwwa42 K hK => ?_
            have hst := hst.step (hwwa42)
            have hp12 := hp12.step (hwwa42)
            clear hwwa42
            go_simp
            refine (entry_any x9 _ HFX.out).mono ?_
            rintro _ wb42 ⟨rfl, hb⟩
            refine hK _ _ (fun _ => hb) (fun _ => Chg.of_bel hb _) ?_
            have hst := hst.step hb
            have hp12 := hp12.step hb
            clear hK K hb
            refine wpH_force 13 _ rfl (by kernel_rfl) rfl fun wa43 hwwa43 K hK => ?_
            have hst := hst.step (hwwa43)
            have hp12 := hp12.step (hwwa43)
            clear hwwa43
            go_simp
            refine (hst.exec2r (entryV x9) hp12 (by omega) (by omega) R HRX.out).mono ?_
            rintro _ wb43 ⟨rfl, hst2, hc2⟩
            refine hK _ _ (fun h => absurd (by simp) h) (fun _ => hc2) ?_
            have hst := hst2
            clear hK K hc2 hst2 hp12
            refine wpH_force 14 _ rfl (by kernel_rfl) rfl fun wa44 hwwa44 K hK => ?_
            have hst := hst.step (hwwa44)
            clear hwwa44
            go_simp
            refine hK _ _ (fun _ => GB.rf _) (fun _ => Chg.refl _ _) ?_
            clear hK K
            refine wpH_end (by kernel_rfl) (fun wn hwn => ?_) _
            have HST := Lib.hid (hst.step hwn)
            clear hst hwn
            go_wp2_with fail
            go_meet
            exact ⟨rfl, HST.out⟩
        · intro wa45 hwwa45 K hK
          have hst := hst.step (GB.undrew hwwa45)
          clear hwwa45
          obtain ⟨c12, wb45, hcv, hp12, hb⟩ := conv_pay hst pl
          go_simp
          refine hK _ _ (fun _ => hb) (fun _ => Chg.of_bel hb _) ?_
          have hst := hst.step hb
          clear hK K hb hcv
          refine wpH_two 2 5 _ _ rfl rfl (by kernel_rfl) rfl rfl ?_ ?_
          · intro wa46 hwwa46 K hK
            have hst := hst.step (hwwa46)
            have hp12 := hp12.step (hwwa46)
            clear hwwa46
            go_simp
            refine (entry_any x9 _ HFX.out).mono ?_
            rintro _ wb46 ⟨rfl, hb⟩
            refine hK _ _ (fun _ => hb) (fun _ => Chg.of_bel hb _) ?_
            have hst := hst.step hb
            have hp12 := hp12.step hb
            clear hK K hb
            refine wpH_force 5 _ rfl (by kernel_rfl) rfl fun wa47 hwwa47 K hK => ?_
            have hst := hst.step (hwwa47)
            have hp12 := hp12.step (hwwa47)
            clear hwwa47
            obtain ⟨c5, wb47, hcv, hp5, hb⟩ := conv_pay hst pl
            go_simp
            refine hK _ _ (fun _ => hb) (fun _ => Chg.of_bel hb _) ?_
            have hst := hst.step hb
            have hp12 := hp12.step hb
            clear hK K hb hcv
            refine wpH_force 6 _ rfl (by kernel_rfl) rfl fun wa48 hwwa48 K hK => ?_
            have hst := hst.step (hwwa48)
            have hp5 := hp5.step (hwwa48)
            have hp12 := hp12.step (hwwa48)
            clear hwwa48
            go_simp
            refine (hst.exec1r (entryV x9) hp5 (by omega) (by omega) R HRX.out).mono ?_
            rintro _ wb48 ⟨rfl, hst2, hc2⟩
            refine hK _ _ (fun h => absurd (by simp) h) (fun _ => hc2) ?_
            have hp12 := hp12.chg hc2
            have hst := hst2
            clear hK K hc2 hst2 hp5
            refine wpH_force 9 _ rfl (by kernel_rfl) rfl fun wa49 hwwa49 K hK => ?_
            have hst := hst.step (hwwa49)
            have hp12 := hp12.step (hwwa49)
            clear hwwa49
            go_simp
            refine (entry_any x9 _ HFX.out).mono ?_
            rintro _ wb49 ⟨rfl, hb⟩
            refine hK _ _ (fun _ => hb) (fun _ => Chg.of_bel hb _) ?_
            have hst := hst.step hb
            have hp12 := hp12.step hb
            clear hK K hb
            refine wpH_force 13 _ rfl (by kernel_rfl) rfl fun wa50 hwwa50 K hK => ?_
            have hst := hst.step (hwwa50)
            have hp12 := hp12.step (hwwa50)
            clear hwwa50
            go_simp
            refine (hst.exec2r (entryV x9) hp12 (by omega) (by omega) R HRX.out).mono ?_
            rintro _ wb50 ⟨rfl, hst2, hc2⟩
            refine hK _ _ (fun h => absurd (by simp) h) (fun _ => hc2) ?_
            have hst := hst2
            clear hK K hc2 hst2 hp12
            refine wpH_force 14 _ rfl (by kernel_rfl) rfl fun wa51 hwwa51 K hK => ?_
            have hst := hst.step (hwwa51)
            clear hwwa51
            go_simp
            refine hK _ _ (fun _ => GB.rf _) (fun _ => Chg.refl _ _) ?_
            clear hK K
            refine wpH_end (by kernel_rfl) (fun wn hwn => ?_) _
            have HST := Lib.hid (hst.step hwn)
            clear hst hwn
            go_wp2_with fail
            go_meet
            exact ⟨rfl, HST.out⟩
          · intro wa52 hwwa52 K hK
            have hst := hst.step (hwwa52)
            have hp12 := hp12.step (hwwa52)
            clear hwwa52
            obtain ⟨c5, wb52, hcv, hp5, hb⟩ := conv_pay hst pl
            go_simp
            refine hK _ _ (fun _ => hb) (fun _ => Chg.of_bel hb _) ?_
            have hst := hst.step hb
            have hp12 := hp12.step hb
            clear hK K hb hcv
            refine wpH_force 2 _ rfl (by kernel_rfl) rfl fun wa53 hwwa53 K hK => ?_
            have hst := hst.step (hwwa53)
            have hp5 := hp5.step (hwwa53)
            have hp12 := hp12.step (hwwa53)
            clear hwwa53
            go_simp
            refine (entry_any x9 _ HFX.out).mono ?_
            rintro _ wb53 ⟨rfl, hb⟩
            refine hK _ _ (fun _ => hb) (fun _ => Chg.of_bel hb _) ?_
            have hst := hst.step hb
            have hp5 := hp5.step hb
            have hp12 := hp12.step hb
            clear hK K hb
            refine wpH_force 6 _ rfl (by kernel_rfl) rfl fun wa54 hwwa54 K hK => ?_
            have hst := hst.step (hwwa54)
            have hp5 := hp5.step (hwwa54)
            have hp12 := hp12.step (hwwa54)
            clear hwwa54
            go_simp
            refine (hst.exec1r (entryV x9) hp5 (by omega) (by omega) R HRX.out).mono ?_
            rintro _ wb54 ⟨rfl, hst2, hc2⟩
            refine hK _ _ (fun h => absurd (by simp) h) (fun _ => hc2) ?_
            have hp12 := hp12.chg hc2
            have hst := hst2
            clear hK K hc2 hst2 hp5
            refine wpH_force 9 _ rfl (by kernel_rfl) rfl fun wa55 hwwa55 K hK => ?_
            have hst := hst.step (hwwa55)
            have hp12 := hp12.step (hwwa55)
            clear hwwa55
            go_simp
            refine (entry_any x9 _ HFX.out).mono ?_
            rintro _ wb55 ⟨rfl, hb⟩
            refine hK _ _ (fun _ => hb) (fun _ => Chg.of_bel hb _) ?_
            have hst := hst.step hb
            have hp12 := hp12.step hb
            clear hK K hb
            refine wpH_force 13 _ rfl (by kernel_rfl) rfl fun wa56 hwwa56 K hK => ?_
            have hst := hst.step (hwwa56)
            have hp12 := hp12.step (hwwa56)
            clear hwwa56
            go_simp
            refine (hst.exec2r (entryV x9) hp12 (by omega) (by omega) R HRX.out).mono ?_
            rintro _ wb56 ⟨rfl, hst2, hc2⟩
            refine hK _ _ (fun h => absurd (by simp) h) (fun _ => hc2) ?_
            have hst := hst2
            clear hK K hc2 hst2 hp12
            refine wpH_force 14 _ rfl (by kernel_rfl) rfl fun wa57 hwwa57 K hK => ?_
            have hst := hst.step (hwwa57)
            clear hwwa57
            go_simp
            refine hK _ _ (fun _ => GB.rf _) (fun _ => Chg.refl _ _) ?_
            clear hK K
            refine wpH_end (by kernel_rfl) (fun wn hwn => ?_) _
            have HST := Lib.hid (hst.step hwn)
            clear hst hwn
            go_wp2_with fail
            go_meet
            exact ⟨rfl, HST.out⟩
      · have HMB := Lib.hid (show (settleA M (entryV x9).time).n = ((k + 1 : Nat) : Int) by show M.n + 1 = _; rw [HMN.out]; push_cast; rfl)
        go_wp2_with fail
        refine wp_region_H GB (Chg (fun k => footA a r q k ∨ footA b s v k)) [3, 7] [] GB.rf (by kernel_rfl) ?_
        refine wpH_looks 5 9 [0,1,4,5] rfl GB.rf GB.tr (Chg.refl _) (fun _ _ _ h k => h.tr k) (fun _ _ h => Chg.of_bel h _) (by kernel_rfl) (fun _ _ _ _ hd h => And.intro (hd ▸ And.left h) (And.right h)) rfl (by kernel_rfl) ?_
        intro ι W9 hne CW
        have k1 : ∀ z, get? GLaw19Act (W9 z) ⟨ga, 0, none⟩ = some x9 := fun z => (CW.out z).get hga9 HGN.out
        repeat (refine wpLooksG_step (fun K hK => ?_); go_simp; refine hK _ ?_; clear hK K)
        refine wpLooksG_nil ?_
        clear k1 CW hne W9 ι hga9 f0 f1 f2 f3
        have hst := HST.out
        clear HST
        refine wpH_force 2 _ rfl (by kernel_rfl) rfl fun wa1 hw1 K hK => ?_
        have hst := hst.step (GB.undrew hw1)
        go_simp
        refine (entry_any x9 _ HFX.out).mono ?_
        rintro _ wb1 ⟨rfl, hb1⟩
        refine hK _ _ (fun _ => hb1) (fun _ => Chg.of_bel hb1 _) ?_
        have hst := hst.step hb1
        clear hK K hb1 hw1
        refine wpH_force 3 _ rfl (by kernel_rfl) rfl fun wa2 hw2 K hK => ?_
        have hst := hst.step hw2
        go_simp
        refine (hst.bury1 (entryV x9) (by omega)).mono ?_
        rintro _ wb2 ⟨rfl, hst2, hc2⟩
        refine hK _ _ (fun h => absurd (by simp) h) (fun _ => hc2) ?_
        clear hK K hc2 hw2
        refine wpH_force 6 _ rfl (by kernel_rfl) rfl fun wa3 hw3 K hK => ?_
        have hst3 := hst2.step hw3
        go_simp
        refine (entry_any x9 _ HFX.out).mono ?_
        rintro _ wb3 ⟨rfl, hb3⟩
        refine hK _ _ (fun _ => hb3) (fun _ => Chg.of_bel hb3 _) ?_
        have hst4 := hst3.step hb3
        clear hK K hb3 hw3
        refine wpH_force 7 _ rfl (by kernel_rfl) rfl fun wa4 hw4 K hK => ?_
        have hst5 := hst4.step hw4
        go_simp
        refine (hst5.bury2 (entryV x9) (by omega)).mono ?_
        rintro _ wb4 ⟨rfl, hst6, hc6⟩
        refine hK _ _ (fun h => absurd (by simp) h) (fun _ => hc6) ?_
        clear hK K hc6 hw4
        refine wpH_force 8 _ rfl (by kernel_rfl) rfl fun wa5 hw5 K hK => ?_
        go_simp
        refine hK _ _ (fun h => GB.rf _) (fun _ => Chg.refl _ _) ?_
        clear hK K
        refine wpH_end (by kernel_rfl) (fun wn hwn => ?_) _
        have HST := Lib.hid ((hst6.step (GB.tr _ _ _ hw5 hwn)).mono (show 2 * k + 1 ≤ 2 * (k + 1) by omega) (show 2 * k + 1 ≤ 2 * (k + 1) by omega))
        clear hst hst2 hst3 hst4 hst5 hst6 hwn hw5
        go_wp2_with fail
        exact ⟨⟨k + 1, b, h, s, u, v, _, by omega, by omega, by go_num, rfl, HMB.out, HST⟩, by simp [intOf]; omega⟩
    · have HMN := Lib.hid hMn
      have hmin : (k : Int) = min (n : Int) 20 := by omega
      have hstop : (n : Int) ≤ (k : Int) ∨ ((k : Int) < (n : Int) ∧ 20 ≤ (k : Int)) := by omega
      clear hMn
      rcases hstop with hs | ⟨hs, hs2⟩
      all_goals
      go_wp2_with fail
      refine (count_any a g r p q (2 * k) M wr hst.out.one).mono ?_
      rintro _ w5 ⟨rfl, rfl⟩
      rw [HMN.out]
      go_wp2_with fail
      refine (count_any b h s u v (2 * k) M w5 hst.out.two).mono ?_
      rintro _ w6 ⟨rfl, rfl⟩
      rw [HMN.out]
      go_wp2_with fail
      refine (count_any a g r p q (2 * k) M w6 hst.out.one).mono ?_
      rintro _ w7 ⟨rfl, rfl⟩
      rw [HMN.out]
      go_wp2_with fail
      --GOAL
      refine (wakesG_any w w7 HL.out hst.out.bel).mono ?_
      rintro _ w8 ⟨rfl, hb8⟩
      have HB8 := Lib.hid (hst.out.bel.trans hb8)
      clear hb8
      go_wp2_with fail
      go_ret
      exact ⟨rfl, HB8.out⟩
end Go.Proofs.YteockodnfempfaaGreatDoor
