/- What the law of small entries computes. Conditions: those named in each theorem. -/
import Derived.Test.YteockodnfempfaaAudF
namespace Go.Proofs.Yteockodnfempfaa
open Go Go.RowKit Go.Gv

def smallE (e : GEntry) : GEntry := ⟨⟨within e.name.client 2, within e.name.seq 3⟩, default, e.time.tmod 4⟩
def smallL (xs : List GEntry) : List GEntry := (xs.take 8).map smallE
/-- Entries whose numbers fit. -/
def EntryOk (e : GEntry) : Prop := (-9223372036854775808 ≤ e.name.client ∧ e.name.client ≤ 9223372036854775807) ∧ (-9223372036854775808 ≤ e.name.seq ∧ e.name.seq ≤ 9223372036854775807) ∧ 0 ≤ e.time ∧ e.time ≤ 18446744073709551615

theorem within_is (v n r : Int) (w : World) (hr : within v n = r) (hn : n ≤ 9223372036854775807) (hv : -9223372036854775808 ≤ v) (hv2 : v ≤ 9223372036854775807) :
    Calls Try.prog 26 #[.int .i64 v, .int .i64 n] w fun e w' => e = .returned (.int .i64 r) ∧ w' = w := by
  subst hr; exact flipC (within_any v n w hn hv hv2)

set_option maxRecDepth 100000 in
set_option maxHeartbeats 1000000 in
theorem small_any (A : Option Addr) (n c : Nat) (xs : List GEntry) (w : World) (hx : Sl GEntry w w.heap.size A n xs) (hok : ∀ x ∈ xs, EntryOk x) (hn : n ≤ maxLen) :
    Calls Try.prog 21 #[.slice A n c] w fun e w' => ∃ v, e = .returned v ∧ OwnS w' w.heap.size 30 v (smallL xs) ∧ Below w.heap.size w w' := by
  unfold maxLen at hn
  have H := Lib.hid hx; clear hx
  go_enter Try.func21, Try.ntmps21
  go_wp2
  go_loopw [3, 4] (fun v i wr => ∃ (k : Nat), k ≤ n ∧ k ≤ 8 ∧ i = .int .i64 k ∧ OwnS wr w.heap.size 30 v ((xs.take k).map smallE) ∧ Below w.heap.size w wr) (fun _ i _ => 8 - (intOf i).toNat)
  case atStart => exact ⟨0, by omega, by omega, rfl, OwnS.nil _ _ _, Below.refl _ _⟩
  case round =>
    obtain ⟨k, hk, hk8, rfl, hown, hb⟩ := hrel
    have HO := Lib.hid hown; clear hown
    have HB := Lib.hid hb; clear hb
    have hsz := HB.out.size
    by_cases hlt : k < n
    · by_cases hlt8 : k < 8
      · obtain ⟨ad, x, rfl, hab, hxk, hgx⟩ := (H.out.below HB.out).at_ (k := k) hlt
        have HX := Lib.hid hxk; clear hxk
        obtain ⟨⟨hc1, hc2⟩, ⟨hs1, hs2⟩, ht1, ht2⟩ := hok x (List.mem_of_getElem? HX.out)
        change get? GEntry wr (ad.add (k * 35)) = some x at hgx
        have hnm := GEntry.at_name hgx
        have f0 := cell_zero (cell_zero (GName.at_client hnm))
        have f1 := cell_off (by omega) (GName.at_seq hnm)
        have f2 := cell_off (by omega) (GEntry.at_time hgx)
        simp only [add_block, Addr.add_zero'] at f0 f1 f2
        clear hnm hgx
        obtain ⟨r1, hr1⟩ : ∃ r, within x.name.client 2 = r := ⟨_, rfl⟩
        obtain ⟨r2, hr2⟩ : ∃ r, within x.name.seq 3 = r := ⟨_, rfl⟩
        have HR1 := Lib.hid hr1; have HR2 := Lib.hid hr2; clear hr1 hr2
        go_wp2
        obtain ⟨ι, W, hne, hW, hWs⟩ := classFam (fun w' => Below w.heap.size w w') HB.out
        obtain ⟨z0, hz0⟩ := hWs _ HB.out.drew
        have HW := Lib.hid hW; clear hW
        have HWs := Lib.hid hWs; clear hWs
        refine wp_region_looks [0,1,2,3,4,5,6,7,8,9,10,11,12,13,14,15,16,17,18,19,20,21,22] [23,24,25] W (fun z n => HWs.out _ (bdN (HW.out z) n)) z0 hz0 (by kernel_rfl) rfl rfl (by kernel_rfl) (fun _ _ _ _ hd h => And.intro (hd ▸ And.left h) (And.right h)) ?_
        clear hz0 z0
        have g0 : ∀ z, (W z).cell? (ad.add (k * 35)) = some (.int .i64 x.name.client) := fun z => by rw [← f0]; exact ((HW.out z).cell (by rw [add_block]; exact hab)).trans (HB.out.cell (by rw [add_block]; exact hab)).symm
        have g1 : ∀ z, (W z).cell? ⟨ad.block, (ad.add (k * 35)).off + 1, none⟩ = some (.int .i64 x.name.seq) := fun z => by rw [← f1]; exact ((HW.out z).cell (p := ⟨ad.block, _, none⟩) hab).trans (HB.out.cell (p := ⟨ad.block, _, none⟩) hab).symm
        have g2 : ∀ z, (W z).cell? ⟨ad.block, (ad.add (k * 35)).off + 34, none⟩ = some (.int .u64 x.time) := fun z => by rw [← f2]; exact ((HW.out z).cell (p := ⟨ad.block, _, none⟩) hab).trans (HB.out.cell (p := ⟨ad.block, _, none⟩) hab).symm
        clear f0 f1 f2
        repeat (refine wpLooks_step (fun K hK => ?_); go_simp; refine hK _ ?_; clear hK K)
        refine wpLooks_step (fun K hK => ?_); go_simp
        refine ⟨_, fun z => (within_is x.name.client 2 r1 (W z) HR1.out (by omega) (by omega) (by omega)).mono (fun e w'' h => ⟨h.1, 0, h.2⟩), hK _ ?_⟩
        clear hK K
        repeat (refine wpLooks_step (fun K hK => ?_); go_simp; refine hK _ ?_; clear hK K)
        refine wpLooks_step (fun K hK => ?_); go_simp
        refine ⟨_, fun z => (within_is x.name.seq 3 r2 (W z) HR2.out (by omega) (by omega) (by omega)).mono (fun e w'' h => ⟨h.1, 0, h.2⟩), hK _ ?_⟩
        clear hK K
        repeat (refine wpLooks_step (fun K hK => ?_); go_simp; refine hK _ ?_; clear hK K)
        refine wpLooks_nil ?_
        have hEnc : ∃ cs : Array Value, cs = (Enc.enc (smallE x)).toArray := ⟨_, rfl⟩
        refine rest_build1 rfl _ rfl ei22 (by decide) (smallE x) ?_ ?_ fun n1 => ?_
        · have e1 := HR1.out; have e2 := HR2.out
          subst e1 e2; rfl
        · exact fun n1 => HWs.out _ ((bdN HB.out.drew n1).alloc (by simpa using hsz) _)
        have hB1 := (bdN HB.out.drew n1).alloc (by simpa using hsz) (.cells (Enc.enc (smallE x)).toArray 30)
        have hown1 : OwnS ((wr.drew.drewN n1).alloc (.cells (Enc.enc (smallE x)).toArray 30)) w.heap.size 30 u3 ((xs.take k).map smallE) := ((HO.out.drew).drewN n1).alloc _
        have hlen : ((xs.take k).map smallE).length = k := by rw [List.length_map, List.length_take, H.out.1]; omega
        refine rest_append_S rfl _ _ rfl ei22 rfl hown1 rfl (Sl.new_ (B := wr.heap.size + 1) (xs := [smallE x]) (by simp) rfl rfl (by simp)) (by rw [hlen]; unfold maxLen; omega) (by rw [hlen]; omega) (by simp; omega) ?_ fun n2 v' w' ho' hg' _ => ?_
        · exact fun n2 w' hg' => HWs.out _ (Gv.Below.appS (bdN hB1 n2) hg' (hown1.drewN n2) (Nat.le_refl _) (by simp; omega))
        have hB2 := Gv.Below.appS (bdN hB1 n2) hg' (hown1.drewN n2) (Nat.le_refl _) (by simp; omega)
        refine rest_assign rfl _ rfl (fun n3 => HWs.out _ (bdN hB2 n3)) fun n3 => ?_
        refine wpRest_nil fun n4 => ?_
        have hB3 := bdN (bdN hB2 n3) n4
        have ho3 := (ho'.drewN n3).drewN n4
        have happ : (xs.take k).map smallE ++ [smallE x] = (xs.take (k + 1)).map smallE := by
          rw [List.take_add_one, HX.out, List.map_append]; rfl
        rw [happ] at ho3
        clear ho' hg' hB1 hB2 hown1 hEnc g0 g1 g2
        have HB3 := Lib.hid hB3; have HO3 := Lib.hid ho3; clear hB3 ho3
        go_wp2
        exact ⟨⟨k + 1, by omega, by omega, by simp, HO3.out, World.drewN_drewN w' n3 n4 ▸ HB3.out⟩, by simp [intOf]; omega⟩
      · go_wp2
        have hk8' : k = 8 := by omega
        subst hk8'
        go_ret
        exact ⟨u3, rfl, HO.out, HB.out⟩
    · go_wp2
      have e : smallL xs = (xs.take k).map smallE := by
        unfold smallL
        rw [List.take_of_length_le (by rw [H.out.1]; omega), List.take_of_length_le (by rw [H.out.1]; omega)]
      go_ret
      exact ⟨u3, rfl, e ▸ HO.out, HB.out⟩

end Go.Proofs.Yteockodnfempfaa
