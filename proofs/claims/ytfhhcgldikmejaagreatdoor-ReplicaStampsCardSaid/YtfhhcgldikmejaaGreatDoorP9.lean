/- Two lists of plain messages that are alike are the same. Conditions: those named in each theorem. -/
import Derived.Test.YtfhhcgldikmejaaGreatDoorP5
/- Two plain messages that are alike are the same. Conditions: those named in each theorem. -/
namespace Go.Proofs.YtfhhcgldikmejaaGreatDoor
open Go Go.RowKit Go.Gv Go.Proofs

set_option maxRecDepth 100000 in
theorem sameStamp0 (w : World) : Calls Tryz.prog 125 #[.slice none 0 0, .slice none 0 0] w fun e w' => e = .returned (.bool true) ∧ w' = w := by
  go_enter Tryz.func125, Tryz.ntmps125
  go_wp2_with fail
  go_loopw [5] (fun iv wr => iv = .int .i64 0 ∧ wr = w) (fun _ _ => 0)
  case atStart => exact ⟨rfl, rfl⟩
  case round =>
    obtain ⟨rfl, rfl⟩ := hrel
    go_wp2_with fail
    go_ret
    exact ⟨rfl, rfl⟩
set_option maxRecDepth 100000 in
theorem certs0 (w : World) : Calls Tryz.prog 126 #[.slice none 0 0, .slice none 0 0] w fun e w' => e = .returned (.bool true) ∧ w' = w := by
  go_enter Tryz.func126, Tryz.ntmps126
  go_wp2_with fail
  go_loopw [13] (fun iv wr => iv = .int .i64 0 ∧ wr = w) (fun _ _ => 0)
  case atStart => exact ⟨rfl, rfl⟩
  case round =>
    obtain ⟨rfl, rfl⟩ := hrel
    go_wp2_with fail
    go_ret
    exact ⟨rfl, rfl⟩
set_option maxRecDepth 100000 in
theorem sameByte0 (w : World) : Calls Tryz.prog 127 #[.slice none 0 0, .slice none 0 0] w fun e w' => e = .returned (.bool true) ∧ w' = w := by
  go_enter Tryz.func127, Tryz.ntmps127
  go_wp2_with fail
  go_loopw [5] (fun iv wr => iv = .int .i64 0 ∧ wr = w) (fun _ _ => 0)
  case atStart => exact ⟨rfl, rfl⟩
  case round =>
    obtain ⟨rfl, rfl⟩ := hrel
    go_wp2_with fail
    go_ret
    exact ⟨rfl, rfl⟩
set_option maxRecDepth 100000 in
theorem openings0 (w : World) : Calls Tryz.prog 128 #[.slice none 0 0, .slice none 0 0] w fun e w' => e = .returned (.bool true) ∧ w' = w := by
  go_enter Tryz.func128, Tryz.ntmps128
  go_wp2_with fail
  go_loopw [13] (fun iv wr => iv = .int .i64 0 ∧ wr = w) (fun _ _ => 0)
  case atStart => exact ⟨rfl, rfl⟩
  case round =>
    obtain ⟨rfl, rfl⟩ := hrel
    go_wp2_with fail
    go_ret
    exact ⟨rfl, rfl⟩
set_option maxRecDepth 100000 in
theorem tombs0 (w : World) : Calls Tryz.prog 129 #[.slice none 0 0, .slice none 0 0] w fun e w' => e = .returned (.bool true) ∧ w' = w := by
  go_enter Tryz.func129, Tryz.ntmps129
  go_wp2_with fail
  go_loopw [13] (fun iv wr => iv = .int .i64 0 ∧ wr = w) (fun _ _ => 0)
  case atStart => exact ⟨rfl, rfl⟩
  case round =>
    obtain ⟨rfl, rfl⟩ := hrel
    go_wp2_with fail
    go_ret
    exact ⟨rfl, rfl⟩
set_option maxRecDepth 100000 in
theorem sameVote0 (w : World) : Calls Tryz.prog 73 #[.slice none 0 0, .slice none 0 0] w fun e w' => e = .returned (.bool true) ∧ w' = w := by
  go_enter Tryz.func73, Tryz.ntmps73
  go_wp2_with fail
  go_loopw [5] (fun iv wr => iv = .int .i64 0 ∧ wr = w) (fun _ _ => 0)
  case atStart => exact ⟨rfl, rfl⟩
  case round =>
    obtain ⟨rfl, rfl⟩ := hrel
    go_wp2_with fail
    go_ret
    exact ⟨rfl, rfl⟩
set_option maxRecDepth 100000 in
set_option maxHeartbeats 2000000 in
theorem sameCert_any (x : GCert) (w : World) (h : x.stamps = ⟨none, 0, 0⟩) : Calls Tryz.prog 68 #[x.val, x.val] w fun e w' => e = .returned (.bool true) ∧ Bel w w' := by
  have c1 : get? GCert ((w.alloc (.cells (GCert.enc x).toArray 44)).alloc (.cells (GCert.enc x).toArray 44)) ⟨w.heap.size, 0, none⟩ = some x := get?_alloc _ (get?_new _ _)
  have c2 : get? GCert ((w.alloc (.cells (GCert.enc x).toArray 44)).alloc (.cells (GCert.enc x).toArray 44)) ⟨w.heap.size + 1, 0, none⟩ = some x := by
    have := get?_new (w := w.alloc (.cells (GCert.enc x).toArray 44)) 44 x
    rwa [World.size_alloc] at this
  have HB := Lib.hid (((Bel.refl w).alloc (.cells (GCert.enc x).toArray 44)).alloc (.cells (GCert.enc x).toArray 44))
  go_enter Tryz.func68, Tryz.ntmps68
  go_upto_region 1 with fail
  generalize ((w.alloc (.cells (GCert.enc x).toArray 44)).alloc (.cells (GCert.enc x).toArray 44)) = wa at c1 c2 HB ⊢
  have k0 := GCert.at_commit c1
  have k1 := GCert.at_commit c2
  have k2 := GCert.at_stamps c1
  have k3 := GCert.at_stamps c2
  simp only [Addr.add_lit, Nat.zero_add, Nat.add_zero] at k0 k1 k2 k3
  rw [h] at k2 k3
  unfold Hdr.val at k2 k3
  go_wp2_with fail
  refine (sameStamp0 wa).mono ?_
  rintro _ wa' ⟨rfl, hw⟩
  obtain rfl : wa = wa' := hw.symm
  clear hw
  go_wp2_with fail
  go_ret
  exact ⟨rfl, HB.out⟩
set_option maxRecDepth 100000 in
set_option maxHeartbeats 2000000 in
theorem samePromise_any (x : GPromise) (w : World) (h : x.certs = ⟨none, 0, 0⟩) : Calls Tryz.prog 69 #[x.val, x.val] w fun e w' => e = .returned (.bool true) ∧ Bel w w' := by
  have c1 : get? GPromise ((w.alloc (.cells (GPromise.enc x).toArray 49)).alloc (.cells (GPromise.enc x).toArray 49)) ⟨w.heap.size, 0, none⟩ = some x := get?_alloc _ (get?_new _ _)
  have c2 : get? GPromise ((w.alloc (.cells (GPromise.enc x).toArray 49)).alloc (.cells (GPromise.enc x).toArray 49)) ⟨w.heap.size + 1, 0, none⟩ = some x := by
    have := get?_new (w := w.alloc (.cells (GPromise.enc x).toArray 49)) 49 x
    rwa [World.size_alloc] at this
  have HB := Lib.hid (((Bel.refl w).alloc (.cells (GPromise.enc x).toArray 49)).alloc (.cells (GPromise.enc x).toArray 49))
  go_enter Tryz.func69, Tryz.ntmps69
  go_upto_region 1 with fail
  generalize ((w.alloc (.cells (GPromise.enc x).toArray 49)).alloc (.cells (GPromise.enc x).toArray 49)) = wa at c1 c2 HB ⊢
  have k0 := GPromise.at_replica c1
  have k1 := GPromise.at_replica c2
  have k2 := GPromise.at_epoch c1
  have k3 := GPromise.at_epoch c2
  have k4 := GPromise.at_floor c1
  have k5 := GPromise.at_floor c2
  have k6 := GPromise.at_certs c1
  have k7 := GPromise.at_certs c2
  have k8 := GPromise.at_sig c1
  have k9 := GPromise.at_sig c2
  simp only [Addr.add_lit, Nat.zero_add, Nat.add_zero] at k0 k1 k2 k3 k4 k5 k6 k7 k8 k9
  rw [h] at k6 k7
  unfold Hdr.val at k6 k7
  go_wp2_with fail
  refine (certs0 wa).mono ?_
  rintro _ wa' ⟨rfl, hw⟩
  obtain rfl : wa = wa' := hw.symm
  clear hw
  go_wp2_with fail
  go_ret
  exact ⟨rfl, HB.out⟩
set_option maxRecDepth 100000 in
set_option maxHeartbeats 2000000 in
theorem sameOpening_any (x : GOpening) (w : World) (h : x.payload = ⟨none, 0, 0⟩) : Calls Tryz.prog 71 #[x.val, x.val] w fun e w' => e = .returned (.bool true) ∧ Bel w w' := by
  have c1 : get? GOpening ((w.alloc (.cells (GOpening.enc x).toArray 63)).alloc (.cells (GOpening.enc x).toArray 63)) ⟨w.heap.size, 0, none⟩ = some x := get?_alloc _ (get?_new _ _)
  have c2 : get? GOpening ((w.alloc (.cells (GOpening.enc x).toArray 63)).alloc (.cells (GOpening.enc x).toArray 63)) ⟨w.heap.size + 1, 0, none⟩ = some x := by
    have := get?_new (w := w.alloc (.cells (GOpening.enc x).toArray 63)) 63 x
    rwa [World.size_alloc] at this
  have HB := Lib.hid (((Bel.refl w).alloc (.cells (GOpening.enc x).toArray 63)).alloc (.cells (GOpening.enc x).toArray 63))
  go_enter Tryz.func71, Tryz.ntmps71
  go_upto_region 1 with fail
  generalize ((w.alloc (.cells (GOpening.enc x).toArray 63)).alloc (.cells (GOpening.enc x).toArray 63)) = wa at c1 c2 HB ⊢
  have k0 := GOpening.at_index c1
  have k1 := GOpening.at_index c2
  have k2 := GOpening.at_payload c1
  have k3 := GOpening.at_payload c2
  have k4 := GOpening.at_nonce c1
  have k5 := GOpening.at_nonce c2
  simp only [Addr.add_lit, Nat.zero_add, Nat.add_zero] at k0 k1 k2 k3 k4 k5
  rw [h] at k2 k3
  unfold Hdr.val at k2 k3
  go_wp2_with fail
  refine (sameByte0 wa).mono ?_
  rintro _ wa' ⟨rfl, hw⟩
  obtain rfl : wa = wa' := hw.symm
  clear hw
  go_wp2_with fail
  go_ret
  exact ⟨rfl, HB.out⟩
set_option maxRecDepth 100000 in
set_option maxHeartbeats 2000000 in
theorem sameBatch_any (x : GBatch) (w : World) (h : PlainB x) : Calls Tryz.prog 72 #[x.val, x.val] w fun e w' => e = .returned (.bool true) ∧ Bel w w' := by
  have c1 : get? GBatch ((w.alloc (.cells (GBatch.enc x).toArray 54)).alloc (.cells (GBatch.enc x).toArray 54)) ⟨w.heap.size, 0, none⟩ = some x := get?_alloc _ (get?_new _ _)
  have c2 : get? GBatch ((w.alloc (.cells (GBatch.enc x).toArray 54)).alloc (.cells (GBatch.enc x).toArray 54)) ⟨w.heap.size + 1, 0, none⟩ = some x := by
    have := get?_new (w := w.alloc (.cells (GBatch.enc x).toArray 54)) 54 x
    rwa [World.size_alloc] at this
  have HB := Lib.hid (((Bel.refl w).alloc (.cells (GBatch.enc x).toArray 54)).alloc (.cells (GBatch.enc x).toArray 54))
  go_enter Tryz.func72, Tryz.ntmps72
  go_upto_region 1 with fail
  generalize ((w.alloc (.cells (GBatch.enc x).toArray 54)).alloc (.cells (GBatch.enc x).toArray 54)) = wa at c1 c2 HB ⊢
  have k0 := GBatch.at_epoch c1
  have k1 := GBatch.at_epoch c2
  have k2 := GBatch.at_time c1
  have k3 := GBatch.at_time c2
  have k4 := GBatch.at_promises c1
  have k5 := GBatch.at_promises c2
  have k6 := GBatch.at_openings c1
  have k7 := GBatch.at_openings c2
  have k8 := GBatch.at_tombs c1
  have k9 := GBatch.at_tombs c2
  simp only [Addr.add_lit, Nat.zero_add, Nat.add_zero] at k0 k1 k2 k3 k4 k5 k6 k7 k8 k9
  rw [h.p] at k4 k5
  rw [h.o] at k6 k7
  rw [h.t] at k8 k9
  unfold Hdr.val at k4 k5 k6 k7 k8 k9
  go_wp2_with fail
  refine (openings0 wa).mono ?_
  rintro _ wa' ⟨rfl, hw⟩
  obtain rfl : wa = wa' := hw.symm
  clear hw
  go_wp2_with fail
  refine (tombs0 wa).mono ?_
  rintro _ wa' ⟨rfl, hw⟩
  obtain rfl : wa = wa' := hw.symm
  clear hw
  go_wp2_with fail
  go_loopw [46] (fun iv wr => iv = .int .i64 0 ∧ wr = wa) (fun _ _ => 0)
  case atStart => exact ⟨rfl, rfl⟩
  case round =>
    obtain ⟨rfl, rfl⟩ := hrel
    go_wp2_with fail
    go_ret
    exact ⟨rfl, HB.out⟩
set_option maxRecDepth 100000 in
set_option maxHeartbeats 2000000 in
theorem sameProposal_any (x : GProposal) (w : World) (h : PlainB x.batch) : Calls Tryz.prog 70 #[x.val, x.val] w fun e w' => e = .returned (.bool true) ∧ Bel w w' := by
  have c1 : get? GProposal ((w.alloc (.cells (GProposal.enc x).toArray 56)).alloc (.cells (GProposal.enc x).toArray 56)) ⟨w.heap.size, 0, none⟩ = some x := get?_alloc _ (get?_new _ _)
  have c2 : get? GProposal ((w.alloc (.cells (GProposal.enc x).toArray 56)).alloc (.cells (GProposal.enc x).toArray 56)) ⟨w.heap.size + 1, 0, none⟩ = some x := by
    have := get?_new (w := w.alloc (.cells (GProposal.enc x).toArray 56)) 56 x
    rwa [World.size_alloc] at this
  have HB := Lib.hid (((Bel.refl w).alloc (.cells (GProposal.enc x).toArray 56)).alloc (.cells (GProposal.enc x).toArray 56))
  go_enter Tryz.func70, Tryz.ntmps70
  go_upto_region 1 with fail
  generalize ((w.alloc (.cells (GProposal.enc x).toArray 56)).alloc (.cells (GProposal.enc x).toArray 56)) = wa at c1 c2 HB ⊢
  have k0 := GProposal.at_epoch c1
  have k1 := GProposal.at_epoch c2
  have k2 := GProposal.at_round c1
  have k3 := GProposal.at_round c2
  have k4 := GProposal.at_valid c1
  have k5 := GProposal.at_valid c2
  have k6 := GProposal.at_replica c1
  have k7 := GProposal.at_replica c2
  have k8 := GProposal.at_batch c1
  have k9 := GProposal.at_batch c2
  have k10 := GProposal.at_sig c1
  have k11 := GProposal.at_sig c2
  simp only [Addr.add_lit, Nat.zero_add, Nat.add_zero] at k0 k1 k2 k3 k4 k5 k6 k7 k8 k9 k10 k11
  go_wp2_with fail
  refine (sameBatch_any x.batch wa h).mono ?_
  rintro _ wb ⟨rfl, hb⟩
  have HB2 := Lib.hid (HB.out.trans hb)
  clear hb
  go_wp2_with fail
  go_ret
  exact ⟨rfl, HB2.out⟩
set_option maxRecDepth 100000 in
set_option maxHeartbeats 8000000 in
theorem sameMsg_any (x : GMsg) (w : World) (h : PlainM x) : Calls Tryz.prog 32 #[x.val, x.val] w fun e w' => e = .returned (.bool true) ∧ Bel w w' := by
  have c1 : get? GMsg ((w.alloc (.cells (GMsg.enc x).toArray 70)).alloc (.cells (GMsg.enc x).toArray 70)) ⟨w.heap.size, 0, none⟩ = some x := get?_alloc _ (get?_new _ _)
  have c2 : get? GMsg ((w.alloc (.cells (GMsg.enc x).toArray 70)).alloc (.cells (GMsg.enc x).toArray 70)) ⟨w.heap.size + 1, 0, none⟩ = some x := by
    have := get?_new (w := w.alloc (.cells (GMsg.enc x).toArray 70)) 70 x
    rwa [World.size_alloc] at this
  have HB := Lib.hid (((Bel.refl w).alloc (.cells (GMsg.enc x).toArray 70)).alloc (.cells (GMsg.enc x).toArray 70))
  go_enter Tryz.func32, Tryz.ntmps32
  go_upto_region 1 with fail
  generalize ((w.alloc (.cells (GMsg.enc x).toArray 70)).alloc (.cells (GMsg.enc x).toArray 70)) = wa at c1 c2 HB ⊢
  obtain ⟨q, hq⟩ : ∃ q, w.heap.size = q := ⟨_, rfl⟩
  rw [hq] at c1 c2 ⊢
  clear hq
  have k0 := GMsg.at_kind c1
  have k1 := GMsg.at_from_ c1
  have k2 := GMsg.at_to c1
  have k3 := GMsg.at_commit c1
  have k4 := GMsg.at_stamp c1
  have k5 := GMsg.at_cert c1
  have k6 := GMsg.at_ack c1
  have k7 := GMsg.at_epoch c1
  have k8 := GMsg.at_round c1
  have k9 := GMsg.at_time c1
  have k10 := GMsg.at_promise c1
  have k11 := GMsg.at_proposal c1
  have k12 := GMsg.at_vote c1
  have k13 := GMsg.at_index c1
  have k14 := GMsg.at_entry c1
  have k15 := GMsg.at_opening c1
  have k16 := GMsg.at_deny c1
  have k17 := GMsg.at_reply c1
  have kd := GMsg.at_decided c1
  have k18 := GDecided.at_epoch kd
  have k19 := GDecided.at_round kd
  have k20 := GDecided.at_batch kd
  have k21 := GDecided.at_votes kd
  clear kd
  have k22 := GMsg.at_kind c2
  have k23 := GMsg.at_from_ c2
  have k24 := GMsg.at_to c2
  have k25 := GMsg.at_commit c2
  have k26 := GMsg.at_stamp c2
  have k27 := GMsg.at_cert c2
  have k28 := GMsg.at_ack c2
  have k29 := GMsg.at_epoch c2
  have k30 := GMsg.at_round c2
  have k31 := GMsg.at_time c2
  have k32 := GMsg.at_promise c2
  have k33 := GMsg.at_proposal c2
  have k34 := GMsg.at_vote c2
  have k35 := GMsg.at_index c2
  have k36 := GMsg.at_entry c2
  have k37 := GMsg.at_opening c2
  have k38 := GMsg.at_deny c2
  have k39 := GMsg.at_reply c2
  have kd := GMsg.at_decided c2
  have k40 := GDecided.at_epoch kd
  have k41 := GDecided.at_round kd
  have k42 := GDecided.at_batch kd
  have k43 := GDecided.at_votes kd
  clear kd
  simp only [Addr.add_lit, Nat.zero_add, Nat.add_zero] at k0 k1 k2 k3 k4 k5 k6 k7 k8 k9 k10 k11 k12 k13 k14 k15 k16 k17 k18 k19 k20 k21 k22 k23 k24 k25 k26 k27 k28 k29 k30 k31 k32 k33 k34 k35 k36 k37 k38 k39 k40 k41 k42 k43
  rw [h.v] at k21 k43
  unfold Hdr.val at k21 k43
  clear c1 c2
  go_wp2_with fail
  refine (sameCert_any x.cert wa h.c).mono ?_
  rintro _ wb ⟨rfl, hb⟩
  have HB2 := Lib.hid (HB.out.trans hb)
  have k6 := GB.get hb k6
  have k28 := GB.get hb k28
  have k7 := GB.cell hb k7
  have k29 := GB.cell hb k29
  have k8 := GB.cell hb k8
  have k30 := GB.cell hb k30
  have k9 := GB.cell hb k9
  have k31 := GB.cell hb k31
  have k10 := GB.get hb k10
  have k32 := GB.get hb k32
  have k11 := GB.get hb k11
  have k33 := GB.get hb k33
  have k12 := GB.get hb k12
  have k34 := GB.get hb k34
  have k13 := GB.cell hb k13
  have k35 := GB.cell hb k35
  have k14 := GB.get hb k14
  have k36 := GB.get hb k36
  have k15 := GB.get hb k15
  have k37 := GB.get hb k37
  have k16 := GB.get hb k16
  have k38 := GB.get hb k38
  have k17 := GB.cell hb k17
  have k39 := GB.cell hb k39
  have k18 := GB.cell hb k18
  have k40 := GB.cell hb k40
  have k19 := GB.cell hb k19
  have k41 := GB.cell hb k41
  have k20 := GB.get hb k20
  have k42 := GB.get hb k42
  have k21 := GB.cell hb k21
  have k43 := GB.cell hb k43
  clear hb HB
  go_wp2_with fail
  refine (samePromise_any x.promise wb h.p).mono ?_
  rintro _ wc ⟨rfl, hb⟩
  have HB22 := Lib.hid (HB2.out.trans hb)
  have k11 := GB.get hb k11
  have k33 := GB.get hb k33
  have k12 := GB.get hb k12
  have k34 := GB.get hb k34
  have k13 := GB.cell hb k13
  have k35 := GB.cell hb k35
  have k14 := GB.get hb k14
  have k36 := GB.get hb k36
  have k15 := GB.get hb k15
  have k37 := GB.get hb k37
  have k16 := GB.get hb k16
  have k38 := GB.get hb k38
  have k17 := GB.cell hb k17
  have k39 := GB.cell hb k39
  have k18 := GB.cell hb k18
  have k40 := GB.cell hb k40
  have k19 := GB.cell hb k19
  have k41 := GB.cell hb k41
  have k20 := GB.get hb k20
  have k42 := GB.get hb k42
  have k21 := GB.cell hb k21
  have k43 := GB.cell hb k43
  clear hb HB2
  go_wp2_with fail
  refine (sameProposal_any x.proposal wc h.b).mono ?_
  rintro _ wd ⟨rfl, hb⟩
  have HB222 := Lib.hid (HB22.out.trans hb)
  have k12 := GB.get hb k12
  have k34 := GB.get hb k34
  have k13 := GB.cell hb k13
  have k35 := GB.cell hb k35
  have k14 := GB.get hb k14
  have k36 := GB.get hb k36
  have k15 := GB.get hb k15
  have k37 := GB.get hb k37
  have k16 := GB.get hb k16
  have k38 := GB.get hb k38
  have k17 := GB.cell hb k17
  have k39 := GB.cell hb k39
  have k18 := GB.cell hb k18
  have k40 := GB.cell hb k40
  have k19 := GB.cell hb k19
  have k41 := GB.cell hb k41
  have k20 := GB.get hb k20
  have k42 := GB.get hb k42
  have k21 := GB.cell hb k21
  have k43 := GB.cell hb k43
  clear hb HB22
  go_wp2_with fail
  refine (sameOpening_any x.opening wd h.o).mono ?_
  rintro _ we ⟨rfl, hb⟩
  have HB2222 := Lib.hid (HB222.out.trans hb)
  have k16 := GB.get hb k16
  have k38 := GB.get hb k38
  have k17 := GB.cell hb k17
  have k39 := GB.cell hb k39
  have k18 := GB.cell hb k18
  have k40 := GB.cell hb k40
  have k19 := GB.cell hb k19
  have k41 := GB.cell hb k41
  have k20 := GB.get hb k20
  have k42 := GB.get hb k42
  have k21 := GB.cell hb k21
  have k43 := GB.cell hb k43
  clear hb HB222
  go_wp2_with fail
  refine (sameBatch_any x.decided.batch we h.d).mono ?_
  rintro _ wf ⟨rfl, hb⟩
  have HB22222 := Lib.hid (HB2222.out.trans hb)
  have k21 := GB.cell hb k21
  have k43 := GB.cell hb k43
  clear hb HB2222
  go_wp2_with fail
  refine (sameVote0 wf).mono ?_
  rintro _ wf' ⟨rfl, hw⟩
  obtain rfl : wf = wf' := hw.symm
  clear hw
  go_wp2_with fail
  go_ret
  exact ⟨rfl, HB22222.out⟩
end Go.Proofs.YtfhhcgldikmejaaGreatDoor
/- Two lists of plain messages that are alike are the same. Conditions: those named in each theorem. -/
namespace Go.Proofs.YtfhhcgldikmejaaGreatDoor
open Go Go.RowKit Go.Gv Go.Proofs

set_option maxRecDepth 100000 in
set_option maxHeartbeats 4000000 in
theorem sameMsgs_any (A A' : Option Addr) (n c c' : Nat) (ys : List GMsg) (w : World) (hx : Sl GMsg w w.heap.size A n ys) (hy : Sl GMsg w w.heap.size A' n ys) (hp : ∀ m ∈ ys, PlainM m) (hn : n ≤ 1000) :
    Calls Tryz.prog 14 #[.slice A n c, .slice A' n c'] w fun e w' => e = .returned (.bool true) ∧ Bel w w' := by
  have HX := Lib.hid hx; have HY := Lib.hid hy; have HP := Lib.hid hp
  clear hx hy hp
  go_enter Tryz.func14, Tryz.ntmps14
  go_wp2_with fail
  go_loopw [13] (fun iv wr => ∃ k : Nat, k ≤ n ∧ iv = .int .i64 k ∧ Hid (Bel w wr)) (fun iv _ => n - (intOf iv).toNat)
  case atStart => exact ⟨0, by omega, rfl, Lib.hid (Bel.refl _)⟩
  case round =>
    obtain ⟨k, hk, rfl, hb⟩ := hrel
    by_cases hlt : k < n
    · obtain ⟨ad, x, rfl, _, hx0, hg⟩ := (HX.out.stepB hb.out).at_ (k := k) hlt
      obtain ⟨ad', y, rfl, _, hy0, hg'⟩ := (HY.out.stepB hb.out).at_ (k := k) hlt
      obtain rfl : x = y := by rw [hx0] at hy0; injection hy0
      have hpl := HP.out x (List.mem_of_getElem? hx0)
      rw [show Enc.n GMsg = 295 from rfl] at hg hg'
      clear hx0 hy0
      go_wp2_with fail
      refine wp_region_G GB [] GB.rf (by kernel_rfl) ?_
      refine wpG_looks 2 24 [0, 1, 2, 3, 4, 5, 6, 7] rfl GB.rf GB.tr (by kernel_rfl) (fun _ _ _ _ hd h => And.intro (hd ▸ And.left h) (And.right h)) rfl (by kernel_rfl) ?_
      intro ι W9 hne CW
      have y0 := fun z => GB.get (CW.out z) hg
      have y1 := fun z => GB.get (CW.out z) hg'
      repeat (refine wpLooksG_step (fun K hK => ?_); go_simp; refine hK _ ?_; clear hK K)
      refine wpLooksG_nil ?_
      clear y0 y1 CW hne W9 ι
      refine wpG_force 8 _ rfl (by kernel_rfl) rfl fun wa hwa K hK => ?_
      go_simp
      refine (sameMsg_any x wa hpl).mono ?_
      rintro _ wb ⟨rfl, hbb⟩
      refine hK _ _ (fun _ => hbb) ?_
      have HB1 := Lib.hid (hb.out.trans ((GB.undrew hwa).trans hbb))
      clear hK K hbb hwa
      refine wpG_force 9 _ rfl (by kernel_rfl) rfl fun wa' hwa' K hK => ?_
      go_simp
      refine hK _ _ (fun _ => GB.rf _) ?_
      clear hK K
      refine wpG_end (by kernel_rfl) (fun wn hwn => ?_) _
      have HB2 := Lib.hid (HB1.out.trans (GB.tr _ _ _ hwa' hwn))
      clear hwn hwa'
      go_wp2_with fail
      exact ⟨⟨k + 1, by omega, by go_num, HB2⟩, by simp only [intOf]; omega⟩
    · obtain rfl : k = n := by omega
      go_wp2_with fail
      go_ret
      exact ⟨rfl, hb.out⟩
end Go.Proofs.YtfhhcgldikmejaaGreatDoor
