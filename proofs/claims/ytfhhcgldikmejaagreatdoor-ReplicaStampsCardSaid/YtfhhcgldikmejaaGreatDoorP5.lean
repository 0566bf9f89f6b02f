/- A replica's ask. Conditions: those named in each theorem. -/
import Derived.Test.YtfhhcgldikmejaaGreatDoorP4
import Derived.Test.YtfhhcgldikmejaaGreatDoorP3
import Derived.RangeFuncNested
import Derived.RangeFuncBox
import Derived.RangeFuncLeaves
import Derived.RangeFuncWrites
import Derived.Shelf.Abstract
import Derived.WalkKit
import Derived.OwnWalkIn
import Derived.TacticsInMore
import Derived.LoopNIn
import Derived.LoopIn
import Derived.Maps.AppendAt
import Derived.Test.YtfhhcgldikmejaaGreatDoorP2
import Derived.Deep.CutBlock
/- What is signed, as bytes. Conditions: those named in each theorem. -/
namespace Go.Proofs.YtfhhcgldikmejaaGreatDoor
open Go Go.RowKit Go.Gv Go.Proofs

/-- A writer on its way through a region that began at ws; S: what may be changed. -/
structure WrAt (w0 ws : World) (S : Nat → Prop) (w : World) (p : Nat) (acc : List U8) : Prop where
  is : WrIs w0 w p acc
  foot : ∀ k, wrFoot w p k → S k
  new : ∀ k, ws.heap.size ≤ k → S k
  chg : Chg S ws w
section
variable {w0 ws w w' : World} {S : Nat → Prop} {p : Nat} {acc acc' : List U8}
theorem WrAt.step (h : WrAt w0 ws S w p acc) (hb : Bel w w') : WrAt w0 ws S w' p acc :=
  ⟨h.is.step hb, fun _ hk => h.foot _ (wrFoot_bel h.is hb hk), h.new, h.chg.tr (Chg.of_bel hb _)⟩
theorem WrAt.did (h : WrAt w0 ws S w p acc) (hd : WrDid w0 w p acc' w') : WrAt w0 ws S w' p acc' ∧ Chg S w w' :=
  ⟨⟨hd.is, fun k hk => by
    rcases hd.foot k hk with h1 | h1
    · exact h.foot k h1
    · exact h.new k (Nat.le_trans h.chg.size h1), h.new, h.chg.tr (hd.chg.sub h.foot)⟩, hd.chg.sub h.foot⟩
theorem WrAt.start (h : WrIs w0 w p acc) : WrAt w0 w (fun k => wrFoot w p k ∨ w.heap.size ≤ k) w p acc := ⟨h, fun _ hk => .inl hk, fun _ hk => .inr hk, Chg.refl _ _⟩
theorem WrAt.ends (h : WrAt w0 ws (fun k => wrFoot ws p k ∨ ws.heap.size ≤ k) w p acc) : WrDid w0 ws p acc w :=
  ⟨h.is, ⟨h.chg.os, h.chg.tape, h.chg.output, h.chg.size, fun k hk hn => h.chg.block k hk (by rintro (h1 | h1); exact hn h1; omega)⟩, h.foot⟩
end
theorem bytes_is (n : Nat) (w0 : World) (p : Nat) (bs : List U8) (w : World) (hn : bs.length = n) (h : WrIs w0 w p bs) (hl : bs.length ≤ 800000000) :
    Calls Tryz.prog 139 #[.pointer (some ⟨p, 0, none⟩)] w fun e w' => ∃ (A : Option Addr) (c : Nat), e = .returned (.slice A n c) ∧ Sl U8 w' w'.heap.size A n bs ∧ Bel w w' ∧ (∀ ad, A = some ad → w.heap.size ≤ ad.block) := by subst hn; exact bytes_any w0 p bs w h hl
theorem flat_bytes : ∀ l : List UInt8, (l.map U8.mk).flatMap Enc.enc = l.map fun b => Value.int .u8 b.toNat
  | [] => rfl
  | b :: l => by rw [List.map_cons, List.flatMap_cons, flat_bytes l]; rfl
theorem rowL_le {l : List U8} (h : l.length ≤ 1000) : (rowL l).length ≤ 1010 := by
  unfold rowL
  rw [List.length_append]
  have := intL_le (n := (l.length : Int)) (by omega)
  omega
theorem bytesL_len (s : ByteArray) : (bytesL s).length = s.size := by unfold bytesL; simp
theorem conv_str (w : World) (s : ByteArray) :
    ∃ (c : Nat) (w' : World), (convert 9 61 (.string s)).run Tryz.prog w = .ok (.slice (some ⟨w.heap.size, 0, none⟩) s.size c) w' ∧ Sl U8 w' w'.heap.size (some ⟨w.heap.size, 0, none⟩) s.size (bytesL s) ∧ Bel w w' := by
  refine ⟨_, _, run_bytes_of_string (P := Tryz.prog) w 9 61 5 s (by kernel_rfl) (by kernel_rfl) (by kernel_rfl), Sl.of_row (heap_alloc_new w.drew _) ?_ (bytesL_len s) (by simp), (Bel.refl w).drew.alloc _⟩
  unfold bytesRow bytesL
  rw [flat_bytes, Array.toList_append, Array.toList_map]
  rw [show s.size * Enc.n U8 = (s.data.toList.map fun b => Value.int .u8 b.toNat).length by simp [show Enc.n U8 = 1 from rfl]]
  rw [List.take_left']
  rfl
set_option maxRecDepth 100000 in
set_option maxHeartbeats 400000 in
theorem text_any (w0 w : World) (hb : Bel w0 w) (s : ByteArray) (hs : s.size ≤ 1000) :
    Calls Tryz.prog 137 #[.string s] w fun e w' => ∃ p : Nat, e = .returned (.pointer (some ⟨p, 0, none⟩)) ∧ WrIs w0 w' p (rowL (bytesL s)) ∧ Bel w w' ∧ (∀ k, wrFoot w' p k → w.heap.size ≤ k) := by
  go_enter Tryz.func137, Tryz.ntmps137
  go_wp2_with fail
  refine (newWriter_any w0 w hb).mono ?_
  rintro _ w1 ⟨p, rfl, hp, hW, hb1, hF⟩
  obtain ⟨c, w2, hcv, hs2, hb2⟩ := conv_str w1 s
  have HW := Lib.hid (hW.step hb2)
  have HNF := Lib.hid (show ∀ ad : Addr, some (⟨w1.heap.size, 0, none⟩ : Addr) = some ad → ¬ wrFoot w2 p ad.block from fun ad e hk => by
    injection e with e; subst e
    rcases wrFoot_bel hW hb2 hk with h | ⟨hd, h1, h2⟩
    · have := get?_lt (hW.own.choose_spec.1); simp only at h this; omega
    · obtain ⟨hd', g1, g2, _⟩ := hW.own
      have e1 := Option.some.inj (h1.symm.trans g1)
      have := (g2.lt _ (by rw [show hd' = hd by injection e1 with e1; exact e1.symm]; exact h2)).2
      simp only at this; omega)
  have HF := Lib.hid (show ∀ k, wrFoot w2 p k → w.heap.size ≤ k from fun k hk => hF k (wrFoot_bel hW hb2 hk))
  have HB := Lib.hid (hb1.trans hb2)
  have HS := Lib.hid hs2
  clear hW hb1 hb2 hF hs2 hp
  go_wp2_with fail
  refine (row_any w0 p [] _ s.size c (bytesL s) w2 HW.out HS.out HNF.out (by omega) (by simp)).mono ?_
  rintro _ w3 ⟨rfl, hd⟩
  have HD := Lib.hid hd
  clear hd
  go_wp2_with fail
  go_ret
  refine ⟨p, rfl, HD.out.is, Chg.bel2 HB.out HD.out.chg (fun k hk => HF.out k hk), fun k hk => ?_⟩
  rcases HD.out.foot k hk with h | h
  · exact HF.out k h
  · exact Nat.le_trans HB.out.size h
theorem box_apart {w0 w : World} {p : Nat} {bs : List U8} (h : WrIs w0 w p bs) (o : Obj) : ¬ (wrFoot (w.alloc o) p w.heap.size ∨ (w.alloc o).heap.size ≤ w.heap.size) := by
  have hz : (w.alloc o).heap.size = w.heap.size + 1 := by simp
  rintro (hk | hk)
  · obtain ⟨hd', g1, g2, _⟩ := h.own
    rcases wrFoot_bel h ((Bel.refl w).alloc o) hk with h | ⟨hd, a1, a2⟩
    · have := get?_lt g1; simp only at this; omega
    · have e1 := Option.some.inj (a1.symm.trans g1)
      have := (g2.lt _ (by rw [show hd' = hd by injection e1 with e1; exact e1.symm]; exact a2)).2
      omega
  · omega
set_option maxRecDepth 100000 in
set_option maxHeartbeats 1000000 in
theorem putName_any (w0 : World) (p : Nat) (bs : List U8) (x : GName) (w : World) (h : WrIs w0 w p bs) (hl : bs.length ≤ 700000000) (h1 : x.client ≤ 9223372036854775807) (h2 : x.seq ≤ 9223372036854775807) :
    Calls Tryz.prog 196 #[.pointer (some ⟨p, 0, none⟩), x.val] w fun e w' => e = .returned (.tuple #[]) ∧ WrDid w0 w p (bs ++ intL x.client ++ intL x.seq) w' := by
  have HG := Lib.hid (get?_new (w := w) 33 x)
  have HB := Lib.hid ((Bel.refl w).alloc (.cells (GName.enc x).toArray 33))
  have HN := Lib.hid (box_apart h (.cells (GName.enc x).toArray 33))
  have HW := Lib.hid h
  have l1 := intL_le h1; have l2 := intL_le h2
  clear h
  go_enter Tryz.func196, Tryz.ntmps196
  go_wp2_with fail
  change Hid (get? GName (w.alloc (.cells (GName.enc x).toArray 33)) ⟨w.heap.size, 0, none⟩ = some x) at HG
  generalize w.alloc (.cells (GName.enc x).toArray 33) = wr at HG HB HN ⊢
  have HA := Lib.hid (WrAt.start (HW.out.step HB.out))
  obtain ⟨g, hg⟩ : ∃ g, w.heap.size = g := ⟨_, rfl⟩
  rw [hg] at HG HN ⊢
  refine wp_region_H GB (Chg (fun k => wrFoot wr p k ∨ wr.heap.size ≤ k)) [3, 6] [] GB.rf (by kernel_rfl) ?_
  refine wpH_looks 2 7 [0, 1, 2, 4, 5] rfl GB.rf GB.tr (Chg.refl _) (fun _ _ _ h k => h.tr k) (fun _ _ h => Chg.of_bel h _) (by kernel_rfl) (fun _ _ _ _ hd h => And.intro (hd ▸ And.left h) (And.right h)) rfl (by kernel_rfl) ?_
  intro ι W hne CW
  have k0 := GName.at_client HG.out
  simp only [Addr.add_lit, Nat.zero_add] at k0
  have j0 := fun z => (CW.out z).cell k0 (HN.out)
  have k1 := GName.at_seq HG.out
  simp only [Addr.add_lit, Nat.zero_add] at k1
  have j1 := fun z => (CW.out z).cell k1 (HN.out)
  clear k0 k1
  repeat (refine wpLooksG_step (fun K hK => ?_); go_simp; refine hK _ ?_; clear hK K)
  refine wpLooksG_nil ?_
  clear j0 j1 CW hne W ι
  refine wpH_force 3 _ rfl (by kernel_rfl) rfl fun wa hwa K hK => ?_
  go_simp
  have ha := HA.out.step (GB.undrew hwa)
  refine (int_any w0 p bs x.client wa ha.is h1 (by first | omega | (simp only [List.length_append]; omega))).mono ?_
  rintro _ wb ⟨rfl, hd⟩
  obtain ⟨hA2, hc⟩ := ha.did hd
  refine hK _ _ (fun h => absurd (by simp) h) (fun _ => hc) ?_
  clear HA
  have HA := Lib.hid hA2
  clear hK K hd hA2 hc hwa ha wa
  refine wpH_force 6 _ rfl (by kernel_rfl) rfl fun wa hwa K hK => ?_
  go_simp
  have ha := HA.out.step (hwa)
  refine (int_any w0 p (bs ++ intL x.client) x.seq wa ha.is h2 (by first | omega | (simp only [List.length_append]; omega))).mono ?_
  rintro _ wb ⟨rfl, hd⟩
  obtain ⟨hA2, hc⟩ := ha.did hd
  refine hK _ _ (fun h => absurd (by simp) h) (fun _ => hc) ?_
  clear HA
  have HA := Lib.hid hA2
  clear hK K hd hA2 hc hwa ha wa
  refine wpH_end (by kernel_rfl) (fun wn hwn => ?_) _
  have HD := Lib.hid (WrDid.bel HW.out HB.out (HA.out.step hwn).ends)
  clear hwn HA
  go_wp2_with fail
  refine bodyPost_end (results_none rfl _ _ _) rfl ?_
  exact ⟨rfl, HD.out⟩
def voteText (x : GVote) : List U8 := rowL (bytesL ⟨#[118, 111, 116, 101]⟩) ++ intL x.kind ++ intL x.epoch ++ intL x.round ++ intL x.replica ++ hashL x.hash
def stampText (tm : Nat) (x : GStamp) : List U8 := rowL (bytesL ⟨#[115, 116, 97, 109, 112]⟩) ++ intL x.replica ++ intL x.name.client ++ intL x.name.seq ++ hashL x.hash ++ numL tm
def promiseText0 (tm : Nat) (x : GPromise) : List U8 := rowL (bytesL ⟨#[112, 114, 111, 109, 105, 115, 101]⟩) ++ intL x.replica ++ intL x.epoch ++ numL tm ++ intL 0
set_option maxRecDepth 100000 in
set_option maxHeartbeats 2000000 in
theorem stampText_any (x : GStamp) (w : World) (h1 : x.replica ≤ 9223372036854775807) (h2 : x.name.client ≤ 9223372036854775807) (h3 : x.name.seq ≤ 9223372036854775807) (tm : Nat) (htm : x.time = (tm : Int)) (ht1 : tm < 18446744073709551616) :
    Calls Tryz.prog 143 #[x.val] w fun e w' => ∃ (A : Option Addr) (c : Nat), e = .returned (.slice A (stampText tm x).length c) ∧ Sl U8 w' w'.heap.size A (stampText tm x).length (stampText tm x) ∧ Bel w w' := by
  have HG := Lib.hid (get?_new (w := w) 41 x)
  have HB := Lib.hid ((Bel.refl w).alloc (.cells (GStamp.enc x).toArray 41))
  have HN := Lib.hid (show ¬ (w.alloc (.cells (GStamp.enc x).toArray 41)).heap.size ≤ w.heap.size by simp)
  have l1 := intL_le h1
  have l2 := intL_le h2
  have l3 := intL_le h3
  have l4 := hashL_len x.hash
  have l5 := numL_le ht1
  have HTM := Lib.hid htm
  obtain ⟨n, hn⟩ : ∃ n, (stampText tm x).length = n := ⟨_, rfl⟩
  have HL := Lib.hid hn
  clear hn
  have l0 := rowL_le (l := bytesL ⟨#[115, 116, 97, 109, 112]⟩) (by rw [bytesL_len]; decide)
  go_enter Tryz.func143, Tryz.ntmps143
  go_wp2_with fail
  change Hid (get? GStamp (w.alloc (.cells (GStamp.enc x).toArray 41)) ⟨w.heap.size, 0, none⟩ = some x) at HG
  generalize w.alloc (.cells (GStamp.enc x).toArray 41) = ws at HG HB HN ⊢
  obtain ⟨g, hg⟩ : ∃ g, w.heap.size = g := ⟨_, rfl⟩
  rw [hg] at HG HN ⊢
  have HBS := HB
  refine wp_region_H GB (Chg (fun k => ws.heap.size ≤ k)) [0, 3, 4] [] GB.rf (by kernel_rfl) ?_
  refine wpH_looks 3 5 [1, 2] rfl GB.rf GB.tr (Chg.refl _) (fun _ _ _ h k => h.tr k) (fun _ _ h => Chg.of_bel h _) (by kernel_rfl) (fun _ _ _ _ hd h => And.intro (hd ▸ And.left h) (And.right h)) rfl (by kernel_rfl) ?_
  intro ι W hne CW
  have k0 := GStamp.at_replica HG.out
  simp only [Addr.add_lit, Nat.zero_add] at k0
  have j0 := fun z => (CW.out z).cell k0 (HN.out)
  clear k0
  repeat (refine wpLooksG_step (fun K hK => ?_); go_simp; refine hK _ ?_; clear hK K)
  refine wpLooksG_nil ?_
  clear j0 CW hne W ι
  refine wpH_force 0 _ rfl (by kernel_rfl) rfl fun wa hwa K hK => ?_
  go_simp
  refine (text_any ws wa (GB.undrew hwa) ⟨#[115, 116, 97, 109, 112]⟩ (by decide)).mono ?_
  rintro _ wb ⟨p, rfl, hW, hb, hF⟩
  refine hK _ _ (fun h => absurd (by simp) h) (fun _ => Chg.of_bel hb _) ?_
  have HA := Lib.hid (show WrAt ws ws (fun k => ws.heap.size ≤ k) wb p (rowL (bytesL (⟨#[115, 116, 97, 109, 112]⟩ : ByteArray))) from ⟨hW, fun k hk => Nat.le_trans (GB.undrew hwa).size (hF k hk), fun _ h => h, Chg.of_bel ((GB.undrew hwa).trans hb) _⟩)
  clear hK K hW hb hF hwa wa
  refine wpH_force 3 _ rfl (by kernel_rfl) rfl fun wa hwa K hK => ?_
  go_simp
  have ha := HA.out.step (hwa)
  refine (int_any ws p (rowL (bytesL (⟨#[115, 116, 97, 109, 112]⟩ : ByteArray))) x.replica wa ha.is h1 (by first | omega | (simp only [List.length_append]; omega))).mono ?_
  rintro _ wb ⟨rfl, hd⟩
  obtain ⟨hA2, hc⟩ := ha.did hd
  refine hK _ _ (fun h => absurd (by simp) h) (fun _ => hc) ?_
  clear HA
  have HA := Lib.hid hA2
  clear hK K hd hA2 hc hwa ha wa
  refine wpH_force 4 _ rfl (by kernel_rfl) rfl fun wa hwa K hK => ?_
  go_simp
  refine hK _ _ (fun h => absurd (by simp) h) (fun _ => Chg.refl _ _) ?_
  clear hK K
  refine wpH_end (by kernel_rfl) (fun wn hwn => ?_) _
  have HA2 := Lib.hid ((HA.out.step hwa).step hwn)
  have HBN := Lib.hid (HA.out.is.bel.trans (GB.tr _ _ _ hwa hwn))
  clear hwn hwa HA
  have n1 := GStamp.at_name HG.out
  simp only [Addr.add_lit, Nat.zero_add] at n1
  have n2 := GB.get HBN.out n1
  go_wp2_with fail
  refine (putName_any ws p (rowL (bytesL (⟨#[115, 116, 97, 109, 112]⟩ : ByteArray)) ++ intL x.replica) x.name wn HA2.out.is (by first | omega | (simp only [List.length_append]; omega)) h2 h3).mono ?_
  rintro _ wp2 ⟨rfl, hd⟩
  have HI := Lib.hid hd.is
  have HA3 := Lib.hid (HA2.out.did hd).1
  clear hd n1 n2 HA2
  have hp2 : Bel ws wp2 := HI.out.bel
  have HBP := Lib.hid hp2
  clear hp2
  go_wp2_with fail
  have HNP := Lib.hid (show ¬ wp2.heap.size ≤ g from fun h => HN.out (Nat.le_trans HBP.out.size h))
  have HGP := Lib.hid (GB.get HBP.out HG.out)
  have HA := HA3
  clear htm
  refine wp_region_H GB (Chg (fun k => ws.heap.size ≤ k)) [3, 6, 7, 8] [] GB.rf (by kernel_rfl) ?_
  refine wpH_looks 4 9 [0, 1, 2, 4, 5] rfl GB.rf GB.tr (Chg.refl _) (fun _ _ _ h k => h.tr k) (fun _ _ h => Chg.of_bel h _) (by kernel_rfl) (fun _ _ _ _ hd h => And.intro (hd ▸ And.left h) (And.right h)) rfl (by kernel_rfl) ?_
  intro ι W hne CW
  have k0 := GStamp.at_hash HGP.out
  simp only [Addr.add_lit, Nat.zero_add] at k0
  have j0 := fun z => (CW.out z).get k0 (HN.out)
  have k1 := GStamp.at_time HGP.out
  simp only [Addr.add_lit, Nat.zero_add] at k1
  rw [HTM.out] at k1
  have j1 := fun z => (CW.out z).cell k1 (HN.out)
  clear k0 k1
  repeat (refine wpLooksG_step (fun K hK => ?_); go_simp; refine hK _ ?_; clear hK K)
  refine wpLooksG_nil ?_
  clear j0 j1 CW hne W ι
  refine wpH_force 3 _ rfl (by kernel_rfl) rfl fun wa hwa K hK => ?_
  go_simp
  have ha := HA.out.step (GB.undrew hwa)
  refine (hash_any ws p (rowL (bytesL (⟨#[115, 116, 97, 109, 112]⟩ : ByteArray)) ++ intL x.replica ++ intL x.name.client ++ intL x.name.seq) x.hash wa ha.is (by first | omega | (simp only [List.length_append]; omega))).mono ?_
  rintro _ wb ⟨rfl, hd⟩
  obtain ⟨hA2, hc⟩ := ha.did hd
  refine hK _ _ (fun h => absurd (by simp) h) (fun _ => hc) ?_
  clear HA
  have HA := Lib.hid hA2
  clear hK K hd hA2 hc hwa ha wa
  refine wpH_force 6 _ rfl (by kernel_rfl) rfl fun wa hwa K hK => ?_
  go_simp
  have ha := HA.out.step (hwa)
  refine (num_any ws p (rowL (bytesL (⟨#[115, 116, 97, 109, 112]⟩ : ByteArray)) ++ intL x.replica ++ intL x.name.client ++ intL x.name.seq ++ hashL x.hash) tm wa ha.is ht1 (by first | omega | (simp only [List.length_append]; omega))).mono ?_
  rintro _ wb ⟨rfl, hd⟩
  obtain ⟨hA2, hc⟩ := ha.did hd
  refine hK _ _ (fun h => absurd (by simp) h) (fun _ => hc) ?_
  clear HA
  have HA := Lib.hid hA2
  clear hK K hd hA2 hc hwa ha wa
  refine wpH_force 7 _ rfl (by kernel_rfl) rfl fun wa hwa K hK => ?_
  go_simp
  have ha := HA.out.step (hwa)
  refine (bytes_is n ws p (rowL (bytesL (⟨#[115, 116, 97, 109, 112]⟩ : ByteArray)) ++ intL x.replica ++ intL x.name.client ++ intL x.name.seq ++ hashL x.hash ++ numL tm) wa HL.out ha.is (by first | omega | (simp only [List.length_append]; omega))).mono ?_
  rintro _ wb ⟨A, c, rfl, hs, hb, -⟩
  refine hK _ _ (fun h => absurd (by simp) h) (fun _ => Chg.of_bel hb _) ?_
  have HS := Lib.hid hs; have HBW := Lib.hid (ha.is.bel.trans hb)
  clear hK K hs hb ha HA hwa
  refine wpH_force 8 _ rfl (by kernel_rfl) rfl fun wa hwa K hK => ?_
  go_simp
  refine hK _ _ (fun h => absurd (by simp) h) (fun _ => Chg.refl _ _) ?_
  clear hK K
  refine wpH_end (by kernel_rfl) (fun wn2 hwn2 => ?_) _
  have HSN := Lib.hid (HS.out.stepB (GB.tr _ _ _ hwa hwn2)); have HBN2 := Lib.hid ((HB.out.trans HBW.out).trans (GB.tr _ _ _ hwa hwn2))
  clear hwn2 hwa HS HBW
  go_wp2_with fail
  go_ret
  have hn := HL.out
  subst hn
  exact ⟨A, c, rfl, HSN.out, HBN2.out⟩
set_option maxRecDepth 100000 in
set_option maxHeartbeats 1000000 in
theorem putList0_any (w0 : World) (p : Nat) (bs : List U8) (f : Value) (w : World) (h : WrIs w0 w p bs) (hl : bs.length ≤ 700000000) :
    Calls Tryz.prog 203 #[.pointer (some ⟨p, 0, none⟩), .slice none 0 0, f] w fun e w' => e = .returned (.tuple #[]) ∧ WrDid w0 w p (bs ++ intL 0) w' := by
  have HW := Lib.hid h
  clear h
  go_enter Tryz.func203, Tryz.ntmps203
  go_wp2_with fail
  refine (int_any w0 p bs 0 w HW.out (by omega) (by omega)).mono ?_
  rintro _ w1 ⟨rfl, hd⟩
  have HD := Lib.hid hd
  clear hd
  go_wp2_with fail
  go_loopw [14] (fun iv wr => iv = .int .i64 0 ∧ wr = w1) (fun _ _ => 0)
  case atStart => exact ⟨rfl, rfl⟩
  case round =>
    obtain ⟨rfl, rfl⟩ := hrel
    go_wp2_with fail
    refine bodyPost_end (results_none rfl _ _ _) rfl ?_
    exact ⟨rfl, HD.out⟩
set_option maxRecDepth 100000 in
set_option maxHeartbeats 2000000 in
theorem promiseText_any (x : GPromise) (w : World) (h1 : x.replica ≤ 9223372036854775807) (h2 : x.epoch ≤ 9223372036854775807) (tm : Nat) (htm : x.floor = (tm : Int)) (ht1 : tm < 18446744073709551616) (hc : x.certs = ⟨none, 0, 0⟩) :
    Calls Tryz.prog 151 #[x.val] w fun e w' => ∃ (A : Option Addr) (c : Nat), e = .returned (.slice A (promiseText0 tm x).length c) ∧ Sl U8 w' w'.heap.size A (promiseText0 tm x).length (promiseText0 tm x) ∧ Bel w w' := by
  have HG := Lib.hid (get?_new (w := w) 49 x)
  have HB := Lib.hid ((Bel.refl w).alloc (.cells (GPromise.enc x).toArray 49))
  have HN := Lib.hid (show ¬ (w.alloc (.cells (GPromise.enc x).toArray 49)).heap.size ≤ w.heap.size by simp)
  have l1 := intL_le h1
  have l2 := intL_le h2
  have l3 := numL_le ht1
  have l4 := intL_le (n := 0) (by omega)
  have HTM := Lib.hid htm
  have HC := Lib.hid hc
  obtain ⟨n, hn⟩ : ∃ n, (promiseText0 tm x).length = n := ⟨_, rfl⟩
  have HL := Lib.hid hn
  clear hn
  have l0 := rowL_le (l := bytesL ⟨#[112, 114, 111, 109, 105, 115, 101]⟩) (by rw [bytesL_len]; decide)
  go_enter Tryz.func151, Tryz.ntmps151
  go_wp2_with fail
  change Hid (get? GPromise (w.alloc (.cells (GPromise.enc x).toArray 49)) ⟨w.heap.size, 0, none⟩ = some x) at HG
  generalize w.alloc (.cells (GPromise.enc x).toArray 49) = ws at HG HB HN ⊢
  obtain ⟨g, hg⟩ : ∃ g, w.heap.size = g := ⟨_, rfl⟩
  rw [hg] at HG HN ⊢
  have HBS := HB
  clear hc
  refine wp_region_H GB (Chg (fun k => ws.heap.size ≤ k)) [0, 3, 6, 9, 10] [] GB.rf (by kernel_rfl) ?_
  refine wpH_looks 5 11 [1, 2, 4, 5, 7, 8] rfl GB.rf GB.tr (Chg.refl _) (fun _ _ _ h k => h.tr k) (fun _ _ h => Chg.of_bel h _) (by kernel_rfl) (fun _ _ _ _ hd h => And.intro (hd ▸ And.left h) (And.right h)) rfl (by kernel_rfl) ?_
  intro ι W hne CW
  clear htm
  have k0 := GPromise.at_replica HG.out
  simp only [Addr.add_lit, Nat.zero_add] at k0
  have j0 := fun z => (CW.out z).cell k0 (HN.out)
  have k1 := GPromise.at_epoch HG.out
  simp only [Addr.add_lit, Nat.zero_add] at k1
  have j1 := fun z => (CW.out z).cell k1 (HN.out)
  have k2 := GPromise.at_floor HG.out
  simp only [Addr.add_lit, Nat.zero_add] at k2
  rw [HTM.out] at k2
  have j2 := fun z => (CW.out z).cell k2 (HN.out)
  clear k0 k1 k2
  repeat (refine wpLooksG_step (fun K hK => ?_); go_simp; refine hK _ ?_; clear hK K)
  refine wpLooksG_nil ?_
  clear j0 j1 j2 CW hne W ι
  refine wpH_force 0 _ rfl (by kernel_rfl) rfl fun wa hwa K hK => ?_
  go_simp
  refine (text_any ws wa (GB.undrew hwa) ⟨#[112, 114, 111, 109, 105, 115, 101]⟩ (by decide)).mono ?_
  rintro _ wb ⟨p, rfl, hW, hb, hF⟩
  refine hK _ _ (fun h => absurd (by simp) h) (fun _ => Chg.of_bel hb _) ?_
  have HA := Lib.hid (show WrAt ws ws (fun k => ws.heap.size ≤ k) wb p (rowL (bytesL (⟨#[112, 114, 111, 109, 105, 115, 101]⟩ : ByteArray))) from ⟨hW, fun k hk => Nat.le_trans (GB.undrew hwa).size (hF k hk), fun _ h => h, Chg.of_bel ((GB.undrew hwa).trans hb) _⟩)
  clear hK K hW hb hF hwa wa
  refine wpH_force 3 _ rfl (by kernel_rfl) rfl fun wa hwa K hK => ?_
  go_simp
  have ha := HA.out.step (hwa)
  refine (int_any ws p (rowL (bytesL (⟨#[112, 114, 111, 109, 105, 115, 101]⟩ : ByteArray))) x.replica wa ha.is h1 (by first | omega | (simp only [List.length_append]; omega))).mono ?_
  rintro _ wb ⟨rfl, hd⟩
  obtain ⟨hA2, hc⟩ := ha.did hd
  refine hK _ _ (fun h => absurd (by simp) h) (fun _ => hc) ?_
  clear HA
  have HA := Lib.hid hA2
  clear hK K hd hA2 hc hwa ha wa
  refine wpH_force 6 _ rfl (by kernel_rfl) rfl fun wa hwa K hK => ?_
  go_simp
  have ha := HA.out.step (hwa)
  refine (int_any ws p (rowL (bytesL (⟨#[112, 114, 111, 109, 105, 115, 101]⟩ : ByteArray)) ++ intL x.replica) x.epoch wa ha.is h2 (by first | omega | (simp only [List.length_append]; omega))).mono ?_
  rintro _ wb ⟨rfl, hd⟩
  obtain ⟨hA2, hc⟩ := ha.did hd
  refine hK _ _ (fun h => absurd (by simp) h) (fun _ => hc) ?_
  clear HA
  have HA := Lib.hid hA2
  clear hK K hd hA2 hc hwa ha wa
  refine wpH_force 9 _ rfl (by kernel_rfl) rfl fun wa hwa K hK => ?_
  go_simp
  have ha := HA.out.step (hwa)
  refine (num_any ws p (rowL (bytesL (⟨#[112, 114, 111, 109, 105, 115, 101]⟩ : ByteArray)) ++ intL x.replica ++ intL x.epoch) tm wa ha.is ht1 (by first | omega | (simp only [List.length_append]; omega))).mono ?_
  rintro _ wb ⟨rfl, hd⟩
  obtain ⟨hA2, hc⟩ := ha.did hd
  refine hK _ _ (fun h => absurd (by simp) h) (fun _ => hc) ?_
  clear HA
  have HA := Lib.hid hA2
  clear hK K hd hA2 hc hwa ha wa
  refine wpH_force 10 _ rfl (by kernel_rfl) rfl fun wa hwa K hK => ?_
  go_simp
  refine hK _ _ (fun h => absurd (by simp) h) (fun _ => Chg.refl _ _) ?_
  clear hK K
  refine wpH_end (by kernel_rfl) (fun wn hwn => ?_) _
  have HA2 := Lib.hid ((HA.out.step hwa).step hwn)
  have HBN := Lib.hid (HA.out.is.bel.trans (GB.tr _ _ _ hwa hwn))
  clear hwn hwa HA
  have n1 := GPromise.at_certs HG.out
  simp only [Addr.add_lit, Nat.zero_add] at n1
  rw [HC.out] at n1
  have n2 := GB.cell HBN.out n1
  go_wp2_with fail
  refine (putList0_any ws p (rowL (bytesL (⟨#[112, 114, 111, 109, 105, 115, 101]⟩ : ByteArray)) ++ intL x.replica ++ intL x.epoch ++ numL tm) _ wn HA2.out.is (by first | omega | (simp only [List.length_append]; omega))).mono ?_
  rintro _ wp2 ⟨rfl, hd⟩
  have HI := Lib.hid hd.is
  clear hd n1 n2 HA2
  go_wp2_with fail
  refine (bytes_is n ws p (rowL (bytesL (⟨#[112, 114, 111, 109, 105, 115, 101]⟩ : ByteArray)) ++ intL x.replica ++ intL x.epoch ++ numL tm ++ intL 0) wp2 HL.out HI.out (by first | omega | (simp only [List.length_append]; omega))).mono ?_
  rintro _ wb ⟨A, c, rfl, hs, hb, -⟩
  have HS := Lib.hid hs; have HBW := Lib.hid ((HB.out.trans HI.out.bel).trans hb)
  clear hs hb
  go_wp2_with fail
  go_ret
  have hn := HL.out
  subst hn
  exact ⟨A, c, rfl, HS.out, HBW.out⟩
end Go.Proofs.YtfhhcgldikmejaaGreatDoor
/- The keys of an empty map, collected and sorted: none. Conditions: those named in each theorem. -/
namespace Go.Proofs.YtfhhcgldikmejaaGreatDoor
open Go Go.Proofs Go.RowKit Go.Shelf Go.Gv

attribute [local go_sem] Oper.semAt_some

set_option maxRecDepth 100000 in
set_option maxHeartbeats 2000000 in
theorem keys0N_in (F : Fence) (n : Nat) (h7 : F.fn 266) (hro : F.round = none) (_hn : 1 ≤ n) (l Bs r : Nat) (J : List Empty → World → Prop)
    (W : World) (hJ : AbidesFrom W.heap.size J) (hBs : W.cell? ⟨Bs, 0, none⟩ = some (.map (some r))) (hm : mapAt GName GCert W r = some []) (h0 : J [] W) :
    CallsIn F n Tryz.prog 266 #[.func (.yield l) #[] #[], .pointer (some ⟨Bs, 0, none⟩)] W fun e W' => (∃ v, e = .returned v) ∧ J [] W' := by
  obtain ⟨o, hrg, hR⟩ := ranges_start (P := Tryz.prog) um173 hm
  have hJ2 := hJ [] W (W.alloc o) none h0 ⟨rfl, rfl, rfl, by simp, fun k hk _ => Below.heap_alloc _ _ _ hk⟩ (fun _ e => by cases e)
  have hnx : ∀ ty : TypeId, (Instr.next (.pointer (some ⟨W.heap.size, 0, none⟩)) false ty).run Tryz.prog (W.alloc o) = .ok (.tuple #[.bool false]) (W.alloc o) := by
    rcases hR.next Tryz.prog with ⟨_, h⟩ | ⟨l1, p, l2, w', h, _⟩
    · exact h
    · cases l1 <;> cases h
  clear hR hm
  refine callsIn_of_wp Tryz.func266 rfl h7 ?_ hro
  simp only [Tryz.ntmps266, List.size_toArray, List.length_cons, List.length_nil, Nat.reduceAdd, Nat.reduceSub, Array.replicate_succ, Array.replicate_zero, List.push_toArray, List.append_toArray, List.nil_append, List.cons_append]
  gi_wp2
  gi_loopw [] (fun wr => wr = W.alloc o) (fun _ => 0)
  case atStart => exact rfl
  case round =>
    obtain rfl := hrel
    gi_wp2
    go_end0
    exact ⟨⟨_, rfl⟩, hJ2⟩
def EmpN (n₀ : Nat) (W : World) (Bs r : Nat) : Prop := W.cell? ⟨Bs, 0, none⟩ = some (.map (some r)) ∧ mapAt GName GCert W r = some [] ∧ Bs < n₀ ∧ r < n₀
theorem EmpN.below {n₀ : Nat} {A B : World} {Bs r : Nat} (h : Below n₀ A B) (hE : EmpN n₀ A Bs r) : EmpN n₀ B Bs r :=
  ⟨(h.cell (p := ⟨Bs, 0, none⟩) hE.2.2.1).trans hE.1, (mapAt_below h hE.2.2.2).trans hE.2.1, hE.2.2⟩
theorem keys0N_stops (F : Fence) (n : Nat) (h7 : F.fn 266) (hro : F.round = none) (hn : 1 ≤ n) (Bs r n₀ : Nat) (w : World) (hE : EmpN n₀ w Bs r) (hn₀ : n₀ ≤ w.heap.size) :
    SeqStopsK F n Tryz.prog 266 #[.pointer (some ⟨Bs, 0, none⟩)] (fun x : Empty => (x.elim : Array Value)) (Below n₀) (fun ys => ys = []) (fun pre => pre = []) 0 w := fun l J Jx W hW hJ _ hY h0 => by
  have hE2 := hE.below (hW.mono hn₀)
  refine (keys0N_in F n h7 hro hn l Bs r J W hJ hE2.1 hE2.2.1 h0).mono ?_
  rintro e W' ⟨he, hj⟩
  exact ⟨he, .inl ⟨[], rfl, hj⟩⟩
set_option maxRecDepth 100000 in
set_option maxHeartbeats 4000000 in
theorem appendSeq0N_in (F : Fence) (n : Nat) (h3 : F.fn 298) (h5 : F.fn 266) (hro : F.round = none) (hn : 3 ≤ n) (Bs r : Nat) (w : World) (hE : EmpN w.heap.size w Bs r) :
    CallsIn F n Tryz.prog 298 #[.slice none 0 0, .func (.func 266) #[] #[.pointer (some ⟨Bs, 0, none⟩)]] w fun e W' => e = .returned (.slice none 0 0) ∧ Below w.heap.size w W' := by
  have h1 : 1 ≤ n := by omega
  refine callsIn_of_wp_marks Tryz.func298 rfl h3 ?_ hro
  simp only [Tryz.ntmps298, List.size_toArray, List.length_cons, List.length_nil, Nat.reduceAdd, Nat.reduceSub, Array.replicate_succ, Array.replicate_zero, List.push_toArray, List.append_toArray, List.nil_append, List.cons_append]
  gi_wp2
  have bO := Boxed.new w 385 (.slice none 0 0)
  have hB0 : Below w.heap.size w (w.alloc (.cells #[.slice none 0 0] 385)) := (Below.refl _ w).alloc (Nat.le_refl _) _
  refine wpIn_rangeFunc_ownG hro h1 (gf := 266) (lb := #[.pointer (some ⟨Bs, 0, none⟩)]) rfl h5 (enters_of Tryz.func266 (by kernel_rfl) rfl)
    (keys0N_stops F (n - 1) h5 hro (by omega) Bs r w.heap.size w hE (Nat.le_refl _)) belowK_t (belowK_b (by simp)) hB0 (fun x => x.elim)
    (fun pre W => (∃ v, Boxed W w.heap.size 385 v ∧ W.ownsRow w.heap.size 33 2 v 0 [] ∧ v = .slice none 0 0) ∧ Below w.heap.size w W)
    (fun _ _ _ => False)
    (OwnFrom.and (Own.from (holdsRow_own w.heap.size w.heap.size 385 33 2 (fun pre => 0) (fun pre => []) (fun pre v => v = .slice none 0 0)) _) (ownFrom_below (Nat.le_refl _) (by simp)))
    (fun _ _ _ _ _ hs _ _ => hs)
    ⟨⟨_, bO, World.ownsRow_nil _ _ _ _, rfl⟩, hB0⟩
    (fun x => x.elim) ?assign ?body ?done ?stop
  case assign =>
    exact fun l x => x.elim
  case body =>
    exact fun l pre x => x.elim
  case done =>
    rintro D ys W hD rfl ⟨⟨v, hv, hrow, rfl⟩, hB⟩ hK
    have hc := hv.cell
    gi_wp2
    refine ⟨by simp, .inl ⟨_, _, rfl, run_takeDeferred hK, ?_⟩⟩
    exact ⟨_, results_tmp rfl _ _ _, rfl, hB.trans (belowK_b (w := w) (Nat.le_refl _) W D _ _ (by simp at hD; omega) hK rfl rfl)⟩
  case stop =>
    rintro D c pre W _ _ h _
    exact h.elim
set_option maxRecDepth 100000 in
set_option maxHeartbeats 1000000 in
theorem collect0N_any (Bs r : Nat) (w : World) (hE : EmpN w.heap.size w Bs r) :
    Calls Tryz.prog 264 #[.func (.func 266) #[] #[.pointer (some ⟨Bs, 0, none⟩)]] w fun e W' => e = .returned (.slice none 0 0) ∧ Bel w W' := by
  have H := (callsIn_wide (n := 3)).1 (appendSeq0N_in Fence.wide 3 trivial trivial rfl (by omega) Bs r w hE)
  go_enter Tryz.func264, Tryz.ntmps264
  go_wp2_with fail
  refine H.mono ?_
  rintro _ w1 ⟨rfl, hb⟩
  go_wp2_with fail
  go_ret
  exact ⟨rfl, hb⟩
set_option maxRecDepth 100000 in
set_option maxHeartbeats 2000000 in
theorem keys0I_in (F : Fence) (n : Nat) (h7 : F.fn 189) (hro : F.round = none) (_hn : 1 ≤ n) (l Bs r : Nat) (J : List Empty → World → Prop)
    (W : World) (hJ : AbidesFrom W.heap.size J) (hBs : W.cell? ⟨Bs, 0, none⟩ = some (.map (some r))) (hm : mapAt Int GRevealPlace W r = some []) (h0 : J [] W) :
    CallsIn F n Tryz.prog 189 #[.func (.yield l) #[] #[], .pointer (some ⟨Bs, 0, none⟩)] W fun e W' => (∃ v, e = .returned v) ∧ J [] W' := by
  obtain ⟨o, hrg, hR⟩ := ranges_start (P := Tryz.prog) um176 hm
  have hJ2 := hJ [] W (W.alloc o) none h0 ⟨rfl, rfl, rfl, by simp, fun k hk _ => Below.heap_alloc _ _ _ hk⟩ (fun _ e => by cases e)
  have hnx : ∀ ty : TypeId, (Instr.next (.pointer (some ⟨W.heap.size, 0, none⟩)) false ty).run Tryz.prog (W.alloc o) = .ok (.tuple #[.bool false]) (W.alloc o) := by
    rcases hR.next Tryz.prog with ⟨_, h⟩ | ⟨l1, p, l2, w', h, _⟩
    · exact h
    · cases l1 <;> cases h
  clear hR hm
  refine callsIn_of_wp Tryz.func189 rfl h7 ?_ hro
  simp only [Tryz.ntmps189, List.size_toArray, List.length_cons, List.length_nil, Nat.reduceAdd, Nat.reduceSub, Array.replicate_succ, Array.replicate_zero, List.push_toArray, List.append_toArray, List.nil_append, List.cons_append]
  gi_wp2
  gi_loopw [] (fun wr => wr = W.alloc o) (fun _ => 0)
  case atStart => exact rfl
  case round =>
    obtain rfl := hrel
    gi_wp2
    go_end0
    exact ⟨⟨_, rfl⟩, hJ2⟩
def EmpI (n₀ : Nat) (W : World) (Bs r : Nat) : Prop := W.cell? ⟨Bs, 0, none⟩ = some (.map (some r)) ∧ mapAt Int GRevealPlace W r = some [] ∧ Bs < n₀ ∧ r < n₀
theorem EmpI.below {n₀ : Nat} {A B : World} {Bs r : Nat} (h : Below n₀ A B) (hE : EmpI n₀ A Bs r) : EmpI n₀ B Bs r :=
  ⟨(h.cell (p := ⟨Bs, 0, none⟩) hE.2.2.1).trans hE.1, (mapAt_below h hE.2.2.2).trans hE.2.1, hE.2.2⟩
theorem keys0I_stops (F : Fence) (n : Nat) (h7 : F.fn 189) (hro : F.round = none) (hn : 1 ≤ n) (Bs r n₀ : Nat) (w : World) (hE : EmpI n₀ w Bs r) (hn₀ : n₀ ≤ w.heap.size) :
    SeqStopsK F n Tryz.prog 189 #[.pointer (some ⟨Bs, 0, none⟩)] (fun x : Empty => (x.elim : Array Value)) (Below n₀) (fun ys => ys = []) (fun pre => pre = []) 0 w := fun l J Jx W hW hJ _ hY h0 => by
  have hE2 := hE.below (hW.mono hn₀)
  refine (keys0I_in F n h7 hro hn l Bs r J W hJ hE2.1 hE2.2.1 h0).mono ?_
  rintro e W' ⟨he, hj⟩
  exact ⟨he, .inl ⟨[], rfl, hj⟩⟩
set_option maxRecDepth 100000 in
set_option maxHeartbeats 4000000 in
theorem appendSeq0I_in (F : Fence) (n : Nat) (h3 : F.fn 239) (h5 : F.fn 189) (hro : F.round = none) (hn : 3 ≤ n) (Bs r : Nat) (w : World) (hE : EmpI w.heap.size w Bs r) :
    CallsIn F n Tryz.prog 239 #[.slice none 0 0, .func (.func 189) #[] #[.pointer (some ⟨Bs, 0, none⟩)]] w fun e W' => e = .returned (.slice none 0 0) ∧ Below w.heap.size w W' := by
  have h1 : 1 ≤ n := by omega
  refine callsIn_of_wp_marks Tryz.func239 rfl h3 ?_ hro
  simp only [Tryz.ntmps239, List.size_toArray, List.length_cons, List.length_nil, Nat.reduceAdd, Nat.reduceSub, Array.replicate_succ, Array.replicate_zero, List.push_toArray, List.append_toArray, List.nil_append, List.cons_append]
  gi_wp2
  have bO := Boxed.new w 204 (.slice none 0 0)
  have hB0 : Below w.heap.size w (w.alloc (.cells #[.slice none 0 0] 204)) := (Below.refl _ w).alloc (Nat.le_refl _) _
  refine wpIn_rangeFunc_ownG hro h1 (gf := 189) (lb := #[.pointer (some ⟨Bs, 0, none⟩)]) rfl h5 (enters_of Tryz.func189 (by kernel_rfl) rfl)
    (keys0I_stops F (n - 1) h5 hro (by omega) Bs r w.heap.size w hE (Nat.le_refl _)) belowK_t (belowK_b (by simp)) hB0 (fun x => x.elim)
    (fun pre W => (∃ v, Boxed W w.heap.size 204 v ∧ W.ownsRow w.heap.size 3 1 v 0 [] ∧ v = .slice none 0 0) ∧ Below w.heap.size w W)
    (fun _ _ _ => False)
    (OwnFrom.and (Own.from (holdsRow_own w.heap.size w.heap.size 204 3 1 (fun pre => 0) (fun pre => []) (fun pre v => v = .slice none 0 0)) _) (ownFrom_below (Nat.le_refl _) (by simp)))
    (fun _ _ _ _ _ hs _ _ => hs)
    ⟨⟨_, bO, World.ownsRow_nil _ _ _ _, rfl⟩, hB0⟩
    (fun x => x.elim) ?assign ?body ?done ?stop
  case assign =>
    exact fun l x => x.elim
  case body =>
    exact fun l pre x => x.elim
  case done =>
    rintro D ys W hD rfl ⟨⟨v, hv, hrow, rfl⟩, hB⟩ hK
    have hc := hv.cell
    gi_wp2
    refine ⟨by simp, .inl ⟨_, _, rfl, run_takeDeferred hK, ?_⟩⟩
    exact ⟨_, results_tmp rfl _ _ _, rfl, hB.trans (belowK_b (w := w) (Nat.le_refl _) W D _ _ (by simp at hD; omega) hK rfl rfl)⟩
  case stop =>
    rintro D c pre W _ _ h _
    exact h.elim
set_option maxRecDepth 100000 in
set_option maxHeartbeats 1000000 in
theorem collect0I_any (Bs r : Nat) (w : World) (hE : EmpI w.heap.size w Bs r) :
    Calls Tryz.prog 187 #[.func (.func 189) #[] #[.pointer (some ⟨Bs, 0, none⟩)]] w fun e W' => e = .returned (.slice none 0 0) ∧ Bel w W' := by
  have H := (callsIn_wide (n := 3)).1 (appendSeq0I_in Fence.wide 3 trivial trivial rfl (by omega) Bs r w hE)
  go_enter Tryz.func187, Tryz.ntmps187
  go_wp2_with fail
  refine H.mono ?_
  rintro _ w1 ⟨rfl, hb⟩
  go_wp2_with fail
  go_ret
  exact ⟨rfl, hb⟩
set_option maxRecDepth 100000 in
set_option maxHeartbeats 1000000 in
theorem len64_0 (w : World) : Calls Tryz.prog 287 #[.int .u64 0] w fun e w' => e = .returned (.int .i64 0) ∧ w' = w := by
  go_enter Tryz.func287, Tryz.ntmps287
  go_wp2_with fail
  go_ret
  exact ⟨by kernel_rfl, rfl⟩
set_option maxRecDepth 100000 in
theorem len_0 (w : World) : Calls Tryz.prog 241 #[.int .u64 0] w fun e w' => e = .returned (.int .i64 0) ∧ w' = w := by
  go_enter Tryz.func241, Tryz.ntmps241
  go_wp2_with fail
  refine (len64_0 _).mono ?_
  rintro _ w1 ⟨rfl, rfl⟩
  go_wp2_with fail
  go_ret
  exact ⟨rfl, rfl⟩
set_option maxRecDepth 100000 in
set_option maxHeartbeats 400000 in
theorem keysOfN_any (r : Nat) (w : World) (hm : mapAt GName GCert w r = some []) :
    Calls Tryz.prog 229 #[.map (some r)] w fun e w' => ∃ Bs, e = .returned (.func (.func 266) #[] #[.pointer (some ⟨Bs, 0, none⟩)]) ∧ EmpN w'.heap.size w' Bs r ∧ Bel w w' := by
  have hl := mapAt_lt hm
  have HE := Lib.hid (show EmpN (w.alloc (.cells #[.map (some r)] 173)).heap.size (w.alloc (.cells #[.map (some r)] 173)) w.heap.size r from ⟨by simp, mapAt_alloc _ hm, by simp, by simp; omega⟩)
  have HB := Lib.hid ((Bel.refl w).alloc (.cells #[.map (some r)] 173))
  clear hm
  go_enter Tryz.func229, Tryz.ntmps229
  go_wp2_with fail
  go_ret
  exact ⟨w.heap.size, rfl, HE.out, HB.out⟩
set_option maxRecDepth 100000 in
set_option maxHeartbeats 400000 in
theorem insSort0N_any (f : Value) (w : World) : Calls Tryz.prog 353 #[.slice none 0 0, .int .i64 0, .int .i64 0, f] w fun e w' => e = .returned (.tuple #[]) ∧ w' = w := by
  go_enter Tryz.func353, Tryz.ntmps353
  go_wp2_with fail
  go_loopw [8] (fun iv wr => iv = .int .i64 1 ∧ wr = w) (fun _ _ => 0)
  case atStart => exact ⟨rfl, rfl⟩
  case round =>
    obtain ⟨rfl, rfl⟩ := hrel
    go_wp2_with fail
    refine bodyPost_end (results_none rfl _ _ _) rfl ?_
    exact ⟨rfl, rfl⟩
set_option maxRecDepth 100000 in
set_option maxHeartbeats 1000000 in
theorem pdq0N_any (f : Value) (w : World) : Calls Tryz.prog 299 #[.slice none 0 0, .int .i64 0, .int .i64 0, .int .i64 0, f] w fun e w' => e = .returned (.tuple #[]) ∧ w' = w := by
  go_enter Tryz.func299, Tryz.ntmps299
  go_wp2_with fail
  go_loopw [1, 2, 3] (fun a b l wr => a = .int .i64 0 ∧ b = .int .i64 0 ∧ l = .int .i64 0 ∧ wr = w) (fun _ _ _ _ => 0)
  case atStart => exact ⟨rfl, rfl, rfl, rfl⟩
  case round =>
    obtain ⟨rfl, rfl, rfl, rfl⟩ := hrel
    go_wp2_with fail
    refine (insSort0N_any f _).mono ?_
    rintro _ w1 ⟨rfl, rfl⟩
    go_wp2_with fail
    refine bodyPost_ret (results_none rfl _ _ _) rfl ?_
    exact ⟨rfl, rfl⟩
set_option maxRecDepth 100000 in
set_option maxHeartbeats 400000 in
theorem sort0N_any (f : Value) (w : World) : Calls Tryz.prog 265 #[.slice none 0 0, f] w fun e w' => e = .returned (.tuple #[]) ∧ w' = w := by
  go_enter Tryz.func265, Tryz.ntmps265
  go_wp2_with fail
  refine (len_0 _).mono ?_
  rintro _ w1 ⟨rfl, rfl⟩
  go_wp2_with fail
  refine (pdq0N_any f _).mono ?_
  rintro _ w1 ⟨rfl, rfl⟩
  go_wp2_with fail
  refine bodyPost_end (results_none rfl _ _ _) rfl ?_
  exact ⟨rfl, rfl⟩
set_option maxRecDepth 100000 in
set_option maxHeartbeats 400000 in
theorem sorted0N_any (f : Value) (Bs r : Nat) (w : World) (hE : EmpN w.heap.size w Bs r) : Calls Tryz.prog 228 #[.func (.func 266) #[] #[.pointer (some ⟨Bs, 0, none⟩)], f] w fun e w' => e = .returned (.slice none 0 0) ∧ Bel w w' := by
  go_enter Tryz.func228, Tryz.ntmps228
  go_wp2_with fail
  refine (collect0N_any Bs r w hE).mono ?_
  rintro _ w1 ⟨rfl, hb⟩
  have HB := Lib.hid hb
  clear hb
  go_wp2_with fail
  refine (sort0N_any f _).mono ?_
  rintro _ w2 ⟨rfl, rfl⟩
  go_wp2_with fail
  go_ret
  exact ⟨rfl, HB.out⟩
set_option maxRecDepth 100000 in
set_option maxHeartbeats 400000 in
theorem keysOfI_any (r : Nat) (w : World) (hm : mapAt Int GRevealPlace w r = some []) :
    Calls Tryz.prog 136 #[.map (some r)] w fun e w' => ∃ Bs, e = .returned (.func (.func 189) #[] #[.pointer (some ⟨Bs, 0, none⟩)]) ∧ EmpI w'.heap.size w' Bs r ∧ Bel w w' := by
  have hl := mapAt_lt hm
  have HE := Lib.hid (show EmpI (w.alloc (.cells #[.map (some r)] 176)).heap.size (w.alloc (.cells #[.map (some r)] 176)) w.heap.size r from ⟨by simp, mapAt_alloc _ hm, by simp, by simp; omega⟩)
  have HB := Lib.hid ((Bel.refl w).alloc (.cells #[.map (some r)] 176))
  clear hm
  go_enter Tryz.func136, Tryz.ntmps136
  go_wp2_with fail
  go_ret
  exact ⟨w.heap.size, rfl, HE.out, HB.out⟩
set_option maxRecDepth 100000 in
set_option maxHeartbeats 400000 in
theorem insSort0I_any (w : World) : Calls Tryz.prog 277 #[.slice none 0 0, .int .i64 0, .int .i64 0] w fun e w' => e = .returned (.tuple #[]) ∧ w' = w := by
  go_enter Tryz.func277, Tryz.ntmps277
  go_wp2_with fail
  go_loopw [6] (fun iv wr => iv = .int .i64 1 ∧ wr = w) (fun _ _ => 0)
  case atStart => exact ⟨rfl, rfl⟩
  case round =>
    obtain ⟨rfl, rfl⟩ := hrel
    go_wp2_with fail
    refine bodyPost_end (results_none rfl _ _ _) rfl ?_
    exact ⟨rfl, rfl⟩
set_option maxRecDepth 100000 in
set_option maxHeartbeats 1000000 in
theorem pdq0I_any (w : World) : Calls Tryz.prog 240 #[.slice none 0 0, .int .i64 0, .int .i64 0, .int .i64 0] w fun e w' => e = .returned (.tuple #[]) ∧ w' = w := by
  go_enter Tryz.func240, Tryz.ntmps240
  go_wp2_with fail
  go_loopw [1, 2, 3] (fun a b l wr => a = .int .i64 0 ∧ b = .int .i64 0 ∧ l = .int .i64 0 ∧ wr = w) (fun _ _ _ _ => 0)
  case atStart => exact ⟨rfl, rfl, rfl, rfl⟩
  case round =>
    obtain ⟨rfl, rfl, rfl, rfl⟩ := hrel
    go_wp2_with fail
    refine (insSort0I_any _).mono ?_
    rintro _ w1 ⟨rfl, rfl⟩
    go_wp2_with fail
    refine bodyPost_ret (results_none rfl _ _ _) rfl ?_
    exact ⟨rfl, rfl⟩
set_option maxRecDepth 100000 in
set_option maxHeartbeats 400000 in
theorem sort0I_any (w : World) : Calls Tryz.prog 188 #[.slice none 0 0] w fun e w' => e = .returned (.tuple #[]) ∧ w' = w := by
  go_enter Tryz.func188, Tryz.ntmps188
  go_wp2_with fail
  refine (len_0 _).mono ?_
  rintro _ w1 ⟨rfl, rfl⟩
  go_wp2_with fail
  refine (pdq0I_any _).mono ?_
  rintro _ w1 ⟨rfl, rfl⟩
  go_wp2_with fail
  refine bodyPost_end (results_none rfl _ _ _) rfl ?_
  exact ⟨rfl, rfl⟩
set_option maxRecDepth 100000 in
set_option maxHeartbeats 400000 in
theorem sorted0I_any (Bs r : Nat) (w : World) (hE : EmpI w.heap.size w Bs r) : Calls Tryz.prog 135 #[.func (.func 189) #[] #[.pointer (some ⟨Bs, 0, none⟩)]] w fun e w' => e = .returned (.slice none 0 0) ∧ Bel w w' := by
  go_enter Tryz.func135, Tryz.ntmps135
  go_wp2_with fail
  refine (collect0I_any Bs r w hE).mono ?_
  rintro _ w1 ⟨rfl, hb⟩
  have HB := Lib.hid hb
  clear hb
  go_wp2_with fail
  refine (sort0I_any _).mono ?_
  rintro _ w2 ⟨rfl, rfl⟩
  go_wp2_with fail
  go_ret
  exact ⟨rfl, HB.out⟩
end Go.Proofs.YtfhhcgldikmejaaGreatDoor
/- A replica's parts, made; what they hold while nothing has come. Conditions: those named in each theorem. -/
namespace Go.Proofs.YtfhhcgldikmejaaGreatDoor
open Go Go.RowKit Go.Gv Go.Proofs

theorem mayR_iff {c : GConf} {i : Int} : mayR c i = true ↔ (1 ≤ c.f ∧ c.f ≤ 21 ∧ 1 ≤ c.clients ∧ c.clients ≤ 100) ∧ 0 ≤ i ∧ i < 3 * c.f + 1 := by
  unfold mayR inB
  rw [Bool.and_eq_true, validB_iff, Bool.and_eq_true, decide_eq_true_eq, decide_eq_true_eq]
/-- At g lies a stamper over the map in block m. -/
structure StampIs (w : World) (g m : Nat) (c : GConf) (i now floor last : Int) (S : List (GName × GStamp)) : Prop where
  get : get? GStampStamper w ⟨g, 0, none⟩ = some ⟨c, i, now, floor, last, some m⟩
  free : blkFree w g = true
  map : mapAt GName GStamp w m = some S
/-- At g lies a table that holds none. -/
structure TableIs (w : World) (g m : Nat) (c : GConf) (i : Int) : Prop where
  get : get? GLockTable w ⟨g, 0, none⟩ = some ⟨c, i, some m⟩
  free : blkFree w g = true
  map : mapAt GName GCert w m = some []
/-- At g lies a reveal of no place. -/
structure RevIs (w : World) (g m : Nat) (c : GConf) (i : Int) : Prop where
  get : get? GRevealReveal w ⟨g, 0, none⟩ = some ⟨c, i, some m⟩
  free : blkFree w g = true
  map : mapAt Int GRevealPlace w m = some []
/-- At g lies a ledger of nothing. -/
structure LedIs (w : World) (g m : Nat) : Prop where
  get : get? GLedgerLedger w ⟨g, 0, none⟩ = some ⟨0, 0, ⟨none, 0, 0⟩, some m, 0⟩
  free : blkFree w g = true
  map : mapAt GName Int w m = some []
section
variable {w w' : World} {S : Nat → Prop} {g m : Nat} {c : GConf} {i now floor last : Int} {ss : List (GName × GStamp)}
theorem StampIs.chg (h : StampIs w g m c i now floor last ss) (hc : Chg S w w') (hg : ¬ S g) (hm : ¬ S m) : StampIs w' g m c i now floor last ss := ⟨hc.get h.get hg, hc.free h.free (get?_lt h.get) hg, hc.map h.map hm⟩
theorem TableIs.chg (h : TableIs w g m c i) (hc : Chg S w w') (hg : ¬ S g) (hm : ¬ S m) : TableIs w' g m c i := ⟨hc.get h.get hg, hc.free h.free (get?_lt h.get) hg, hc.map h.map hm⟩
theorem RevIs.chg (h : RevIs w g m c i) (hc : Chg S w w') (hg : ¬ S g) (hm : ¬ S m) : RevIs w' g m c i := ⟨hc.get h.get hg, hc.free h.free (get?_lt h.get) hg, hc.map h.map hm⟩
theorem LedIs.chg (h : LedIs w g m) (hc : Chg S w w') (hg : ¬ S g) (hm : ¬ S m) : LedIs w' g m := ⟨hc.get h.get hg, hc.free h.free (get?_lt h.get) hg, hc.map h.map hm⟩
theorem StampIs.step (h : StampIs w g m c i now floor last ss) (hb : Bel w w') : StampIs w' g m c i now floor last ss := h.chg (S := fun _ => False) (Chg.of_bel hb _) id id
theorem TableIs.step (h : TableIs w g m c i) (hb : Bel w w') : TableIs w' g m c i := h.chg (S := fun _ => False) (Chg.of_bel hb _) id id
theorem RevIs.step (h : RevIs w g m c i) (hb : Bel w w') : RevIs w' g m c i := h.chg (S := fun _ => False) (Chg.of_bel hb _) id id
theorem LedIs.step (h : LedIs w g m) (hb : Bel w w') : LedIs w' g m := h.chg (S := fun _ => False) (Chg.of_bel hb _) id id
end
set_option maxRecDepth 100000 in
set_option maxHeartbeats 1000000 in
theorem stampNew_any (c : GConf) (i : Int) (w : World) (h : mayR c i = true) :
    Calls Tryz.prog 36 #[c.val, .int .i64 i] w fun e w' => ∃ g m : Nat, e = .returned (.tuple #[.pointer (some ⟨g, 0, none⟩), .int .i64 0]) ∧ StampIs w' g m c i 0 0 0 [] ∧ w.heap.size ≤ g ∧ w.heap.size ≤ m ∧ Bel w w' := by
  have hmm := @run_makeMap Tryz.prog
  obtain ⟨⟨v1, v2, v3, v4⟩, v5, v6⟩ := mayR_iff.1 h
  have hv : validB c = true := validB_iff.2 ⟨v1, v2, v3, v4⟩
  have hi : inB c i = true := by unfold inB; simp [v5, v6]
  have G := Lib.hid (get?_new (w := w) 24 c)
  have HB := Lib.hid ((Bel.refl w).alloc (.cells (GConf.enc c).toArray 24))
  clear h
  go_enter Tryz.func36, Tryz.ntmps36
  go_wp2_with fail
  refine (valid_is true c _ hv).mono ?_
  rintro _ w1 ⟨rfl, hb1⟩
  have HB1 := Lib.hid (HB.out.trans hb1)
  have g1 := GB.get hb1 G.out
  clear hb1
  go_wp2_with fail
  refine (in_is true c i _ hi (by omega) (by omega)).mono ?_
  rintro _ w2 ⟨rfl, hb2⟩
  have HB2 := Lib.hid (HB1.out.trans hb2)
  have g2 := GB.get hb2 g1
  have hz := (HB1.out.trans hb2).size
  clear hb2 g1
  go_wp2_with fail
  go_ret2
  refine ⟨w2.heap.size + 1, w2.heap.size, rfl, ⟨?_, ?_, ?_⟩, by omega, by omega, (HB2.out.alloc _).alloc _⟩
  · exact nw158 (w2.alloc (.map #[] 0)) (w2.heap.size + 1) ⟨c, i, 0, 0, 0, some w2.heap.size⟩ (by simp)
  · exact blkFree_new _ _ (by simp)
  · exact mapAt_alloc _ (mapAt_new _ _ w2)
set_option maxRecDepth 100000 in
set_option maxHeartbeats 1000000 in
theorem lockNew_any (c : GConf) (i : Int) (w : World) (h : mayR c i = true) :
    Calls Tryz.prog 37 #[c.val, .int .i64 i] w fun e w' => ∃ g m : Nat, e = .returned (.tuple #[.pointer (some ⟨g, 0, none⟩), .int .i64 0]) ∧ TableIs w' g m c i ∧ w.heap.size ≤ g ∧ w.heap.size ≤ m ∧ Bel w w' := by
  have hmm := @run_makeMap Tryz.prog
  obtain ⟨⟨v1, v2, v3, v4⟩, v5, v6⟩ := mayR_iff.1 h
  have hv : validB c = true := validB_iff.2 ⟨v1, v2, v3, v4⟩
  have hi : inB c i = true := by unfold inB; simp [v5, v6]
  have G := Lib.hid (get?_new (w := w) 24 c)
  have HB := Lib.hid ((Bel.refl w).alloc (.cells (GConf.enc c).toArray 24))
  clear h
  go_enter Tryz.func37, Tryz.ntmps37
  go_wp2_with fail
  refine (valid_is true c _ hv).mono ?_
  rintro _ w1 ⟨rfl, hb1⟩
  have HB1 := Lib.hid (HB.out.trans hb1)
  have g1 := GB.get hb1 G.out
  clear hb1
  go_wp2_with fail
  refine (in_is true c i _ hi (by omega) (by omega)).mono ?_
  rintro _ w2 ⟨rfl, hb2⟩
  have HB2 := Lib.hid (HB1.out.trans hb2)
  have g2 := GB.get hb2 g1
  have hz := (HB1.out.trans hb2).size
  clear hb2 g1
  go_wp2_with fail
  go_ret2
  refine ⟨w2.heap.size + 1, w2.heap.size, rfl, ⟨?_, ?_, ?_⟩, by omega, by omega, (HB2.out.alloc _).alloc _⟩
  · exact nw175 (w2.alloc (.map #[] 0)) (w2.heap.size + 1) ⟨c, i, some w2.heap.size⟩ (by simp)
  · exact blkFree_new _ _ (by simp)
  · exact mapAt_alloc _ (mapAt_new _ _ w2)
set_option maxRecDepth 100000 in
set_option maxHeartbeats 1000000 in
theorem revNew_any (c : GConf) (i : Int) (w : World) (h : mayR c i = true) :
    Calls Tryz.prog 38 #[c.val, .int .i64 i] w fun e w' => ∃ g m : Nat, e = .returned (.tuple #[.pointer (some ⟨g, 0, none⟩), .int .i64 0]) ∧ RevIs w' g m c i ∧ w.heap.size ≤ g ∧ w.heap.size ≤ m ∧ Bel w w' := by
  have hmm := @run_makeMap Tryz.prog
  obtain ⟨⟨v1, v2, v3, v4⟩, v5, v6⟩ := mayR_iff.1 h
  have hv : validB c = true := validB_iff.2 ⟨v1, v2, v3, v4⟩
  have hi : inB c i = true := by unfold inB; simp [v5, v6]
  have G := Lib.hid (get?_new (w := w) 24 c)
  have HB := Lib.hid ((Bel.refl w).alloc (.cells (GConf.enc c).toArray 24))
  clear h
  go_enter Tryz.func38, Tryz.ntmps38
  go_wp2_with fail
  refine (valid_is true c _ hv).mono ?_
  rintro _ w1 ⟨rfl, hb1⟩
  have HB1 := Lib.hid (HB.out.trans hb1)
  have g1 := GB.get hb1 G.out
  clear hb1
  go_wp2_with fail
  refine (in_is true c i _ hi (by omega) (by omega)).mono ?_
  rintro _ w2 ⟨rfl, hb2⟩
  have HB2 := Lib.hid (HB1.out.trans hb2)
  have g2 := GB.get hb2 g1
  have hz := (HB1.out.trans hb2).size
  clear hb2 g1
  go_wp2_with fail
  go_ret2
  refine ⟨w2.heap.size + 1, w2.heap.size, rfl, ⟨?_, ?_, ?_⟩, by omega, by omega, (HB2.out.alloc _).alloc _⟩
  · exact nw178 (w2.alloc (.map #[] 0)) (w2.heap.size + 1) ⟨c, i, some w2.heap.size⟩ (by simp)
  · exact blkFree_new _ _ (by simp)
  · exact mapAt_alloc _ (mapAt_new _ _ w2)
set_option maxRecDepth 100000 in
set_option maxHeartbeats 400000 in
theorem ledNew_any (w : World) : Calls Tryz.prog 39 #[] w fun e w' => ∃ g m : Nat, e = .returned (.pointer (some ⟨g, 0, none⟩)) ∧ LedIs w' g m ∧ w.heap.size ≤ g ∧ w.heap.size ≤ m ∧ Bel w w' := by
  have hmm := @run_makeMap Tryz.prog
  go_enter Tryz.func39, Tryz.ntmps39
  go_wp2
  go_ret
  refine ⟨w.heap.size + 1, w.heap.size, rfl, ⟨?_, ?_, ?_⟩, by omega, by omega, ((Bel.refl w).alloc _).alloc _⟩
  · exact nw182 (w.alloc (.map #[] 0)) (w.heap.size + 1) ⟨0, 0, ⟨none, 0, 0⟩, some w.heap.size, 0⟩ (by simp)
  · exact blkFree_new _ _ (by simp)
  · exact mapAt_alloc _ (mapAt_new _ _ w)
set_option maxRecDepth 100000 in
theorem now_any (g m : Nat) (c : GConf) (i now floor last : Int) (ss : List (GName × GStamp)) (w : World) (h : StampIs w g m c i now floor last ss) : Calls Tryz.prog 33 #[.pointer (some ⟨g, 0, none⟩)] w fun e w' => e = .returned (.int .u64 now) ∧ w' = w := by
  have f0 := GStampStamper.at_now h.get
  simp only [Addr.add_lit, Nat.zero_add] at f0
  clear h
  go_enter Tryz.func33, Tryz.ntmps33
  go_wp2_with fail
  go_ret
  exact ⟨rfl, rfl⟩
set_option maxRecDepth 100000 in
theorem epoch0_any (g m : Nat) (w : World) (h : LedIs w g m) : Calls Tryz.prog 79 #[.pointer (some ⟨g, 0, none⟩)] w fun e w' => e = .returned (.int .i64 0) ∧ w' = w := by
  have f0 := GLedgerLedger.at_epoch h.get
  simp only [Addr.add_lit, Nat.zero_add] at f0
  clear h
  go_enter Tryz.func79, Tryz.ntmps79
  go_wp2_with fail
  go_ret
  exact ⟨rfl, rfl⟩
set_option maxRecDepth 100000 in
theorem last0_any (g m : Nat) (w : World) (h : LedIs w g m) : Calls Tryz.prog 99 #[.pointer (some ⟨g, 0, none⟩)] w fun e w' => e = .returned (.int .u64 0) ∧ w' = w := by
  have f0 := GLedgerLedger.at_last h.get
  simp only [Addr.add_lit, Nat.zero_add] at f0
  clear h
  go_enter Tryz.func99, Tryz.ntmps99
  go_wp2_with fail
  go_ret
  exact ⟨rfl, rfl⟩
set_option maxRecDepth 100000 in
set_option maxHeartbeats 1000000 in
theorem held0_any (g m : Nat) (c : GConf) (i : Int) (w : World) (h : TableIs w g m c i) : Calls Tryz.prog 168 #[.pointer (some ⟨g, 0, none⟩)] w fun e w' => e = .returned (.slice none 0 0) ∧ Bel w w' := by
  have f0 := GLockTable.at_held h.get
  simp only [Addr.add_lit, Nat.zero_add] at f0
  have HM := Lib.hid h.map
  clear h
  go_enter Tryz.func168, Tryz.ntmps168
  go_wp2_with fail
  refine (keysOfN_any m w HM.out).mono ?_
  rintro _ w1 ⟨Bs, rfl, hE, hb1⟩
  have HE := Lib.hid hE; have HB := Lib.hid hb1
  clear hE hb1 f0
  go_wp2_with fail
  refine (sorted0N_any _ Bs m w1 HE.out).mono ?_
  rintro _ w2 ⟨rfl, hb2⟩
  have HB2 := Lib.hid (HB.out.trans hb2)
  clear hb2
  go_wp2_with fail
  go_loopw [3, 13] (fun ov iv wr => ov = .slice none 0 0 ∧ iv = .int .i64 0 ∧ wr = w2) (fun _ _ _ => 0)
  case atStart => exact ⟨rfl, rfl, rfl⟩
  case round =>
    obtain ⟨rfl, rfl, rfl⟩ := hrel
    go_wp2_with fail
    go_ret
    exact ⟨rfl, HB2.out⟩
set_option maxRecDepth 100000 in
set_option maxHeartbeats 1000000 in
theorem rising0_any (g m : Nat) (c : GConf) (i : Int) (w : World) (h : RevIs w g m c i) : Calls Tryz.prog 87 #[.pointer (some ⟨g, 0, none⟩)] w fun e w' => e = .returned (.slice none 0 0) ∧ Bel w w' := by
  have f0 := GRevealReveal.at_m h.get
  simp only [Addr.add_lit, Nat.zero_add] at f0
  have HM := Lib.hid h.map
  clear h
  go_enter Tryz.func87, Tryz.ntmps87
  go_wp2_with fail
  refine (keysOfI_any m w HM.out).mono ?_
  rintro _ w1 ⟨Bs, rfl, hE, hb1⟩
  have HE := Lib.hid hE; have HB := Lib.hid hb1
  clear hE hb1 f0
  go_wp2_with fail
  refine (sorted0I_any Bs m w1 HE.out).mono ?_
  rintro _ w2 ⟨rfl, hb2⟩
  have HB2 := Lib.hid (HB.out.trans hb2)
  clear hb2
  go_wp2_with fail
  go_ret
  exact ⟨rfl, HB2.out⟩
set_option maxRecDepth 100000 in
set_option maxHeartbeats 1000000 in
theorem due0_any (g m : Nat) (c : GConf) (i : Int) (b : Value) (now : Int) (w : World) (h : RevIs w g m c i) : Calls Tryz.prog 49 #[.pointer (some ⟨g, 0, none⟩), b, .int .u64 now] w fun e w' => e = .returned (.slice none 0 0) ∧ Bel w w' := by
  go_enter Tryz.func49, Tryz.ntmps49
  go_wp2_with fail
  refine (rising0_any g m c i w h).mono ?_
  rintro _ w2 ⟨rfl, hb2⟩
  have HB2 := Lib.hid hb2
  clear hb2
  go_wp2_with fail
  go_loopw [7, 15] (fun ov iv wr => ov = .slice none 0 0 ∧ iv = .int .i64 0 ∧ wr = w2) (fun _ _ _ => 0)
  case atStart => exact ⟨rfl, rfl, rfl⟩
  case round =>
    obtain ⟨rfl, rfl, rfl⟩ := hrel
    go_wp2_with fail
    go_ret
    exact ⟨rfl, HB2.out⟩
end Go.Proofs.YtfhhcgldikmejaaGreatDoor
/- The stamper's clock and floor; a promise of a table that holds none. Conditions: those named in each theorem. -/
namespace Go.Proofs.YtfhhcgldikmejaaGreatDoor
open Go Go.RowKit Go.Gv Go.Proofs

set_option maxRecDepth 100000 in
set_option maxHeartbeats 1000000 in
theorem raise_any (g m : Nat) (c : GConf) (i now floor last t : Int) (ss : List (GName × GStamp)) (w : World) (h : StampIs w g m c i now floor last ss) (ht : t < 18446744073709551615) :
    Calls Tryz.prog 149 #[.pointer (some ⟨g, 0, none⟩), .int .u64 t] w fun e w' => e = .returned (.int .i64 0) ∧ StampIs w' g m c i now (max floor t) last ss ∧ Chg (fun k => k = g) w w' := by
  have HS := Lib.hid h
  have f0 := GStampStamper.at_floor h.get
  simp only [Addr.add_lit, Nat.zero_add] at f0
  have hfr : w.frozen? ⟨g, 4, none⟩ = false := frozen_of_free h.free
  have hne : (t == 18446744073709551615) = false := by rw [beq_eq_false_iff_ne]; omega
  have key : ∀ v : Int, v = max floor t → StampIs (w.setCell ⟨g, 4, none⟩ (.int .u64 v)) g m c i now (max floor t) last ss ∧ Chg (fun k => k = g) w (w.setCell ⟨g, 4, none⟩ (.int .u64 v)) := fun v hv => by
    subst hv
    have hc : Chg (fun k => k = g) w (w.setCell ⟨g, 4, none⟩ (.int .u64 (max floor t))) := chg_cell (S := fun k => k = g) rfl _
    exact ⟨⟨get?_poke HS.out.get rfl, by rw [blkFree_setCell]; exact HS.out.free, hc.map HS.out.map (fun e => get_not_mapV HS.out.map HS.out.get e.symm)⟩, hc⟩
  have KEY := Lib.hid key
  clear key h
  by_cases hlt : floor < t
  · have hm := Lib.hid (show t = max floor t by omega)
    go_enter Tryz.func149, Tryz.ntmps149
    go_wp2_with fail
    go_ret
    exact ⟨rfl, KEY.out t hm.out⟩
  · have hm := Lib.hid (show floor = max floor t by omega)
    go_enter Tryz.func149, Tryz.ntmps149
    go_wp2_with fail
    go_ret
    exact ⟨rfl, KEY.out floor hm.out⟩
set_option maxRecDepth 100000 in
set_option maxHeartbeats 1000000 in
theorem tick1_any (g m : Nat) (c : GConf) (i now floor last : Int) (ss : List (GName × GStamp)) (w : World) (h : StampIs w g m c i now floor last ss) (h0 : 0 ≤ now) (h1 : now ≤ 1000000000) :
    Calls Tryz.prog 44 #[.pointer (some ⟨g, 0, none⟩), .int .u64 1] w fun e w' => e = .returned (.tuple #[]) ∧ StampIs w' g m c i (now + 1) floor last ss ∧ Chg (fun k => k = g) w w' := by
  have HS := Lib.hid h
  have f0 := GStampStamper.at_now h.get
  simp only [Addr.add_lit, Nat.zero_add] at f0
  have hfr : w.frozen? ⟨g, 3, none⟩ = false := frozen_of_free h.free
  have e1 : IntKind.u64.wrap (18446744073709551615 - now) = 18446744073709551615 - now := IntWalk.u64_in _ (by omega)
  have e2 : IntKind.u64.wrap (now + 1) = now + 1 := IntWalk.u64_in _ (by omega)
  have e3 : ¬ 18446744073709551615 - now < 1 := by omega
  clear h
  go_enter Tryz.func44, Tryz.ntmps44
  go_wp2_with fail
  go_region
  go_wp2_with fail
  have hc : Chg (fun k => k = g) w (w.setCell ⟨g, 3, none⟩ (.int .u64 (now + 1))) := chg_cell (S := fun k => k = g) rfl _
  refine bodyPost_end (results_none rfl _ _ _) rfl ?_
  exact ⟨rfl, ⟨get?_poke HS.out.get rfl, by rw [show ∀ w1 : World, blkFree w1.drew g = blkFree w1 g from fun _ => rfl, blkFree_setCell]; exact HS.out.free, hc.map HS.out.map (fun e => get_not_mapV HS.out.map HS.out.get e.symm)⟩, hc.tr (Chg.of_bel ((Bel.refl _).drew) _)⟩
/-- A book and a promise lie in two blocks. -/
theorem get_ne_book {w : World} {g q : Nat} {b : GBookBook} {x : GPromise} (h1 : get? GBookBook w ⟨g, 0, none⟩ = some b) (h2 : get? GPromise w ⟨q, 0, none⟩ = some x) : ¬ g = q := by
  intro e
  subst e
  have a := (get?_iff.1 h1) 0 _ rfl
  have b2 := (get?_iff.1 h2) 0 _ rfl
  rw [a] at b2
  cases b2
def x0P (i epoch time : Int) : GPromise := ⟨i, epoch, time, ⟨none, 0, 0⟩, default⟩
def keyP (i epoch : Int) (tm : Nat) : GBookSigned := ⟨i, strB (promiseText0 tm (x0P i epoch tm))⟩
set_option maxRecDepth 100000 in
set_option maxHeartbeats 2000000 in
theorem promise0_any (g m gb mb : Nat) (c : GConf) (i epoch last : Int) (tm : Nat) (B : MBook) (w : World) (h : TableIs w g m c i) (hb : BookIs w gb mb B) (he : 0 ≤ epoch) (he1 : epoch ≤ 1048576) (hl : last < (tm : Int)) (ht : tm < 18446744073709551615) (hi : i ≤ 1000000) (hB : B.length ≤ 1000000000) :
    Calls Tryz.prog 148 #[.pointer (some ⟨g, 0, none⟩), .pointer (some ⟨gb, 0, none⟩), .int .i64 epoch, .int .u64 last, .int .u64 (tm : Int)] w fun e w' =>
      e = .returned (.tuple #[GPromise.val ⟨i, epoch, tm, ⟨none, 0, 0⟩, ⟨i, markOf B (keyP i epoch tm)⟩⟩, .int .i64 0]) ∧ BookIs w' gb mb (signB B (keyP i epoch tm)) ∧ Chg (fun k => k = mb) w w' := by
  have HT := Lib.hid h; have HBK := Lib.hid hb
  have h2 : ¬ (tm : Int) ≤ last := by omega
  have h3 : ((tm : Int) == 18446744073709551615) = false := by rw [beq_eq_false_iff_ne]; omega
  have h4 : ¬ (1048576 : Int) < epoch := by omega
  have f0 := GLockTable.at_replica h.get
  simp only [Addr.add_lit, Nat.zero_add] at f0
  have hgl := get?_lt h.get
  have h5 : ¬ epoch < 0 := by omega
  simp only at hgl
  clear h hb
  go_enter Tryz.func148, Tryz.ntmps148
  go_wp2_with fail
  have c10 : get? GPromise ((w.alloc (.cells (GPromise.enc default).toArray 49)).alloc (.cells (GPromise.enc (x0P i epoch tm)).toArray 49)) ⟨w.heap.size, 0, none⟩ = some default := get?_alloc _ (get?_new _ _)
  have c12 : get? GPromise ((w.alloc (.cells (GPromise.enc default).toArray 49)).alloc (.cells (GPromise.enc (x0P i epoch tm)).toArray 49)) ⟨w.heap.size + 1, 0, none⟩ = some (x0P i epoch tm) := by
    have := get?_new (w := w.alloc (.cells (GPromise.enc default).toArray 49)) 49 (x0P i epoch tm)
    rwa [World.size_alloc] at this
  have b10 : blkFree ((w.alloc (.cells (GPromise.enc default).toArray 49)).alloc (.cells (GPromise.enc (x0P i epoch tm)).toArray 49)) w.heap.size = true := by rw [blkFree_past _ _ (by simp)]; exact blkFree_new _ _ rfl
  have b12 : blkFree ((w.alloc (.cells (GPromise.enc default).toArray 49)).alloc (.cells (GPromise.enc (x0P i epoch tm)).toArray 49)) (w.heap.size + 1) = true := blkFree_new _ _ (by simp)
  have HB := Lib.hid (((Bel.refl w).alloc (.cells (GPromise.enc default).toArray 49)).alloc (.cells (GPromise.enc (x0P i epoch tm)).toArray 49))
  obtain ⟨q, hq⟩ : ∃ q, w.heap.size = q := ⟨_, rfl⟩
  have HQ := Lib.hid hq
  rw [hq] at c10 c12 b10 b12 hgl ⊢
  change Calls _ _ _ ((w.alloc (.cells (GPromise.enc default).toArray 49)).alloc (.cells (GPromise.enc (x0P i epoch tm)).toArray 49)) _
  generalize (w.alloc (.cells (GPromise.enc default).toArray 49)).alloc (.cells (GPromise.enc (x0P i epoch tm)).toArray 49) = wb at c10 c12 b10 b12 HB ⊢
  refine (held0_any g m c i wb (HT.out.step HB.out)).mono ?_
  rintro _ w1 ⟨rfl, hb1⟩
  have HB1 := Lib.hid (HB.out.trans hb1)
  have C10 := Lib.hid (GB.get hb1 c10); have C12 := Lib.hid (GB.get hb1 c12)
  have B10 := Lib.hid ((blkFree_keep (Below.block hb1 _ (get?_lt c10))).trans b10); have B12 := Lib.hid ((blkFree_keep (Below.block hb1 _ (get?_lt c12))).trans b12)
  clear hb1 c10 c12 b10 b12 hq f0
  go_wp2_with fail
  go_loopw [43] (fun iv wr => iv = .int .i64 0 ∧ wr = w1) (fun _ _ => 0)
  case atStart => exact ⟨rfl, rfl⟩
  case round =>
    obtain ⟨rfl, rfl⟩ := hrel
    go_wp2_with fail
    have F0 := Lib.hid (show wr.cell? ⟨g, 2, none⟩ = some (.int .i64 i) by
      have := GLockTable.at_replica (HT.out.step HB1.out).get
      simp only [Addr.add_lit, Nat.zero_add] at this
      exact this)
    refine wp_region_G GB [7, 9] GB.rf (by kernel_rfl) ?_
    refine wpG_looks 4 10 [0, 1, 2, 3, 4, 5] rfl GB.rf GB.tr (by kernel_rfl) (fun _ _ _ _ hd h => And.intro (hd ▸ And.left h) (And.right h)) rfl (by kernel_rfl) ?_
    intro ι W hne CW
    have k0 : ∀ z, (W z).cell? ⟨g, 2, none⟩ = some (.int .i64 i) := fun z => GB.cell (CW.out z) F0.out
    have k1 : ∀ z, get? GPromise (W z) ⟨q + 1, 0, none⟩ = some (x0P i epoch tm) := fun z => GB.get (CW.out z) C12.out
    repeat (refine wpLooksG_step (fun K hK => ?_); go_simp; refine hK _ ?_; clear hK K)
    refine wpLooksG_nil ?_
    clear k0 k1 CW hne W ι
    refine wpG_force 6 _ rfl (by kernel_rfl) rfl fun wa hwa K hK => ?_
    go_simp
    refine (promiseText_any (x0P i epoch tm) wa (by show i ≤ _; omega) (by show epoch ≤ _; omega) tm rfl (by omega) rfl).mono ?_
    rintro _ wc ⟨A, cc, rfl, hs, hbc⟩
    refine hK _ _ (fun _ => hbc) ?_
    have HS := Lib.hid hs; have HBC := Lib.hid ((GB.undrew hwa).trans hbc)
    clear hK K hs hbc hwa
    obtain ⟨n, hn⟩ : ∃ n, (promiseText0 tm (x0P i epoch tm)).length = n := ⟨_, rfl⟩
    rw [hn] at HS ⊢
    clear hn
    refine wpG_force 7 _ rfl (by kernel_rfl) rfl fun wd hwd K hK => ?_
    go_simp
    refine (sign_any gb mb B i A n cc _ wd (HBK.out.step ((HB1.out.trans HBC.out).trans hwd)) (HS.out.stepB hwd) hB).mono ?_
    rintro _ we ⟨rfl, hbk, hce⟩
    refine hK _ _ (fun h => absurd (by simp) h) ?_
    have HBK2 := Lib.hid hbk
    have hq1m : q + 1 ≠ mb := by
      have := get_not_mapV (HBK.out.step HB1.out).2 C12.out
      exact this
    have hqm : q ≠ mb := get_not_mapV (HBK.out.step HB1.out).2 C10.out
    have hBD := HBC.out.trans hwd
    have C12e := Lib.hid (hce.get (GB.get hBD C12.out) hq1m)
    have B12e := Lib.hid (hce.free ((blkFree_keep (Below.block hBD _ (get?_lt C12.out))).trans B12.out) (get?_lt (GB.get hBD C12.out)) hq1m)
    have C10e := Lib.hid (hce.get (GB.get hBD C10.out) hqm)
    have B10e := Lib.hid (hce.free ((blkFree_keep (Below.block hBD _ (get?_lt C10.out))).trans B10.out) (get?_lt (GB.get hBD C10.out)) hqm)
    have HCE := Lib.hid (((Chg.of_bel (HB1.out.trans hBD) _).tr hce : Chg (fun k => k = mb) w we))
    clear hK K hbk hce hBD hwd HS HBC C10 C12 B10 B12 F0
    refine wpG_force 8 _ rfl (by kernel_rfl) rfl fun wf hwf K hK => ?_
    go_simp
    refine hK _ _ (fun _ => GB.rf _) ?_
    clear hK K
    refine wpG_force 9 _ rfl (by kernel_rfl) rfl fun wg hwg K hK => ?_
    have hbg := GB.tr _ _ _ hwf hwg
    have s12 := GB.get hbg C12e.out
    have sb12 := (blkFree_keep (Below.block hbg _ (get?_lt C12e.out))).trans B12e.out
    have ssig := GPromise.at_sig s12
    simp only [Addr.add_lit, Nat.zero_add] at ssig
    go_simp
    refine hK _ _ (fun h => absurd (by simp) h) ?_
    obtain ⟨mk, hmk⟩ : ∃ mk, markOf B ⟨i, strB (promiseText0 tm (x0P i epoch tm))⟩ = mk := ⟨_, rfl⟩
    have HMK := Lib.hid (show markOf B (keyP i epoch tm) = mk from hmk)
    rw [hmk]
    have t12 : get? GPromise (World.putCells wg ⟨q + 1, 4, none⟩ (GSig.enc ⟨i, mk⟩)) ⟨q + 1, 0, none⟩ = some ⟨i, epoch, tm, ⟨none, 0, 0⟩, ⟨i, mk⟩⟩ := get?_putSegV s12 (by show 4 + (GSig.enc _).length ≤ 6; rw [GSig.enc_len]; omega) rfl
    have hc9 : Chg (fun k => k = q + 1) wg (World.putCells wg ⟨q + 1, 4, none⟩ (GSig.enc ⟨i, mk⟩)) := chg_put (S := fun k => k = q + 1) rfl _
    have t10 := hc9.get (GB.get hbg C10e.out) (by show ¬ q = q + 1; omega)
    have tb10 := hc9.free ((blkFree_keep (Below.block hbg _ (get?_lt C10e.out))).trans B10e.out) (get?_lt (GB.get hbg C10e.out)) (by show ¬ q = q + 1; omega)
    have HBK3 := Lib.hid ((HBK2.out.step hbg).chg hc9 (get_ne_book HBK2.out.1 C12e.out) (fun e => hq1m e.symm))
    have HC9 := Lib.hid ((HCE.out.tr (Chg.of_bel hbg _)).sub (S' := fun k => k = mb ∨ k = q + 1) (fun k e => .inl e) |>.tr (hc9.sub (fun k e => .inr e)))
    generalize World.putCells wg ⟨q + 1, 4, none⟩ (GSig.enc ⟨i, mk⟩) = wh at t12 t10 tb10 HBK3 HC9 ⊢
    clear hK K hmk ssig sb12 s12 hc9 hbg hwg hwf HBK2 HCE C12e B12e C10e B10e
    refine wpG_end (by kernel_rfl) (fun wn hwn => ?_) _
    have u12 := GB.get hwn t12
    have u10 := GB.get hwn t10
    have ub10 := (blkFree_keep (Below.block hwn _ (get?_lt t10))).trans tb10
    have HBK4 := Lib.hid (HBK3.out.step hwn)
    have HC4 := Lib.hid (HC9.out.tr (Chg.of_bel hwn _))
    clear t12 t10 tb10 HBK3 HC9 hwn
    go_wp2_with fail
    have v10 : get? GPromise (World.putCells wn ⟨q, 0, none⟩ (GPromise.enc ⟨i, epoch, tm, ⟨none, 0, 0⟩, ⟨i, mk⟩⟩)) ⟨q, 0, none⟩ = some ⟨i, epoch, tm, ⟨none, 0, 0⟩, ⟨i, mk⟩⟩ := get?_putV _ u10
    have hcl : Chg (fun k => k = q) wn (World.putCells wn ⟨q, 0, none⟩ (GPromise.enc ⟨i, epoch, tm, ⟨none, 0, 0⟩, ⟨i, mk⟩⟩)) := chg_put (S := fun k => k = q) rfl _
    refine bodyPost_ret (results_cell_tmp (x := (⟨i, epoch, tm, ⟨none, 0, 0⟩, ⟨i, mk⟩⟩ : GPromise)) rfl rfl ag49 sz49 v10) rfl ⟨?_, ?_, ?_⟩
    · rw [HMK.out]
      simp only [GPromise.val_eq]
      rfl
    · exact HBK4.out.chg hcl (get_ne_book HBK4.out.1 u10) (fun e => hqm e.symm)
    · exact chg_new ((HC4.out.sub (fun k e => by rcases e with e | e; exact .inl e; right; rw [HQ.out]; omega)).tr (hcl.sub (fun k e => by right; rw [HQ.out]; omega)))
end Go.Proofs.YtfhhcgldikmejaaGreatDoor
/- Agreement's core, while no vote and no proposal has come. Conditions: those named in each theorem. -/
namespace Go.Proofs.YtfhhcgldikmejaaGreatDoor
open Go Go.RowKit Go.Gv Go.Proofs

/-- At g lies a core over a tally at gt; no proposal has come. -/
structure CoreIs (w : World) (g gt mh mc ma ml mq : Nat) (c : GConf) (ep id : Int) (s : GCoreState) (b1 b2 b3 : Bool) (H : List (GTallyVoter × Bool)) (A : List (GTallyTurn × Int)) (L : List (Int × Int)) : Prop where
  get : get? GCoreCore w ⟨g, 0, none⟩ = some ⟨c, ep, id, s, some ⟨gt, 0, none⟩, some mq, b1, b2, b3⟩
  free : blkFree w g = true
  tal : get? GTallyTally w ⟨gt, 0, none⟩ = some ⟨c, some mh, some mc, some ma, some ml⟩
  props : mapAt Int GCoreProposal w mq = some []
  have_ : mapAt GTallyVoter Bool w mh = some H
  all : mapAt GTallyTurn Int w ma = some A
  last : mapAt Int Int w ml = some L
section
variable {w w' : World} {S : Nat → Prop} {g gt mh mc ma ml mq : Nat} {c : GConf} {ep id : Int} {s : GCoreState} {b1 b2 b3 : Bool} {H : List (GTallyVoter × Bool)} {A : List (GTallyTurn × Int)} {L : List (Int × Int)}
theorem CoreIs.chg (h : CoreIs w g gt mh mc ma ml mq c ep id s b1 b2 b3 H A L) (hc : Chg S w w') (h1 : ¬ S g) (h2 : ¬ S gt) (h3 : ¬ S mq) (h4 : ¬ S mh) (h5 : ¬ S ma) (h6 : ¬ S ml) : CoreIs w' g gt mh mc ma ml mq c ep id s b1 b2 b3 H A L :=
  ⟨hc.get h.get h1, hc.free h.free (get?_lt h.get) h1, hc.get h.tal h2, hc.map h.props h3, hc.map h.have_ h4, hc.map h.all h5, hc.map h.last h6⟩
theorem CoreIs.step (h : CoreIs w g gt mh mc ma ml mq c ep id s b1 b2 b3 H A L) (hb : Bel w w') : CoreIs w' g gt mh mc ma ml mq c ep id s b1 b2 b3 H A L :=
  h.chg (S := fun _ => False) (Chg.of_bel hb _) (fun h => h) (fun h => h) (fun h => h) (fun h => h) (fun h => h) (fun h => h)
end
set_option maxRecDepth 100000 in
set_option maxHeartbeats 1000000 in
theorem tallyNew_any (c : GConf) (w : World) (hv : validB c = true) :
    Calls Tryz.prog 130 #[c.val] w fun e w' => ∃ g mh mc ma ml : Nat, e = .returned (.tuple #[.pointer (some ⟨g, 0, none⟩), .int .i64 0]) ∧ get? GTallyTally w' ⟨g, 0, none⟩ = some ⟨c, some mh, some mc, some ma, some ml⟩ ∧
      mapAt GTallyVoter Bool w' mh = some [] ∧ mapAt GTallyTurn Int w' ma = some [] ∧ mapAt Int Int w' ml = some [] ∧ w.heap.size ≤ g ∧ w.heap.size ≤ mh ∧ w.heap.size ≤ mc ∧ w.heap.size ≤ ma ∧ w.heap.size ≤ ml ∧ Bel w w' := by
  have hmm := @run_makeMap Tryz.prog
  have G := Lib.hid (get?_new (w := w) 24 c)
  have HB := Lib.hid ((Bel.refl w).alloc (.cells (GConf.enc c).toArray 24))
  go_enter Tryz.func130, Tryz.ntmps130
  go_wp2_with fail
  refine (valid_is true c _ hv).mono ?_
  rintro _ w1 ⟨rfl, hb1⟩
  have HB1 := Lib.hid (HB.out.trans hb1)
  have g1 := GB.get hb1 G.out
  have hz := (HB.out.trans hb1).size
  clear hb1
  go_wp2_with fail
  go_ret2
  have hB4 : Bel w1 ((((w1.alloc (.map #[] 0)).alloc (.map #[] 0)).alloc (.map #[] 0)).alloc (.map #[] 0)) := ((((Bel.refl w1).alloc _).alloc _).alloc _).alloc _
  refine ⟨w1.heap.size + 4, w1.heap.size, w1.heap.size + 1, w1.heap.size + 2, w1.heap.size + 3, rfl, ?_, ?_, ?_, ?_, by omega, by omega, by omega, by omega, by omega, (HB1.out.trans hB4).alloc _⟩
  · exact nw336 _ (w1.heap.size + 4) ⟨c, some w1.heap.size, some (w1.heap.size + 1), some (w1.heap.size + 2), some (w1.heap.size + 3)⟩ (by simp)
  · exact mapAt_alloc _ (mapAt_alloc _ (mapAt_alloc _ (mapAt_alloc _ (mapAt_new _ _ w1))))
  · have := mapAt_new GTallyTurn Int ((w1.alloc (.map #[] 0)).alloc (.map #[] 0))
    simp only [World.size_alloc] at this
    exact mapAt_alloc _ (mapAt_alloc _ this)
  · have := mapAt_new Int Int (((w1.alloc (.map #[] 0)).alloc (.map #[] 0)).alloc (.map #[] 0))
    rw [show (((w1.alloc (.map #[] 0)).alloc (.map #[] 0)).alloc (.map #[] 0)).heap.size = w1.heap.size + 3 by simp] at this
    exact mapAt_alloc _ this
set_option maxRecDepth 100000 in
set_option maxHeartbeats 2000000 in
theorem coreNew_any (c : GConf) (ep id : Int) (w : World) (hv : validB c = true) (hi : inB c id = true) (h0 : 0 ≤ ep) (h1 : ep ≤ 1048576) :
    Calls Tryz.prog 78 #[c.val, .int .i64 ep, .int .i64 id] w fun e w' => ∃ g gt mh mc ma ml mq : Nat, e = .returned (.tuple #[.pointer (some ⟨g, 0, none⟩), .int .i64 0]) ∧
      CoreIs w' g gt mh mc ma ml mq c ep id ⟨0, 0, -1, -1, default, default, false, default⟩ false false false [] [] [] ∧ (∀ k, k = g ∨ k = gt ∨ k = mh ∨ k = mc ∨ k = ma ∨ k = ml ∨ k = mq → w.heap.size ≤ k) ∧ g ≠ gt ∧ Bel w w' := by
  have hmm := @run_makeMap Tryz.prog
  obtain ⟨v1, v2, v3, v4⟩ := validB_iff.1 hv
  have G := Lib.hid (get?_new (w := w) 24 c)
  have HB := Lib.hid ((Bel.refl w).alloc (.cells (GConf.enc c).toArray 24))
  have e1 : ¬ ep < 0 := by omega
  have e2 : ¬ (1048576 : Int) < ep := by omega
  go_enter Tryz.func78, Tryz.ntmps78
  go_wp2_with fail
  refine (valid_is true c _ hv).mono ?_
  rintro _ w1 ⟨rfl, hb1⟩
  have HB1 := Lib.hid (HB.out.trans hb1)
  have g1 := GB.get hb1 G.out
  clear hb1
  go_wp2_with fail
  refine (in_is true c id _ hi (by omega) (by omega)).mono ?_
  rintro _ w2 ⟨rfl, hb2⟩
  have HB2 := Lib.hid (HB1.out.trans hb2)
  have g2 := GB.get hb2 g1
  have G2 := Lib.hid g2
  clear hb2 g1
  go_wp2_with fail
  refine (tallyNew_any c _ hv).mono ?_
  rintro _ w3 ⟨gt, mh, mc, ma, ml, rfl, ht, hh, ha, hl, l1, l2, l3, l4, l5, hb3⟩
  have g3 := GB.get hb3 g2
  have HB3 := Lib.hid (HB2.out.trans hb3)
  have hz := HB2.out.size
  have hz3 := hb3.size
  have HT := Lib.hid ht; have HH := Lib.hid hh; have HA := Lib.hid ha; have HL := Lib.hid hl
  have hgt := get?_lt ht
  clear hb3 g2 ht hh ha hl G2
  go_wp2_with fail
  go_ret2
  refine ⟨w3.heap.size + 1, gt, mh, mc, ma, ml, w3.heap.size, rfl, ⟨?_, ?_, ?_, ?_, ?_, ?_, ?_⟩, ?_, ?_, (HB3.out.alloc _).alloc _⟩
  · exact nw201 (w3.alloc (.map #[] 0)) (w3.heap.size + 1) ⟨c, ep, id, ⟨0, 0, -1, -1, default, default, false, default⟩, some ⟨gt, 0, none⟩, some w3.heap.size, false, false, false⟩ (by simp)
  · exact blkFree_new _ _ (by simp)
  · exact get?_alloc _ (get?_alloc _ HT.out)
  · exact mapAt_alloc _ (mapAt_new _ _ w3)
  · exact mapAt_alloc _ (mapAt_alloc _ HH.out)
  · exact mapAt_alloc _ (mapAt_alloc _ HA.out)
  · exact mapAt_alloc _ (mapAt_alloc _ HL.out)
  · rintro k (rfl | rfl | rfl | rfl | rfl | rfl | rfl) <;> omega
  · have := hgt; omega
set_option maxRecDepth 100000 in
set_option maxHeartbeats 1000000 in
theorem proposer_any (c : GConf) (f e r : Nat) (w : World) (hf : c.f = (f : Int)) (h1 : f ≤ 21) (he : e ≤ 1048576) (hr : r ≤ 1048577) :
    Calls Tryz.prog 98 #[c.val, .int .i64 (e : Int), .int .i64 (r : Int)] w fun x w' => x = .returned (.int .i64 (((e % (3 * f + 1) + r % (3 * f + 1)) % (3 * f + 1) : Nat) : Int)) ∧ Bel w w' := by
  have HF := Lib.hid hf
  have G := Lib.hid (get?_new (w := w) 24 c)
  have HB := Lib.hid ((Bel.refl w).alloc (.cells (GConf.enc c).toArray 24))
  obtain ⟨n, hn⟩ : ∃ n, 3 * f + 1 = n := ⟨_, rfl⟩
  have HN := Lib.hid (show 3 * c.f + 1 = (n : Int) by rw [hf, ← hn]; omega)
  have hn9 : 1 ≤ n ∧ n ≤ 64 := by omega
  have hn1 : ¬ (n : Int) < 1 := by omega
  rw [hn]
  have hE : (if 0 < e then (e : Int) else 0) = e := by split <;> omega
  have hR : (if 0 < r then (r : Int) else 0) = r := by split <;> omega
  clear hf
  go_enter Tryz.func98, Tryz.ntmps98
  go_wp2_with fail
  refine (n_any c _ (by have := HF.out; omega) (by have := HF.out; omega)).mono ?_
  rw [HN.out]
  rintro _ w1 ⟨rfl, hb1⟩
  have HB1 := Lib.hid (HB.out.trans hb1)
  clear hb1 hn
  go_wp2_with fail
  go_region
  go_wp2_with fail
  go_ret
  refine ⟨?_, HB1.out.drew⟩
  have b1 := Nat.mod_lt e (show 0 < n by omega)
  have b2 := Nat.mod_lt r (show 0 < n by omega)
  have a1 : (e : Int) % (n : Int) = ((e % n : Nat) : Int) := by omega
  have a2 : (r : Int) % (n : Int) = ((r % n : Nat) : Int) := by omega
  refine ret_int ?_
  have hw : wrap64 ((e : Int) % (n : Int) + (r : Int) % (n : Int)) = (e : Int) % (n : Int) + (r : Int) % (n : Int) := IntWalk.wrap64_in _ (by omega)
  rw [hw, Int.tmod_eq_emod_of_nonneg (by omega)]
  simp
end Go.Proofs.YtfhhcgldikmejaaGreatDoor
/- The core's rules, while none holds; its start. Conditions: those named in each theorem. -/
namespace Go.Proofs.YtfhhcgldikmejaaGreatDoor
open Go Go.RowKit Go.Gv Go.Proofs

section
variable {w : World} {g gt mh mc ma ml mq : Nat} {c : GConf} {ep id : Int} {s : GCoreState} {b1 b2 b3 : Bool} {H : List (GTallyVoter × Bool)} {A : List (GTallyTurn × Int)} {L : List (Int × Int)}
theorem CoreIs.cells (h : CoreIs w g gt mh mc ma ml mq c ep id s b1 b2 b3 H A L) :
    w.cell? ⟨g, 0, none⟩ = some (.int .i64 c.f) ∧ w.cell? ⟨g, 2, none⟩ = some (.int .i64 ep) ∧ w.cell? ⟨g, 3, none⟩ = some (.int .i64 id) ∧ w.cell? ⟨g, 4, none⟩ = some (.int .i64 s.round) ∧ w.cell? ⟨g, 5, none⟩ = some (.int .i64 s.step) ∧
    w.cell? ⟨g, 7, none⟩ = some (.int .i64 s.validRound) ∧ w.cell? ⟨g, 72, none⟩ = some (.bool s.decided) ∧ w.cell? ⟨g, 105, none⟩ = some (.pointer (some ⟨gt, 0, none⟩)) ∧ w.cell? ⟨g, 106, none⟩ = some (.map (some mq)) ∧
    w.cell? ⟨g, 107, none⟩ = some (.bool b1) ∧ w.cell? ⟨g, 108, none⟩ = some (.bool b2) ∧ w.cell? ⟨g, 109, none⟩ = some (.bool b3) ∧
    get? GConf w ⟨g, 0, none⟩ = some c ∧ get? GHash w ⟨g, 40, none⟩ = some s.valid ∧ w.cell? ⟨gt, 4, none⟩ = some (.map (some ma)) ∧ w.cell? ⟨gt, 5, none⟩ = some (.map (some ml)) := by
  have a0 := GConf.at_f (GCoreCore.at_c h.get)
  have a1 := GCoreCore.at_epoch h.get
  have a2 := GCoreCore.at_replica h.get
  have a3 := GCoreState.at_round (GCoreCore.at_s h.get)
  have a4 := GCoreState.at_step (GCoreCore.at_s h.get)
  have a5 := GCoreState.at_validRound (GCoreCore.at_s h.get)
  have a6 := GCoreState.at_decided (GCoreCore.at_s h.get)
  have a7 := GCoreCore.at_t h.get
  have a8 := GCoreCore.at_proposals h.get
  have a9 := GCoreCore.at_wasValid h.get
  have a10 := GCoreCore.at_setPrevote h.get
  have a11 := GCoreCore.at_setPrecommit h.get
  have a12 := GCoreCore.at_c h.get
  have a13 := GCoreState.at_valid (GCoreCore.at_s h.get)
  have a14 := GTallyTally.at_all h.tal
  have a15 := GTallyTally.at_last h.tal
  simp only [Addr.add_lit, Nat.zero_add, Nat.reduceAdd] at a0 a1 a2 a3 a4 a5 a6 a7 a8 a9 a10 a11 a12 a13 a14 a15
  exact ⟨a0, a1, a2, a3, a4, a5, a6, a7, a8, a9, a10, a11, a12, a13, a14, a15⟩
end
def allOf (A : List (GTallyTurn × Int)) (k r : Int) : Int := (mget A ⟨k, r⟩).getD 0
set_option maxRecDepth 100000 in
set_option maxHeartbeats 400000 in
theorem all_any (gt ma : Nat) (A : List (GTallyTurn × Int)) (k r : Int) (w : World) (f0 : w.cell? ⟨gt, 4, none⟩ = some (.map (some ma))) (hm : mapAt GTallyTurn Int w ma = some A) :
    Calls Tryz.prog 186 #[.pointer (some ⟨gt, 0, none⟩), .int .i64 k, .int .i64 r] w fun e w' => e = .returned (.int .i64 (allOf A k r)) ∧ w' = w := by
  go_enter Tryz.func186, Tryz.ntmps186
  go_wp2_with fail
  try go_region
  try go_wp2_with fail
  go_ret
  exact ⟨rfl, rfl⟩
set_option maxRecDepth 100000 in
set_option maxHeartbeats 1000000 in
theorem decided0_any (g gt mh mc ma ml mq : Nat) (c : GConf) (ep id : Int) (s : GCoreState) (b1 b2 b3 : Bool) (H : List (GTallyVoter × Bool)) (A : List (GTallyTurn × Int)) (L : List (Int × Int)) (w : World) (h : CoreIs w g gt mh mc ma ml mq c ep id s b1 b2 b3 H A L) :
    Calls Tryz.prog 182 #[.pointer (some ⟨g, 0, none⟩)] w fun e w' => e = .returned (.int .i64 (-1)) ∧ Bel w w' := by
  obtain ⟨_, _, _, _, _, _, _, _, f8, _⟩ := h.cells
  obtain ⟨o, hrg, hR⟩ := ranges_start (P := Tryz.prog) um199 h.props
  have hnx : ∀ ty : TypeId, (Instr.next (.pointer (some ⟨w.heap.size, 0, none⟩)) false ty).run Tryz.prog (w.alloc o) = .ok (.tuple #[.bool false]) (w.alloc o) := by
    rcases hR.next Tryz.prog with ⟨_, h⟩ | ⟨l1, p, l2, w', h, _⟩
    · exact h
    · cases l1 <;> cases h
  clear hR h
  go_enter Tryz.func182, Tryz.ntmps182
  go_wp2_with fail
  go_loopw [3] (fun v wr => v = .int .i64 (-1) ∧ wr = w.alloc o) (fun _ _ => 0)
  case atStart => exact ⟨rfl, rfl⟩
  case round =>
    obtain ⟨rfl, rfl⟩ := hrel
    go_wp2_with fail
    go_ret
    exact ⟨rfl, (Bel.refl w).alloc _⟩
set_option maxRecDepth 100000 in
set_option maxHeartbeats 1000000 in
theorem far_any (gt ml : Nat) (L : List (Int × Int)) (above many : Int) (w : World) (f0 : w.cell? ⟨gt, 5, none⟩ = some (.map (some ml))) (hm : mapAt Int Int w ml = some L) (hL : ∀ p ∈ L, p.2 ≤ above) :
    Calls Tryz.prog 183 #[.pointer (some ⟨gt, 0, none⟩), .int .i64 above, .int .i64 many] w fun e w' => e = .returned (.int .i64 (-1)) ∧ Bel w w' := by
  obtain ⟨o, hrg, hR⟩ := ranges_start (P := Tryz.prog) um334 hm
  have HR := Lib.hid hR; have HL := Lib.hid hL
  clear hR hm hL
  go_enter Tryz.func183, Tryz.ntmps183
  go_wp2_with fail
  go_loopw [7] (fun v wr => ∃ l, v = .int .i64 (-1) ∧ Hid (Ranges wr ml w.heap.size L l) ∧ (∀ p ∈ l, p ∈ L) ∧ Hid (Bel w wr)) (fun _ wr => wr.rangeLeft ml w.heap.size)
  case atStart => exact ⟨L, rfl, HR, fun p hp => hp, Lib.hid ((Bel.refl w).alloc _)⟩
  case round =>
    obtain ⟨l, rfl, hr, hsub, hb⟩ := hrel
    have hmz := hr.out.leftN
    rcases hr.out.next Tryz.prog with ⟨h0, hnx⟩ | ⟨l1, p, l2, w', hl, hnx, hR2, hg, hsz, hen⟩
    · clear hsub
      go_wp2_with fail
      go_ret
      exact ⟨rfl, hb.out⟩
    · have hp := HL.out p (hsub p (by rw [hl]; simp))
      have hn2 := hR2.leftN
      have hlen : (l1 ++ l2).length < l.length := by rw [hl]; simp
      have HR2 := Lib.hid hR2
      have HB2 := Lib.hid (show Bel w w' from Below.grown hb.out hg (hb.out.size) (fun k e => by injection e with e; omega))
      have HS2 := Lib.hid (show ∀ p ∈ l1 ++ l2, p ∈ L from fun q hq => hsub q (by rw [hl]; rcases List.mem_append.1 hq with h | h; exact List.mem_append_left _ h; exact List.mem_append_right _ (List.mem_cons_of_mem _ h)))
      obtain ⟨pk, pv⟩ := p
      have hpv : ¬ above < pv := by have := hp; simp only at this ⊢; omega
      change ∀ ty : TypeId, (Instr.next (.pointer (some ⟨w.heap.size, 0, none⟩)) false ty).run Tryz.prog wr = .ok (.tuple #[.bool true, .int .i64 pk, .int .i64 pv]) w' at hnx
      change (Instr.entry (.pointer (some ⟨w.heap.size, 0, none⟩))).run Tryz.prog w' = .ok (.tuple #[.int .i64 pk, .int .i64 pv]) w' at hen
      clear hsub hp hR2 hg hl
      go_wp2_with fail
      exact ⟨⟨l1 ++ l2, rfl, HR2, HS2.out, HB2⟩, by rw [hn2, hmz]; exact hlen⟩
end Go.Proofs.YtfhhcgldikmejaaGreatDoor
/- The core where no rule holds; a round entered; the start. Conditions: those named in each theorem. -/
namespace Go.Proofs.YtfhhcgldikmejaaGreatDoor
open Go Go.RowKit Go.Gv Go.Proofs

set_option maxRecDepth 100000 in
set_option maxHeartbeats 8000000 in
theorem rule0_any (g gt mh mc ma ml mq : Nat) (c : GConf) (ep id : Int) (s : GCoreState) (b1 b2 b3 : Bool) (H : List (GTallyVoter × Bool)) (A : List (GTallyTurn × Int)) (L : List (Int × Int)) (w : World) (h : CoreIs w g gt mh mc ma ml mq c ep id s b1 b2 b3 H A L) (hf : 1 ≤ c.f ∧ c.f ≤ 21) (hL : ∀ p ∈ L, p.2 ≤ s.round) (hst : s.step = 1) (hb3 : b3 = false) (hA : allOf A 2 s.round < 2 * c.f + 1) :
    Calls Tryz.prog 133 #[.pointer (some ⟨g, 0, none⟩)] w fun e w' => e = .returned (.tuple #[.slice none 0 0, .bool false]) ∧ Bel w w' := by
  subst hb3
  have HH := Lib.hid h; have HL := Lib.hid hL; have HA := Lib.hid hA
  have e1 : IntKind.i64.wrap (c.f + 1) = c.f + 1 := IntWalk.i64_in _ (by omega)
  have HST := Lib.hid hst
  clear h hL hA hst
  go_enter Tryz.func133, Tryz.ntmps133
  go_wp2_with fail
  refine (decided0_any g gt mh mc ma ml mq c ep id s b1 b2 false H A L w HH.out).mono ?_
  rintro _ w1 ⟨rfl, hb1⟩
  have HB1 := Lib.hid hb1
  have H1 := Lib.hid (HH.out.step hb1)
  clear hb1
  go_wp2_with fail
  refine wp_region_G GB [] GB.rf (by kernel_rfl) ?_
  refine wpG_looks 2 17 [0, 1, 2, 3, 4, 5, 6, 7, 8, 9, 10, 11, 12, 13, 14] rfl GB.rf GB.tr (by kernel_rfl) (fun _ _ _ _ hd h => And.intro (hd ▸ And.left h) (And.right h)) rfl (by kernel_rfl) ?_
  intro ι W hne CW
  have k0 := fun z => (H1.out.step (GB.undrew (CW.out z))).cells
  have k1 := fun z => (k0 z).1
  have k2 := fun z => (k0 z).2.2.2.1
  have k3 := fun z => (k0 z).2.2.2.2.2.2.2.1
  clear k0
  repeat (refine wpLooksG_step (fun K hK => ?_); go_simp; refine hK _ ?_; clear hK K)
  refine wpLooksG_nil ?_
  clear k1 k2 k3 CW hne W ι
  refine wpG_force 15 _ rfl (by kernel_rfl) rfl fun wa hwa K hK => ?_
  have HA1 := H1.out.step (GB.undrew hwa)
  go_simp
  refine (far_any gt ml L s.round (c.f + 1) wa HA1.cells.2.2.2.2.2.2.2.2.2.2.2.2.2.2.2 HA1.last HL.out).mono ?_
  rintro _ wb ⟨rfl, hbb⟩
  refine hK _ _ (fun _ => hbb) ?_
  clear hK K HA1
  refine wpG_force 16 _ rfl (by kernel_rfl) rfl fun wc hwc K hK => ?_
  go_simp
  refine hK _ _ (fun _ => GB.rf _) ?_
  clear hK K
  refine wpG_end (by kernel_rfl) (fun wn hwn => ?_) _
  have hbn := Bel.trans (GB.undrew hwa) (Bel.trans hbb (GB.tr _ _ _ hwc hwn))
  have HB2 := Lib.hid (HB1.out.trans hbn)
  have H2 := Lib.hid (H1.out.step hbn)
  clear hbn hwn hwc hbb hwa H1 HB1
  go_wp2_with fail
  have hgl : ¬ wn.heap.size ≤ g := by have := get?_lt H2.out.get; simp only at this; omega
  have hml : ¬ wn.heap.size ≤ mq := by have := mapAt_lt H2.out.props; omega
  have HGL := Lib.hid hgl; have HML := Lib.hid hml
  clear hgl hml
  have hmg : ∀ r : Int, mget ([] : List (Int × GCoreProposal)) r = none := fun _ => rfl
  refine wp_region_H GB (Chg (fun k => wn.heap.size ≤ k)) [13, 14, 15] [] GB.rf (by kernel_rfl) ?_
  refine wpH_looks 3 16 [0, 1, 2, 3, 4, 5, 6, 7, 8, 9, 10, 11, 12] rfl GB.rf GB.tr (Chg.refl _) (fun _ _ _ h k => h.tr k) (fun _ _ h => Chg.of_bel h _) (by kernel_rfl) (fun _ _ _ _ hd h => And.intro (hd ▸ And.left h) (And.right h)) rfl (by kernel_rfl) ?_
  intro ι W hne CW
  have k0 := H2.out.cells
  have k2 := fun z => (CW.out z).cell k0.2.2.2.1 HGL.out
  have k3 := fun z => (CW.out z).cell k0.2.2.2.2.2.2.2.2.1 HGL.out
  have k4 := fun z => (CW.out z).map H2.out.props HML.out
  clear k0
  repeat (refine wpLooksG_step (fun K hK => ?_); go_simp; refine hK _ ?_; clear hK K)
  refine wpLooksG_nil ?_
  clear k2 k3 k4 CW hne W ι
  refine wpH_force 13 _ rfl (by kernel_rfl) rfl fun wa hwa K hK => ?_
  have hz := (GB.undrew hwa).size
  have c6 := get?_new (w := wa) 306 (default : GCoreProposal)
  have b6 : blkFree (wa.alloc (.cells (GCoreProposal.enc default).toArray 306)) wa.heap.size = true := blkFree_new _ _ rfl
  go_simp
  refine hK _ _ (fun h => absurd (by simp) h) (fun _ => Chg.of_bel ((Bel.refl _).alloc _) _) ?_
  clear hK K
  have HBA := Lib.hid ((GB.undrew hwa).alloc (.cells (GCoreProposal.enc default).toArray 306) : Bel wn _)
  obtain ⟨g6, hg6⟩ : ∃ g6, wa.heap.size = g6 := ⟨_, rfl⟩
  rw [hg6] at c6 b6 hz ⊢
  generalize wa.alloc (.cells (GCoreProposal.enc default).toArray 306) = wa2 at c6 b6 HBA ⊢
  clear hwa hg6
  refine wpH_force 14 _ rfl (by kernel_rfl) rfl fun wb hwb K hK => ?_
  have d6 := GB.get hwb c6
  have e6 := (blkFree_keep (Below.block hwb _ (get?_lt c6))).trans b6
  go_simp
  refine hK _ _ (fun h => absurd (by simp) h) (fun _ => chg_put hz _) ?_
  clear hK K
  have HCB := Lib.hid (((Chg.of_bel (HBA.out.trans hwb) _).tr (chg_put (S := fun k => wn.heap.size ≤ k) hz (GCoreProposal.enc default))) : Chg (fun k => wn.heap.size ≤ k) wn (World.putCells wb ⟨g6, 0, none⟩ (GCoreProposal.enc default)))
  have d7 : get? GCoreProposal (World.putCells wb ⟨g6, 0, none⟩ (GCoreProposal.enc default)) ⟨g6, 0, none⟩ = some default := get?_putV _ d6
  generalize World.putCells wb ⟨g6, 0, none⟩ (GCoreProposal.enc default) = wb2 at HCB d7 ⊢
  clear hwb c6 b6 d6 e6 HBA hz
  refine wpH_force 15 _ rfl (by kernel_rfl) rfl fun wc hwc K hK => ?_
  go_simp
  refine hK _ _ (fun h => absurd (by simp) h) (fun _ => Chg.refl _ _) ?_
  clear hK K
  refine wpH_end (by kernel_rfl) (fun we hwe => ?_) _
  have HB3 := Lib.hid (HB2.out.trans ((HCB.out.tr (Chg.of_bel (GB.tr _ _ _ hwc hwe) _)).bel (fun k h => h)))
  have H3 := Lib.hid (H2.out.step ((HCB.out.tr (Chg.of_bel (GB.tr _ _ _ hwc hwe) _)).bel (fun k h => h)))
  clear hwe hwc HCB d7 HGL HML H2 HB2
  have k0 := H3.out.cells
  have k4 := k0.2.2.2.2.1
  rw [HST.out] at k4
  clear k0
  go_wp2_with fail
  refine wp_region_G GB [] GB.rf (by kernel_rfl) ?_
  refine wpG_looks 2 12 [0, 1, 2, 3, 4, 5, 6, 7, 8, 9] rfl GB.rf GB.tr (by kernel_rfl) (fun _ _ _ _ hd h => And.intro (hd ▸ And.left h) (And.right h)) rfl (by kernel_rfl) ?_
  intro ι W hne CW
  clear k4
  have k0 := fun z => (H3.out.step (GB.undrew (CW.out z))).cells
  have k1 := fun z => (k0 z).2.2.2.2.2.2.2.2.2.2.2.2.1
  have k2 := fun z => (k0 z).2.2.2.1
  clear k0
  refine wpLooksG_step (fun K hK => ?_); go_simp; refine hK _ ?_; clear hK K
  refine wpLooksG_step (fun K hK => ?_); go_simp; refine hK _ ?_; clear hK K
  refine wpLooksG_step (fun K hK => ?_); go_simp; refine hK _ ?_; clear hK K
  refine wpLooksG_step (fun K hK => ?_); go_simp; refine hK _ ?_; clear hK K
  refine wpLooksG_step (fun K hK => ?_)
  go_simp
  refine ⟨_, fun z => q_any c (W z) (by omega) (by omega), hK _ ?_⟩
  clear hK K
  repeat (refine wpLooksG_step (fun K hK => ?_); go_simp; refine hK _ ?_; clear hK K)
  refine wpLooksG_nil ?_
  clear k1 k2 CW hne W ι
  refine wpG_force 10 _ rfl (by kernel_rfl) rfl fun wa hwa K hK => ?_
  go_simp
  refine hK _ _ (fun _ => GB.rf _) ?_
  clear hK K
  refine wpG_force 11 _ rfl (by kernel_rfl) rfl fun wb hwb K hK => ?_
  go_simp
  refine hK _ _ (fun _ => GB.rf _) ?_
  clear hK K
  refine wpG_end (by kernel_rfl) (fun wn2 hwn => ?_) _
  have hbn := GB.undrew (GB.tr _ _ _ (GB.tr _ _ _ hwa hwb) hwn)
  have HB4 := Lib.hid (HB3.out.trans hbn)
  have H4 := Lib.hid (H3.out.step hbn)
  clear hbn hwn hwb hwa H3 HB3
  have k0 := H4.out.cells
  have k4 := k0.2.2.2.2.1
  rw [HST.out] at k4
  have k5 := k0.2.2.2.2.2.2.2.2.2.2.2.1
  have k6 := k0.2.2.2.2.2.2.2.1
  clear k0
  go_wp2_with fail
  go_big_quiet (fail)
  go_wp2_with fail
  have H5 := fun n => H4.out.step (bdN (Below.refl wn2.heap.size wn2) n)
  refine (all_any gt ma A 2 s.round _ (H5 _).cells.2.2.2.2.2.2.2.2.2.2.2.2.2.2.1 (H5 _).all).mono ?_
  obtain ⟨na, hna⟩ : ∃ na, allOf A 2 s.round = na := ⟨_, rfl⟩
  have hq9 : ¬ 2 * c.f + 1 ≤ na := by have := HA.out; rw [hna] at this; omega
  rw [hna]
  rintro _ w9 ⟨rfl, hw9⟩
  clear hna
  go_wp2_with fail
  go_ret2
  exact ⟨rfl, HB4.out.trans (bdN (Below.refl _ _) _)⟩
set_option maxRecDepth 100000 in
set_option maxHeartbeats 2000000 in
theorem settle0_any (g gt mh mc ma ml mq : Nat) (c : GConf) (ep id : Int) (s : GCoreState) (b1 b2 b3 : Bool) (H : List (GTallyVoter × Bool)) (A : List (GTallyTurn × Int)) (L : List (Int × Int)) (w : World) (h : CoreIs w g gt mh mc ma ml mq c ep id s b1 b2 b3 H A L) (hf : 1 ≤ c.f ∧ c.f ≤ 21) (hL : ∀ p ∈ L, p.2 ≤ s.round) (hst : s.step = 1) (hd : s.decided = false) (hb3 : b3 = false) (hA : allOf A 2 s.round < 2 * c.f + 1) :
    Calls Tryz.prog 84 #[.pointer (some ⟨g, 0, none⟩)] w fun e w' => e = .returned (.slice none 0 0) ∧ Bel w w' := by
  have HH := Lib.hid h; have HL := Lib.hid hL; have HA := Lib.hid hA; have HST := Lib.hid hst; have HD := Lib.hid hd; have HB3 := Lib.hid hb3; have HF := Lib.hid hf
  clear h hL hA hst hd hb3 hf
  go_enter Tryz.func84, Tryz.ntmps84
  go_wp2_with fail
  go_loopw [3] (fun ov wr => ov = .slice none 0 0 ∧ Hid (Bel w wr)) (fun _ _ => 0)
  case atStart => exact ⟨rfl, Lib.hid (Bel.refl w)⟩
  case round =>
    obtain ⟨rfl, hb⟩ := hrel
    have k0 := (HH.out.step hb.out).cells
    have k4 := k0.2.2.2.2.1
    rw [HST.out] at k4
    have k7 := k0.2.2.2.2.2.2.1
    rw [HD.out] at k7
    clear k0
    go_wp2_with fail
    refine (rule0_any g gt mh mc ma ml mq c ep id s b1 b2 b3 H A L wr (HH.out.step hb.out) HF.out HL.out HST.out HB3.out HA.out).mono ?_
    rintro _ w2 ⟨rfl, hb2⟩
    have HB2 := Lib.hid (hb.out.trans hb2)
    clear hb2 k4 k7
    go_wp2_with fail
    go_ret
    exact ⟨rfl, HB2.out⟩
set_option maxRecDepth 100000 in
set_option maxHeartbeats 400000 in
theorem timer_any (g gt mh mc ma ml mq : Nat) (c : GConf) (ep id : Int) (s : GCoreState) (b1 b2 b3 : Bool) (H : List (GTallyVoter × Bool)) (A : List (GTallyTurn × Int)) (L : List (Int × Int)) (w : World) (h : CoreIs w g gt mh mc ma ml mq c ep id s b1 b2 b3 H A L) (kind : Int) :
    Calls Tryz.prog 132 #[.pointer (some ⟨g, 0, none⟩), .int .i64 kind] w fun e w' => e = .returned (GCoreAct.val ⟨4, s.round, kind, default⟩) ∧ Bel w w' := by
  have k0 := h.cells
  have k2 := k0.2.2.2.1
  clear k0
  have hgl : g < w.heap.size := get?_lt h.get
  clear h
  go_enter Tryz.func132, Tryz.ntmps132
  go_wp2_with fail
  refine bodyPost_ret (results_cell (x := (⟨4, s.round, kind, default⟩ : GCoreAct)) rfl rfl ag193 sz193 (get?_new _ _)) rfl ⟨?_, (Bel.refl w).alloc _⟩
  simp only [GCoreAct.val_eq]
theorem core_round (x : GCoreCore) (v : Int) : Enc.enc ({ x with s := { x.s with round := v } } : GCoreCore) = (Enc.enc x).set 4 (.int .i64 v) := rfl
theorem core_step (x : GCoreCore) (v : Int) : Enc.enc ({ x with s := { x.s with step := v } } : GCoreCore) = (Enc.enc x).set 5 (.int .i64 v) := rfl
theorem core_b1 (x : GCoreCore) (v : Bool) : Enc.enc ({ x with wasValid := v } : GCoreCore) = (Enc.enc x).set 107 (.bool v) := by
  show GCoreCore.enc _ = (GCoreCore.enc _).set _ _
  simp [GCoreCore.enc, GConf.enc_len, GCoreState.enc_len]
theorem core_b2 (x : GCoreCore) (v : Bool) : Enc.enc ({ x with setPrevote := v } : GCoreCore) = (Enc.enc x).set 108 (.bool v) := by
  show GCoreCore.enc _ = (GCoreCore.enc _).set _ _
  simp [GCoreCore.enc, GConf.enc_len, GCoreState.enc_len]
theorem core_b3 (x : GCoreCore) (v : Bool) : Enc.enc ({ x with setPrecommit := v } : GCoreCore) = (Enc.enc x).set 109 (.bool v) := by
  show GCoreCore.enc _ = (GCoreCore.enc _).set _ _
  simp [GCoreCore.enc, GConf.enc_len, GCoreState.enc_len]
end Go.Proofs.YtfhhcgldikmejaaGreatDoor
/- A round entered; the core's start. Conditions: those named in each theorem. -/
namespace Go.Proofs.YtfhhcgldikmejaaGreatDoor
open Go Go.RowKit Go.Gv Go.Proofs

def entered (s : GCoreState) (r : Int) : GCoreState := { s with round := r, step := 1 }
def enterAct (s : GCoreState) (id r : Int) (p : Nat) : GCoreAct := if (p : Int) = id then ⟨1, r, s.validRound, s.valid⟩ else ⟨4, r, 1, default⟩
set_option maxRecDepth 100000 in
set_option maxHeartbeats 4000000 in
theorem enter_any (g gt mh mc ma ml mq : Nat) (c : GConf) (ep id : Int) (s : GCoreState) (b1 b2 b3 : Bool) (H : List (GTallyVoter × Bool)) (A : List (GTallyTurn × Int)) (L : List (Int × Int)) (w : World) (h : CoreIs w g gt mh mc ma ml mq c ep id s b1 b2 b3 H A L) (f e r : Nat) (hf : c.f = (f : Int)) (hf1 : f ≤ 21) (he : ep = (e : Int)) (he1 : e ≤ 1048576) (hr : r ≤ 1048576) (hgt : g ≠ gt) :
    Calls Tryz.prog 83 #[.pointer (some ⟨g, 0, none⟩), .int .i64 (r : Int)] w fun x w' => ∃ A2 : Option Addr, x = .returned (.slice A2 1 1) ∧ Sl GCoreAct w' w'.heap.size A2 1 [enterAct s id r ((e % (3 * f + 1) + r % (3 * f + 1)) % (3 * f + 1))] ∧
      CoreIs w' g gt mh mc ma ml mq c ep id (entered s r) false false false H A L ∧ Chg (fun k => k = g) w w' := by
  subst he
  have HH := Lib.hid h
  have k0 := h.cells
  have f4 := k0.2.2.2.1
  have f5 := k0.2.2.2.2.1
  have f7 := k0.2.2.2.2.2.2.2.2.2.1
  have f8 := k0.2.2.2.2.2.2.2.2.2.2.1
  have f9 := k0.2.2.2.2.2.2.2.2.2.2.2.1
  clear k0 h
  have hfz := frozen_of_free (a := ⟨g, 4, none⟩) HH.out.free
  have hfz5 := frozen_of_free (a := ⟨g, 5, none⟩) HH.out.free
  have hfz7 := frozen_of_free (a := ⟨g, 107, none⟩) HH.out.free
  have hfz8 := frozen_of_free (a := ⟨g, 108, none⟩) HH.out.free
  have hfz9 := frozen_of_free (a := ⟨g, 109, none⟩) HH.out.free
  have hr1 : ¬ (1048576 : Int) < (r : Int) := by omega
  go_enter Tryz.func83, Tryz.ntmps83
  go_upto_region 5 with fail
  have hg5 : get? GCoreCore (((((w.setCell ⟨g, 4, none⟩ (.int .i64 r)).setCell ⟨g, 5, none⟩ (.int .i64 1)).setCell ⟨g, 107, none⟩ (.bool false)).setCell ⟨g, 108, none⟩ (.bool false)).setCell ⟨g, 109, none⟩ (.bool false)) ⟨g, 0, none⟩ = some ⟨c, e, id, entered s r, some ⟨gt, 0, none⟩, some mq, false, false, false⟩ :=
    get?_poke (get?_poke (get?_poke (get?_poke (get?_poke HH.out.get (core_round ⟨c, e, id, s, some ⟨gt, 0, none⟩, some mq, b1, b2, b3⟩ r)) (core_step ⟨c, e, id, { s with round := r }, some ⟨gt, 0, none⟩, some mq, b1, b2, b3⟩ 1)) (core_b1 ⟨c, e, id, entered s r, some ⟨gt, 0, none⟩, some mq, b1, b2, b3⟩ false)) (core_b2 ⟨c, e, id, entered s r, some ⟨gt, 0, none⟩, some mq, false, b2, b3⟩ false)) (core_b3 ⟨c, e, id, entered s r, some ⟨gt, 0, none⟩, some mq, false, false, b3⟩ false)
  have hc5 : Chg (fun k => k = g) w (((((w.setCell ⟨g, 4, none⟩ (.int .i64 r)).setCell ⟨g, 5, none⟩ (.int .i64 1)).setCell ⟨g, 107, none⟩ (.bool false)).setCell ⟨g, 108, none⟩ (.bool false)).setCell ⟨g, 109, none⟩ (.bool false)) :=
    ((((chg_cell (S := fun k => k = g) rfl _).tr (chg_cell (S := fun k => k = g) rfl _)).tr (chg_cell (S := fun k => k = g) rfl _)).tr (chg_cell (S := fun k => k = g) rfl _)).tr (chg_cell (S := fun k => k = g) rfl _)
  have hb5 : blkFree (((((w.setCell ⟨g, 4, none⟩ (.int .i64 r)).setCell ⟨g, 5, none⟩ (.int .i64 1)).setCell ⟨g, 107, none⟩ (.bool false)).setCell ⟨g, 108, none⟩ (.bool false)).setCell ⟨g, 109, none⟩ (.bool false)) g = true := by
    rw [blkFree_setCell, blkFree_setCell, blkFree_setCell, blkFree_setCell, blkFree_setCell]; exact HH.out.free
  clear f4 f5 f7 f8 f9 hfz hfz5 hfz7 hfz8 hfz9
  generalize ((((w.setCell ⟨g, 4, none⟩ (.int .i64 r)).setCell ⟨g, 5, none⟩ (.int .i64 1)).setCell ⟨g, 107, none⟩ (.bool false)).setCell ⟨g, 108, none⟩ (.bool false)).setCell ⟨g, 109, none⟩ (.bool false) = wE at hg5 hc5 hb5 ⊢
  have nq : ¬ mq = g := fun e => get_not_mapV HH.out.props HH.out.get e.symm
  have nh : ¬ mh = g := fun e => get_not_mapV HH.out.have_ HH.out.get e.symm
  have na : ¬ ma = g := fun e => get_not_mapV HH.out.all HH.out.get e.symm
  have nl : ¬ ml = g := fun e => get_not_mapV HH.out.last HH.out.get e.symm
  have HE := Lib.hid (show CoreIs wE g gt mh mc ma ml mq c e id (entered s r) false false false H A L from ⟨hg5, hb5, hc5.get HH.out.tal (fun e => hgt e.symm), hc5.map HH.out.props nq, hc5.map HH.out.have_ nh, hc5.map HH.out.all na, hc5.map HH.out.last nl⟩)
  have HC5 := Lib.hid hc5
  clear hg5 hc5 hb5 nq nh na nl
  obtain ⟨p, hp⟩ : ∃ p, (e % (3 * f + 1) + r % (3 * f + 1)) % (3 * f + 1) = p := ⟨_, rfl⟩
  have HP := Lib.hid hp
  refine wp_region_G GB [] GB.rf (by kernel_rfl) ?_
  refine wpG_looks 2 15 [0, 1, 2, 3, 4, 5, 6, 7, 8, 10, 11, 12, 13] rfl GB.rf GB.tr (by kernel_rfl) (fun _ _ _ _ hd h => And.intro (hd ▸ And.left h) (And.right h)) rfl (by kernel_rfl) ?_
  intro ι W hne CW
  have k0 := fun z => (HE.out.step (GB.undrew (CW.out z))).cells
  have k1 := fun z => (k0 z).2.1
  have k2 := fun z => (k0 z).2.2.1
  have k3 := fun z => (k0 z).2.2.2.2.2.2.2.2.2.2.2.2.1
  clear k0
  repeat (refine wpLooksG_step (fun K hK => ?_); go_simp; refine hK _ ?_; clear hK K)
  refine wpLooksG_nil ?_
  clear k1 k2 k3 CW hne W ι
  refine wpG_force 9 _ rfl (by kernel_rfl) rfl fun wa hwa K hK => ?_
  go_simp
  refine (proposer_any c f e r wa hf hf1 he1 (by omega)).mono ?_
  rw [hp]
  rintro _ wb ⟨rfl, hbb⟩
  refine hK _ _ (fun _ => hbb) ?_
  clear hK K
  refine wpG_force 14 _ rfl (by kernel_rfl) rfl fun wc hwc K hK => ?_
  go_simp
  refine hK _ _ (fun _ => GB.rf _) ?_
  clear hK K
  refine wpG_end (by kernel_rfl) (fun wn hwn => ?_) _
  have hbn := Bel.trans (GB.undrew hwa) (Bel.trans hbb (GB.tr _ _ _ hwc hwn))
  have HN := Lib.hid (HE.out.step hbn)
  have HCN := Lib.hid (HC5.out.tr (Chg.of_bel hbn _))
  clear hbn hwn hwc hbb hwa HE HC5 hp
  by_cases hpi : (p : Int) = id
  · have hpb : ((p : Int) == id) = true := by rw [beq_iff_eq]; exact hpi
    have HA := Lib.hid (show enterAct s id r p = ⟨1, r, s.validRound, s.valid⟩ by unfold enterAct; rw [if_pos hpi])
    have k0 := HN.out.cells
    have k1 := k0.2.2.2.2.2.1
    have k2 := k0.2.2.2.2.2.2.2.2.2.2.2.2.2.1
    clear k0 hpi
    go_wp2_with fail
    go_region
    go_wp2_with fail
    go_ret
    rw [HP.out, HA.out]
    exact ⟨_, rfl, (Sl.new_ (xs := [(⟨1, r, s.validRound, s.valid⟩ : GCoreAct)]) (by simp; rfl) rfl rfl (by simp)).drew_, HN.out.step ((Bel.refl wn).alloc _).drew, HCN.out.tr (Chg.of_bel ((Bel.refl wn).alloc _).drew _)⟩
  · have hpb : ((p : Int) == id) = false := by rw [beq_eq_false_iff_ne]; exact hpi
    have HA := Lib.hid (show enterAct s id r p = ⟨4, r, 1, default⟩ by unfold enterAct; rw [if_neg hpi])
    clear hpi
    go_wp2_with fail
    refine (timer_any g gt mh mc ma ml mq c e id (entered s r) false false false H A L wn HN.out 1).mono ?_
    rintro _ wt ⟨rfl, hbt⟩
    have HN2 := Lib.hid (HN.out.step hbt)
    have HCN2 := Lib.hid (HCN.out.tr (Chg.of_bel hbt _))
    clear hbt HN HCN
    go_wp2_with fail
    go_ret
    rw [HP.out, HA.out]
    exact ⟨_, rfl, Sl.new_ (xs := [(⟨4, r, 1, default⟩ : GCoreAct)]) (by simp; rfl) rfl rfl (by simp), HN2.out.step ((Bel.refl wt).alloc _), HCN2.out.tr (Chg.of_bel ((Bel.refl wt).alloc _) _)⟩
theorem gAppend_zeroV {P : Program} {α : Type} [Enc α] {w : World} {e t : TypeId} {by8 : Nat} (E : ElemI P t e α by8) (A A2 : Option Addr) {k c c2 : Nat} (hkc : k ≤ c) (ty : TypeId) : (gAppend #[t, t] ty #[.slice A k c, .slice A2 0 c2]).run P w = .ok (.slice A k c) w := by
  obtain ⟨i, hi, hx⟩ := Option.map_eq_some_iff.1 E.ex
  unfold gAppend
  cases A <;> cases A2 <;> simp [Builtin.append_, run_underlying E.ht, sizeOf, typeInfo, hi, Builtin.lenOf, Builtin.firstCells, hkc, storeCells, loadCells, loadCellsFrom]
set_option maxRecDepth 100000 in
set_option maxHeartbeats 2000000 in
theorem startC_any (g gt mh mc ma ml mq : Nat) (c : GConf) (ep id : Int) (s : GCoreState) (b1 b2 b3 : Bool) (H : List (GTallyVoter × Bool)) (A : List (GTallyTurn × Int)) (L : List (Int × Int)) (w : World) (h : CoreIs w g gt mh mc ma ml mq c ep id s b1 b2 b3 H A L) (f e : Nat) (hf : c.f = (f : Int)) (hf0 : 1 ≤ f) (hf1 : f ≤ 21) (he : ep = (e : Int)) (he1 : e ≤ 1048576) (hgt : g ≠ gt) (hst : s.step = 0) (hd : s.decided = false) (hL : ∀ p ∈ L, p.2 ≤ 0) (hA : allOf A 2 0 < 2 * c.f + 1) :
    Calls Tryz.prog 43 #[.pointer (some ⟨g, 0, none⟩)] w fun x w' => ∃ A2 : Option Addr, x = .returned (.slice A2 1 1) ∧ Sl GCoreAct w' w'.heap.size A2 1 [enterAct s id 0 ((e % (3 * f + 1) + 0 % (3 * f + 1)) % (3 * f + 1))] ∧
      CoreIs w' g gt mh mc ma ml mq c ep id (entered s 0) false false false H A L ∧ Chg (fun k => k = g) w w' := by
  have HH := Lib.hid h; have HL := Lib.hid hL; have HA := Lib.hid hA; have HD := Lib.hid hd; have HF := Lib.hid hf; have HE := Lib.hid he
  have k0 := h.cells
  have f5 := k0.2.2.2.2.1
  rw [hst] at f5
  clear k0 h hL hA hd hst hf he
  go_enter Tryz.func43, Tryz.ntmps43
  go_wp2_with fail
  refine (enter_any g gt mh mc ma ml mq c ep id s b1 b2 b3 H A L w HH.out f e 0 HF.out hf1 HE.out he1 (by omega) hgt).mono ?_
  rintro _ w1 ⟨A2, rfl, hs, hc, hch⟩
  have HS := Lib.hid hs; have HC := Lib.hid hc; have HCH := Lib.hid hch
  clear hs hc hch f5
  go_wp2_with fail
  refine (settle0_any g gt mh mc ma ml mq c ep id (entered s 0) false false false H A L w1 HC.out (by have := HF.out; omega) HL.out rfl HD.out rfl HA.out).mono ?_
  rintro _ w2 ⟨rfl, hb2⟩
  have hap : (gAppend #[126, 126] 126 #[.slice A2 1 1, .slice none 0 0]).run Tryz.prog w2 = .ok (.slice A2 1 1) w2 := gAppend_zeroV ei126 A2 none (by omega) _
  have HS2 := Lib.hid (HS.out.stepB hb2); have HC2 := Lib.hid (HC.out.step hb2); have HCH2 := Lib.hid (HCH.out.tr (Chg.of_bel hb2 _))
  clear hb2
  go_wp2_with fail
  go_ret
  exact ⟨A2, rfl, HS2.out, HC2.out, HCH2.out⟩
end Go.Proofs.YtfhhcgldikmejaaGreatDoor
/- Messages that hold no list, in new memory. Conditions: those named in each theorem. -/
namespace Go.Proofs.YtfhhcgldikmejaaGreatDoor
open Go Go.RowKit Go.Gv Go.Proofs

theorem setCell_id {w : World} {a : Addr} {v : Value} (h : w.cell? a = some v) : w.setCell a v = w := by
  unfold World.cell? at h
  split at h
  · rename_i c e f hb
    split at h
    · cases h
    · rename_i hs
      unfold World.setCell
      have : w.heap.modify a.block (fun | .cells c elem frozen => .cells (if a.spot.isSome then c else c.setIfInBounds a.off v) elem frozen | o => o) = w.heap := by
        apply Array.ext_getElem?
        intro k
        rw [Array.getElem?_modify]
        split
        · rename_i hk
          subst hk
          rw [hb]
          simp only [Option.map_some]
          rw [show c.setIfInBounds a.off v = c by
            apply Array.ext_getElem?
            intro j
            rw [Array.getElem?_setIfInBounds]
            split
            · rename_i hj; subst hj; first | exact h.symm | (rw [if_pos (Array.getElem?_eq_some_iff.1 h).1, h])
            · rfl]
        · rfl
      exact congrArg (fun h => ({ w with heap := h } : World)) this
  · cases h
theorem putFrom_id {w : World} {a : Addr} : ∀ (vs : List Value) (i : Nat), (∀ j v, vs[j]? = some v → w.cell? (a.add (i + j)) = some v) → World.putFrom w a i vs = w
  | [], _, _ => rfl
  | v :: vs, i, h => by
    unfold World.putFrom
    have h0 := h 0 v rfl
    rw [Nat.add_zero] at h0
    rw [setCell_id h0]
    exact putFrom_id vs (i + 1) (fun j u hu => by
      have := h (j + 1) u (by simpa using hu)
      rwa [show i + (j + 1) = i + 1 + j by omega] at this)
/-- A value stored where it stands already. -/
theorem put_id {α : Type} [Enc α] {w : World} {a : Addr} {x : α} (h : get? α w a = some x) : World.putCells w a (Enc.enc x) = w := by
  unfold World.putCells
  exact putFrom_id _ 0 (fun j v hv => by rw [Nat.zero_add]; exact (get?_iff.1 h) j v hv)
set_option maxRecDepth 100000 in
theorem copied0Stamp_any (f : Value) (w : World) : Calls Tryz.prog 174 #[.slice none 0 0, f] w fun e w' => e = .returned (.slice none 0 0) ∧ w' = w := by
  go_enter Tryz.func174, Tryz.ntmps174
  go_wp2_with fail
  go_loopw [5, 10] (fun ov iv wr => ov = .slice none 0 0 ∧ iv = .int .i64 0 ∧ wr = w) (fun _ _ _ => 0)
  case atStart => exact ⟨rfl, rfl, rfl⟩
  case round =>
    obtain ⟨rfl, rfl, rfl⟩ := hrel
    go_wp2_with fail
    go_ret
    exact ⟨rfl, rfl⟩
set_option maxRecDepth 100000 in
theorem copied0Cert_any (f : Value) (w : World) : Calls Tryz.prog 176 #[.slice none 0 0, f] w fun e w' => e = .returned (.slice none 0 0) ∧ w' = w := by
  go_enter Tryz.func176, Tryz.ntmps176
  go_wp2_with fail
  go_loopw [5, 10] (fun ov iv wr => ov = .slice none 0 0 ∧ iv = .int .i64 0 ∧ wr = w) (fun _ _ _ => 0)
  case atStart => exact ⟨rfl, rfl, rfl⟩
  case round =>
    obtain ⟨rfl, rfl, rfl⟩ := hrel
    go_wp2_with fail
    go_ret
    exact ⟨rfl, rfl⟩
set_option maxRecDepth 100000 in
theorem copied0Promise_any (f : Value) (w : World) : Calls Tryz.prog 177 #[.slice none 0 0, f] w fun e w' => e = .returned (.slice none 0 0) ∧ w' = w := by
  go_enter Tryz.func177, Tryz.ntmps177
  go_wp2_with fail
  go_loopw [5, 10] (fun ov iv wr => ov = .slice none 0 0 ∧ iv = .int .i64 0 ∧ wr = w) (fun _ _ _ => 0)
  case atStart => exact ⟨rfl, rfl, rfl⟩
  case round =>
    obtain ⟨rfl, rfl, rfl⟩ := hrel
    go_wp2_with fail
    go_ret
    exact ⟨rfl, rfl⟩
set_option maxRecDepth 100000 in
theorem copied0Opening_any (f : Value) (w : World) : Calls Tryz.prog 178 #[.slice none 0 0, f] w fun e w' => e = .returned (.slice none 0 0) ∧ w' = w := by
  go_enter Tryz.func178, Tryz.ntmps178
  go_wp2_with fail
  go_loopw [5, 10] (fun ov iv wr => ov = .slice none 0 0 ∧ iv = .int .i64 0 ∧ wr = w) (fun _ _ _ => 0)
  case atStart => exact ⟨rfl, rfl, rfl⟩
  case round =>
    obtain ⟨rfl, rfl, rfl⟩ := hrel
    go_wp2_with fail
    go_ret
    exact ⟨rfl, rfl⟩
set_option maxRecDepth 100000 in
theorem copied0Tomb_any (f : Value) (w : World) : Calls Tryz.prog 179 #[.slice none 0 0, f] w fun e w' => e = .returned (.slice none 0 0) ∧ w' = w := by
  go_enter Tryz.func179, Tryz.ntmps179
  go_wp2_with fail
  go_loopw [5, 10] (fun ov iv wr => ov = .slice none 0 0 ∧ iv = .int .i64 0 ∧ wr = w) (fun _ _ _ => 0)
  case atStart => exact ⟨rfl, rfl, rfl⟩
  case round =>
    obtain ⟨rfl, rfl, rfl⟩ := hrel
    go_wp2_with fail
    go_ret
    exact ⟨rfl, rfl⟩
set_option maxRecDepth 100000 in
theorem copied0Vote_any (f : Value) (w : World) : Calls Tryz.prog 121 #[.slice none 0 0, f] w fun e w' => e = .returned (.slice none 0 0) ∧ w' = w := by
  go_enter Tryz.func121, Tryz.ntmps121
  go_wp2_with fail
  go_loopw [5, 10] (fun ov iv wr => ov = .slice none 0 0 ∧ iv = .int .i64 0 ∧ wr = w) (fun _ _ _ => 0)
  case atStart => exact ⟨rfl, rfl, rfl⟩
  case round =>
    obtain ⟨rfl, rfl, rfl⟩ := hrel
    go_wp2_with fail
    go_ret
    exact ⟨rfl, rfl⟩
set_option maxRecDepth 100000 in
set_option maxHeartbeats 1000000 in
theorem cert0_any (x : GCert) (w : World) (hx : x.stamps = ⟨none, 0, 0⟩) : Calls Tryz.prog 117 #[x.val] w fun e w' => e = .returned x.val ∧ Bel w w' := by
  have HX := Lib.hid hx
  clear hx
  go_enter Tryz.func117, Tryz.ntmps117
  have c1 : get? GCert ((w.alloc (.cells (GCert.enc x).toArray 44)).alloc (.cells (GCert.enc default).toArray 44)) ⟨w.heap.size, 0, none⟩ = some x := get?_alloc _ (get?_new _ _)
  have c2 : get? GCert ((w.alloc (.cells (GCert.enc x).toArray 44)).alloc (.cells (GCert.enc default).toArray 44)) ⟨w.heap.size + 1, 0, none⟩ = some default := by
    have := get?_new (w := w.alloc (.cells (GCert.enc x).toArray 44)) 44 (default : GCert)
    rwa [World.size_alloc] at this
  have b1 : blkFree ((w.alloc (.cells (GCert.enc x).toArray 44)).alloc (.cells (GCert.enc default).toArray 44)) w.heap.size = true := by rw [blkFree_past _ _ (by simp)]; exact blkFree_new _ _ rfl
  have b2 : blkFree ((w.alloc (.cells (GCert.enc x).toArray 44)).alloc (.cells (GCert.enc default).toArray 44)) (w.heap.size + 1) = true := blkFree_new _ _ (by simp)
  have HB := Lib.hid (((Bel.refl w).alloc (.cells (GCert.enc x).toArray 44)).alloc (.cells (GCert.enc default).toArray 44))
  have f0 := GCert.at_stamps c1
  simp only [Addr.add_lit, Nat.zero_add] at f0
  rw [HX.out] at f0
  go_upto_region 1 with fail
  obtain ⟨q, hq⟩ : ∃ q, w.heap.size = q := ⟨_, rfl⟩
  have HQ := Lib.hid hq
  rw [hq] at c1 c2 b1 b2 f0 ⊢
  generalize (w.alloc (.cells (GCert.enc x).toArray 44)).alloc (.cells (GCert.enc default).toArray 44) = wa at c1 c2 b1 b2 HB f0 ⊢
  have hfr : wa.frozen? ⟨q, 37, none⟩ = false := frozen_of_free b1
  have hsame : wa.setCell ⟨q, 37, none⟩ (.slice none 0 0) = wa := setCell_id f0
  go_wp2_with fail
  refine (copied0Stamp_any _ _).mono ?_
  rintro _ w1 ⟨rfl, hw1⟩
  obtain rfl : wa = w1 := hw1.symm
  go_wp2_with fail
  try rw [hsame]
  try go_wp2_with fail
  have v2 : get? GCert (World.putCells wa ⟨q + 1, 0, none⟩ (GCert.enc x)) ⟨q + 1, 0, none⟩ = some x := get?_putV _ c2
  refine bodyPost_ret (results_cell (x := x) rfl rfl ag44 sz44 v2) rfl ⟨?_, ?_⟩
  · simp only [GCert.val_eq]
  · exact Chg.bel2 HB.out (chg_put (S := fun k => k = q + 1) rfl _) (fun k e => by rw [e, HQ.out]; omega)
set_option maxRecDepth 100000 in
set_option maxHeartbeats 1000000 in
theorem promC0_any (x : GPromise) (w : World) (hx : x.certs = ⟨none, 0, 0⟩) : Calls Tryz.prog 118 #[x.val] w fun e w' => e = .returned x.val ∧ Bel w w' := by
  have HX := Lib.hid hx
  clear hx
  go_enter Tryz.func118, Tryz.ntmps118
  have c1 : get? GPromise ((w.alloc (.cells (GPromise.enc x).toArray 49)).alloc (.cells (GPromise.enc default).toArray 49)) ⟨w.heap.size, 0, none⟩ = some x := get?_alloc _ (get?_new _ _)
  have c2 : get? GPromise ((w.alloc (.cells (GPromise.enc x).toArray 49)).alloc (.cells (GPromise.enc default).toArray 49)) ⟨w.heap.size + 1, 0, none⟩ = some default := by
    have := get?_new (w := w.alloc (.cells (GPromise.enc x).toArray 49)) 49 (default : GPromise)
    rwa [World.size_alloc] at this
  have b1 : blkFree ((w.alloc (.cells (GPromise.enc x).toArray 49)).alloc (.cells (GPromise.enc default).toArray 49)) w.heap.size = true := by rw [blkFree_past _ _ (by simp)]; exact blkFree_new _ _ rfl
  have b2 : blkFree ((w.alloc (.cells (GPromise.enc x).toArray 49)).alloc (.cells (GPromise.enc default).toArray 49)) (w.heap.size + 1) = true := blkFree_new _ _ (by simp)
  have HB := Lib.hid (((Bel.refl w).alloc (.cells (GPromise.enc x).toArray 49)).alloc (.cells (GPromise.enc default).toArray 49))
  have f0 := GPromise.at_certs c1
  simp only [Addr.add_lit, Nat.zero_add] at f0
  rw [HX.out] at f0
  go_upto_region 1 with fail
  obtain ⟨q, hq⟩ : ∃ q, w.heap.size = q := ⟨_, rfl⟩
  have HQ := Lib.hid hq
  rw [hq] at c1 c2 b1 b2 f0 ⊢
  generalize (w.alloc (.cells (GPromise.enc x).toArray 49)).alloc (.cells (GPromise.enc default).toArray 49) = wa at c1 c2 b1 b2 HB f0 ⊢
  have hfr : wa.frozen? ⟨q, 3, none⟩ = false := frozen_of_free b1
  have hsame : wa.setCell ⟨q, 3, none⟩ (.slice none 0 0) = wa := setCell_id f0
  go_wp2_with fail
  refine (copied0Cert_any _ _).mono ?_
  rintro _ w1 ⟨rfl, hw1⟩
  obtain rfl : wa = w1 := hw1.symm
  go_wp2_with fail
  try rw [hsame]
  try go_wp2_with fail
  have v2 : get? GPromise (World.putCells wa ⟨q + 1, 0, none⟩ (GPromise.enc x)) ⟨q + 1, 0, none⟩ = some x := get?_putV _ c2
  refine bodyPost_ret (results_cell (x := x) rfl rfl ag49 sz49 v2) rfl ⟨?_, ?_⟩
  · simp only [GPromise.val_eq]
  · exact Chg.bel2 HB.out (chg_put (S := fun k => k = q + 1) rfl _) (fun k e => by rw [e, HQ.out]; omega)
set_option maxRecDepth 100000 in
set_option maxHeartbeats 1000000 in
theorem open0_any (x : GOpening) (w : World) (hx : x.payload = ⟨none, 0, 0⟩) : Calls Tryz.prog 119 #[x.val] w fun e w' => e = .returned x.val ∧ Bel w w' := by
  have HX := Lib.hid hx
  clear hx
  go_enter Tryz.func119, Tryz.ntmps119
  have c1 : get? GOpening ((w.alloc (.cells (GOpening.enc x).toArray 63)).alloc (.cells (GOpening.enc default).toArray 63)) ⟨w.heap.size, 0, none⟩ = some x := get?_alloc _ (get?_new _ _)
  have c2 : get? GOpening ((w.alloc (.cells (GOpening.enc x).toArray 63)).alloc (.cells (GOpening.enc default).toArray 63)) ⟨w.heap.size + 1, 0, none⟩ = some default := by
    have := get?_new (w := w.alloc (.cells (GOpening.enc x).toArray 63)) 63 (default : GOpening)
    rwa [World.size_alloc] at this
  have b1 : blkFree ((w.alloc (.cells (GOpening.enc x).toArray 63)).alloc (.cells (GOpening.enc default).toArray 63)) w.heap.size = true := by rw [blkFree_past _ _ (by simp)]; exact blkFree_new _ _ rfl
  have b2 : blkFree ((w.alloc (.cells (GOpening.enc x).toArray 63)).alloc (.cells (GOpening.enc default).toArray 63)) (w.heap.size + 1) = true := blkFree_new _ _ (by simp)
  have HB := Lib.hid (((Bel.refl w).alloc (.cells (GOpening.enc x).toArray 63)).alloc (.cells (GOpening.enc default).toArray 63))
  have f0 := GOpening.at_payload c1
  simp only [Addr.add_lit, Nat.zero_add] at f0
  rw [HX.out] at f0
  go_upto_region 1 with fail
  obtain ⟨q, hq⟩ : ∃ q, w.heap.size = q := ⟨_, rfl⟩
  have HQ := Lib.hid hq
  rw [hq] at c1 c2 b1 b2 f0 ⊢
  generalize (w.alloc (.cells (GOpening.enc x).toArray 63)).alloc (.cells (GOpening.enc default).toArray 63) = wa at c1 c2 b1 b2 HB f0 ⊢
  have hfr : wa.frozen? ⟨q, 1, none⟩ = false := frozen_of_free b1
  have hsame : wa.setCell ⟨q, 1, none⟩ (.slice none 0 0) = wa := setCell_id f0
  have hap : (gAppend #[61, 61] 61 #[.slice none 0 0, .slice none 0 0]).run Tryz.prog wa = .ok (.slice none 0 0) wa := by unfold gAppend; exact Go.Gv.run_append_nil ei61 (OwnS.nil (α := U8) wa 0 5) _ 0
  go_wp2_with fail
  try rw [hsame]
  try go_wp2_with fail
  have v2 : get? GOpening (World.putCells wa ⟨q + 1, 0, none⟩ (GOpening.enc x)) ⟨q + 1, 0, none⟩ = some x := get?_putV _ c2
  refine bodyPost_ret (results_cell (x := x) rfl rfl ag63 sz63 v2) rfl ⟨?_, ?_⟩
  · simp only [GOpening.val_eq]
  · exact Chg.bel2 HB.out (chg_put (S := fun k => k = q + 1) rfl _) (fun k e => by rw [e, HQ.out]; omega)
end Go.Proofs.YtfhhcgldikmejaaGreatDoor
/- A message that holds no list, in new memory. Conditions: those named in each theorem. -/
namespace Go.Proofs.YtfhhcgldikmejaaGreatDoor
open Go Go.RowKit Go.Gv Go.Proofs

def nilH : Hdr := ⟨none, 0, 0⟩
structure PlainB (x : GBatch) : Prop where
  p : x.promises = ⟨none, 0, 0⟩
  o : x.openings = ⟨none, 0, 0⟩
  t : x.tombs = ⟨none, 0, 0⟩
structure PlainM (x : GMsg) : Prop where
  c : x.cert.stamps = ⟨none, 0, 0⟩
  p : x.promise.certs = ⟨none, 0, 0⟩
  o : x.opening.payload = ⟨none, 0, 0⟩
  b : PlainB x.proposal.batch
  d : PlainB x.decided.batch
  v : x.decided.votes = ⟨none, 0, 0⟩
set_option maxRecDepth 100000 in
set_option maxHeartbeats 2000000 in
theorem batch0_any (x : GBatch) (w : World) (hx : PlainB x) : Calls Tryz.prog 120 #[x.val] w fun e w' => e = .returned x.val ∧ Bel w w' := by
  have HX := Lib.hid hx
  clear hx
  go_enter Tryz.func120, Tryz.ntmps120
  have c1 : get? GBatch ((w.alloc (.cells (GBatch.enc x).toArray 54)).alloc (.cells (GBatch.enc default).toArray 54)) ⟨w.heap.size, 0, none⟩ = some x := get?_alloc _ (get?_new _ _)
  have c2 : get? GBatch ((w.alloc (.cells (GBatch.enc x).toArray 54)).alloc (.cells (GBatch.enc default).toArray 54)) ⟨w.heap.size + 1, 0, none⟩ = some default := by
    have := get?_new (w := w.alloc (.cells (GBatch.enc x).toArray 54)) 54 (default : GBatch)
    rwa [World.size_alloc] at this
  have b1 : blkFree ((w.alloc (.cells (GBatch.enc x).toArray 54)).alloc (.cells (GBatch.enc default).toArray 54)) w.heap.size = true := by rw [blkFree_past _ _ (by simp)]; exact blkFree_new _ _ rfl
  have b2 : blkFree ((w.alloc (.cells (GBatch.enc x).toArray 54)).alloc (.cells (GBatch.enc default).toArray 54)) (w.heap.size + 1) = true := blkFree_new _ _ (by simp)
  have HB := Lib.hid (((Bel.refl w).alloc (.cells (GBatch.enc x).toArray 54)).alloc (.cells (GBatch.enc default).toArray 54))
  go_upto_region 1 with fail
  obtain ⟨q, hq⟩ : ∃ q, w.heap.size = q := ⟨_, rfl⟩
  have HQ := Lib.hid hq
  rw [hq] at c1 c2 b1 b2 ⊢
  generalize (w.alloc (.cells (GBatch.enc x).toArray 54)).alloc (.cells (GBatch.enc default).toArray 54) = wa at c1 c2 b1 b2 HB ⊢
  have C1 := Lib.hid c1; have C2 := Lib.hid c2; have B1 := Lib.hid b1; have B2 := Lib.hid b2
  clear c1 c2 b1 b2 hq
  refine wp_region_G GB [10, 12, 14] GB.rf (by kernel_rfl) ?_
  refine wpG_looks 5 15 [0, 1, 2, 3, 4, 5, 6, 7, 8, 9] rfl GB.rf GB.tr (by kernel_rfl) (fun _ _ _ _ hd h => And.intro (hd ▸ And.left h) (And.right h)) rfl (by kernel_rfl) ?_
  intro ι W hne CW
  have k0 := GBatch.at_promises C1.out
  simp only [Addr.add_lit, Nat.zero_add] at k0
  rw [HX.out.p] at k0
  have j0 := fun z => GB.cell (CW.out z) k0
  have k1 := GBatch.at_openings C1.out
  simp only [Addr.add_lit, Nat.zero_add] at k1
  rw [HX.out.o] at k1
  have j1 := fun z => GB.cell (CW.out z) k1
  have k2 := GBatch.at_tombs C1.out
  simp only [Addr.add_lit, Nat.zero_add] at k2
  rw [HX.out.t] at k2
  have j2 := fun z => GB.cell (CW.out z) k2
  refine wpLooksG_step (fun K hK => ?_); go_simp; refine hK _ ?_; clear hK K
  refine wpLooksG_step (fun K hK => ?_); go_simp; refine hK _ ?_; clear hK K
  refine wpLooksG_step (fun K hK => ?_)
  go_simp
  refine ⟨_, fun z => quietG (copied0Promise_any _ _) (fun _ _ h => h), hK _ ?_⟩
  clear hK K
  refine wpLooksG_step (fun K hK => ?_); go_simp; refine hK _ ?_; clear hK K
  refine wpLooksG_step (fun K hK => ?_); go_simp; refine hK _ ?_; clear hK K
  refine wpLooksG_step (fun K hK => ?_)
  go_simp
  refine ⟨_, fun z => quietG (copied0Opening_any _ _) (fun _ _ h => h), hK _ ?_⟩
  clear hK K
  refine wpLooksG_step (fun K hK => ?_); go_simp; refine hK _ ?_; clear hK K
  refine wpLooksG_step (fun K hK => ?_); go_simp; refine hK _ ?_; clear hK K
  refine wpLooksG_step (fun K hK => ?_)
  go_simp
  refine ⟨_, fun z => quietG (copied0Tomb_any _ _) (fun _ _ h => h), hK _ ?_⟩
  clear hK K
  refine wpLooksG_step (fun K hK => ?_); go_simp; refine hK _ ?_; clear hK K
  refine wpLooksG_nil ?_
  clear k0 k1 k2 j0 j1 j2 CW hne W ι
  refine wpG_force 10 _ rfl (by kernel_rfl) rfl fun w10 hw10 K hK => ?_
  have hb10 : GB wa w10 := GB.undrew hw10
  have m10 := GBatch.at_promises (GB.get hb10 C1.out)
  simp only [Addr.add_lit, Nat.zero_add] at m10
  rw [HX.out.p] at m10
  have n10 : w10.frozen? ⟨q, 2, none⟩ = false := frozen_of_free ((blkFree_keep (Below.block hb10 _ (get?_lt C1.out))).trans B1.out)
  go_simp
  refine hK _ _ (fun h => absurd (by simp) h) ?_
  clear hK K
  have e10 : w10.setCell ⟨q, 2, none⟩ (.slice none 0 0) = w10 := setCell_id m10
  rw [e10]
  clear e10 m10 n10
  refine wpG_force 11 _ rfl (by kernel_rfl) rfl fun w11 hw11 K hK => ?_
  have hb11 : GB wa w11 := GB.tr _ _ _ hb10 hw11
  go_simp
  refine hK _ _ (fun _ => GB.rf _) ?_
  clear hK K
  refine wpG_force 12 _ rfl (by kernel_rfl) rfl fun w12 hw12 K hK => ?_
  have hb12 : GB wa w12 := GB.tr _ _ _ hb11 hw12
  have m12 := GBatch.at_openings (GB.get hb12 C1.out)
  simp only [Addr.add_lit, Nat.zero_add] at m12
  rw [HX.out.o] at m12
  have n12 : w12.frozen? ⟨q, 3, none⟩ = false := frozen_of_free ((blkFree_keep (Below.block hb12 _ (get?_lt C1.out))).trans B1.out)
  go_simp
  refine hK _ _ (fun h => absurd (by simp) h) ?_
  clear hK K
  have e12 : w12.setCell ⟨q, 3, none⟩ (.slice none 0 0) = w12 := setCell_id m12
  rw [e12]
  clear e12 m12 n12
  refine wpG_force 13 _ rfl (by kernel_rfl) rfl fun w13 hw13 K hK => ?_
  have hb13 : GB wa w13 := GB.tr _ _ _ hb12 hw13
  go_simp
  refine hK _ _ (fun _ => GB.rf _) ?_
  clear hK K
  refine wpG_force 14 _ rfl (by kernel_rfl) rfl fun w14 hw14 K hK => ?_
  have hb14 : GB wa w14 := GB.tr _ _ _ hb13 hw14
  have m14 := GBatch.at_tombs (GB.get hb14 C1.out)
  simp only [Addr.add_lit, Nat.zero_add] at m14
  rw [HX.out.t] at m14
  have n14 : w14.frozen? ⟨q, 4, none⟩ = false := frozen_of_free ((blkFree_keep (Below.block hb14 _ (get?_lt C1.out))).trans B1.out)
  go_simp
  refine hK _ _ (fun h => absurd (by simp) h) ?_
  clear hK K
  have e14 : w14.setCell ⟨q, 4, none⟩ (.slice none 0 0) = w14 := setCell_id m14
  rw [e14]
  clear e14 m14 n14
  refine wpG_end (by kernel_rfl) (fun wn hwn => ?_) _
  have HBN := Lib.hid (GB.tr _ _ _ hb14 hwn)
  have d1 := GB.get HBN.out C1.out
  have d2 := GB.get HBN.out C2.out
  have db2 := (blkFree_keep (Below.block HBN.out _ (get?_lt C2.out))).trans B2.out
  clear hwn hb10 hb11 hb12 hb13 hb14 hw10 hw11 hw12 hw13 hw14
  go_wp2_with fail
  have v2 : get? GBatch (World.putCells wn ⟨q + 1, 0, none⟩ (GBatch.enc x)) ⟨q + 1, 0, none⟩ = some x := get?_putV _ d2
  refine bodyPost_ret (results_cell (x := x) rfl rfl ag54 sz54 v2) rfl ⟨?_, ?_⟩
  · simp only [GBatch.val_eq]
  · exact Chg.bel2 (HB.out.trans HBN.out) (chg_put (S := fun k => k = q + 1) rfl _) (fun k e => by rw [e, HQ.out]; omega)
set_option maxRecDepth 100000 in
set_option maxHeartbeats 4000000 in
theorem copy0_any (x : GMsg) (w : World) (hx : PlainM x) : Calls Tryz.prog 65 #[x.val] w fun e w' => e = .returned x.val ∧ Bel w w' := by
  have HX := Lib.hid hx
  clear hx
  go_enter Tryz.func65, Tryz.ntmps65
  have c1 : get? GMsg ((w.alloc (.cells (GMsg.enc x).toArray 70)).alloc (.cells (GMsg.enc default).toArray 70)) ⟨w.heap.size, 0, none⟩ = some x := get?_alloc _ (get?_new _ _)
  have c2 : get? GMsg ((w.alloc (.cells (GMsg.enc x).toArray 70)).alloc (.cells (GMsg.enc default).toArray 70)) ⟨w.heap.size + 1, 0, none⟩ = some default := by
    have := get?_new (w := w.alloc (.cells (GMsg.enc x).toArray 70)) 70 (default : GMsg)
    rwa [World.size_alloc] at this
  have b1 : blkFree ((w.alloc (.cells (GMsg.enc x).toArray 70)).alloc (.cells (GMsg.enc default).toArray 70)) w.heap.size = true := by rw [blkFree_past _ _ (by simp)]; exact blkFree_new _ _ rfl
  have b2 : blkFree ((w.alloc (.cells (GMsg.enc x).toArray 70)).alloc (.cells (GMsg.enc default).toArray 70)) (w.heap.size + 1) = true := blkFree_new _ _ (by simp)
  have HB := Lib.hid (((Bel.refl w).alloc (.cells (GMsg.enc x).toArray 70)).alloc (.cells (GMsg.enc default).toArray 70))
  go_upto_region 1 with fail
  obtain ⟨q, hq⟩ : ∃ q, w.heap.size = q := ⟨_, rfl⟩
  have HQ := Lib.hid hq
  rw [hq] at c1 c2 b1 b2 ⊢
  generalize (w.alloc (.cells (GMsg.enc x).toArray 70)).alloc (.cells (GMsg.enc default).toArray 70) = wa at c1 c2 b1 b2 HB ⊢
  have C1 := Lib.hid c1; have C2 := Lib.hid c2; have B1 := Lib.hid b1; have B2 := Lib.hid b2
  clear c1 c2 b1 b2 hq
  refine wp_region_G GB [10, 12, 14] GB.rf (by kernel_rfl) ?_
  refine wpG_looks 5 15 [0, 1, 2, 3, 4, 5, 6, 7, 8, 9] rfl GB.rf GB.tr (by kernel_rfl) (fun _ _ _ _ hd h => And.intro (hd ▸ And.left h) (And.right h)) rfl (by kernel_rfl) ?_
  intro ι W hne CW
  have k0 := GMsg.at_cert C1.out
  simp only [Addr.add_lit, Nat.zero_add] at k0
  have j0 := fun z => GB.get (CW.out z) k0
  have k1 := GMsg.at_promise C1.out
  simp only [Addr.add_lit, Nat.zero_add] at k1
  have j1 := fun z => GB.get (CW.out z) k1
  have k2 := GMsg.at_opening C1.out
  simp only [Addr.add_lit, Nat.zero_add] at k2
  have j2 := fun z => GB.get (CW.out z) k2
  refine wpLooksG_step (fun K hK => ?_); go_simp; refine hK _ ?_; clear hK K
  refine wpLooksG_step (fun K hK => ?_); go_simp; refine hK _ ?_; clear hK K
  refine wpLooksG_step (fun K hK => ?_)
  go_simp
  refine ⟨_, fun z => cert0_any x.cert (W z) HX.out.c, hK _ ?_⟩
  clear hK K
  refine wpLooksG_step (fun K hK => ?_); go_simp; refine hK _ ?_; clear hK K
  refine wpLooksG_step (fun K hK => ?_); go_simp; refine hK _ ?_; clear hK K
  refine wpLooksG_step (fun K hK => ?_)
  go_simp
  refine ⟨_, fun z => promC0_any x.promise (W z) HX.out.p, hK _ ?_⟩
  clear hK K
  refine wpLooksG_step (fun K hK => ?_); go_simp; refine hK _ ?_; clear hK K
  refine wpLooksG_step (fun K hK => ?_); go_simp; refine hK _ ?_; clear hK K
  refine wpLooksG_step (fun K hK => ?_)
  go_simp
  refine ⟨_, fun z => open0_any x.opening (W z) HX.out.o, hK _ ?_⟩
  clear hK K
  refine wpLooksG_step (fun K hK => ?_); go_simp; refine hK _ ?_; clear hK K
  refine wpLooksG_nil ?_
  clear k0 k1 k2 j0 j1 j2 CW hne W ι
  refine wpG_force 10 _ rfl (by kernel_rfl) rfl fun w10 hw10 K hK => ?_
  have hb10 : GB wa w10 := GB.undrew hw10
  have m10 := GMsg.at_cert (GB.get hb10 C1.out)
  simp only [Addr.add_lit, Nat.zero_add] at m10
  have n10 := (blkFree_keep (Below.block hb10 _ (get?_lt C1.out))).trans B1.out
  go_simp
  refine hK _ _ (fun h => absurd (by simp) h) ?_
  clear hK K
  have e10 : World.putCells w10 ⟨q, 78, none⟩ (GCert.enc x.cert) = w10 := put_id m10
  rw [e10]
  clear e10 m10 n10
  refine wpG_force 11 _ rfl (by kernel_rfl) rfl fun w11 hw11 K hK => ?_
  have hb11 : GB wa w11 := GB.tr _ _ _ hb10 hw11
  go_simp
  refine hK _ _ (fun _ => GB.rf _) ?_
  clear hK K
  refine wpG_force 12 _ rfl (by kernel_rfl) rfl fun w12 hw12 K hK => ?_
  have hb12 : GB wa w12 := GB.tr _ _ _ hb11 hw12
  have m12 := GMsg.at_promise (GB.get hb12 C1.out)
  simp only [Addr.add_lit, Nat.zero_add] at m12
  have n12 := (blkFree_keep (Below.block hb12 _ (get?_lt C1.out))).trans B1.out
  go_simp
  refine hK _ _ (fun h => absurd (by simp) h) ?_
  clear hK K
  have e12 : World.putCells w12 ⟨q, 157, none⟩ (GPromise.enc x.promise) = w12 := put_id m12
  rw [e12]
  clear e12 m12 n12
  refine wpG_force 13 _ rfl (by kernel_rfl) rfl fun w13 hw13 K hK => ?_
  have hb13 : GB wa w13 := GB.tr _ _ _ hb12 hw13
  go_simp
  refine hK _ _ (fun _ => GB.rf _) ?_
  clear hK K
  refine wpG_force 14 _ rfl (by kernel_rfl) rfl fun w14 hw14 K hK => ?_
  have hb14 : GB wa w14 := GB.tr _ _ _ hb13 hw14
  have m14 := GMsg.at_opening (GB.get hb14 C1.out)
  simp only [Addr.add_lit, Nat.zero_add] at m14
  have n14 := (blkFree_keep (Below.block hb14 _ (get?_lt C1.out))).trans B1.out
  go_simp
  refine hK _ _ (fun h => absurd (by simp) h) ?_
  clear hK K
  have e14 : World.putCells w14 ⟨q, 248, none⟩ (GOpening.enc x.opening) = w14 := put_id m14
  rw [e14]
  clear e14 m14 n14
  refine wpG_end (by kernel_rfl) (fun wn hwn => ?_) _
  have HBN := Lib.hid (GB.tr _ _ _ hb14 hwn)
  have D1 := Lib.hid (GB.get HBN.out C1.out)
  have D2 := Lib.hid (GB.get HBN.out C2.out)
  have DB1 := Lib.hid ((blkFree_keep (Below.block HBN.out _ (get?_lt C1.out))).trans B1.out)
  have DB2 := Lib.hid ((blkFree_keep (Below.block HBN.out _ (get?_lt C2.out))).trans B2.out)
  clear hwn hb10 hb11 hb12 hb13 hb14 hw10 hw11 hw12 hw13 hw14 C1 C2 B1 B2
  have p1 := GProposal.at_batch (GMsg.at_proposal D1.out)
  simp only [Addr.add_lit, Nat.zero_add, Nat.reduceAdd] at p1
  go_wp2_with fail
  refine (batch0_any x.proposal.batch wn HX.out.b).mono ?_
  rintro _ wp ⟨rfl, hbp⟩
  have HBP := Lib.hid (Bel.trans HBN.out hbp)
  have E1 := Lib.hid (GB.get hbp D1.out); have E2 := Lib.hid (GB.get hbp D2.out)
  have EB1 := Lib.hid ((blkFree_keep (Below.block hbp _ (get?_lt D1.out))).trans DB1.out)
  have EB2 := Lib.hid ((blkFree_keep (Below.block hbp _ (get?_lt D2.out))).trans DB2.out)
  clear hbp p1 D1 D2 DB1 DB2 HBN
  have p1 := GProposal.at_batch (GMsg.at_proposal E1.out)
  simp only [Addr.add_lit, Nat.zero_add, Nat.reduceAdd] at p1
  have eb1 := EB1.out
  have ep : World.putCells wp ⟨q, 167, none⟩ (GBatch.enc x.proposal.batch) = wp := put_id p1
  go_wp2_with fail
  clear p1 eb1 ep
  refine wp_region_G GB [10, 13] GB.rf (by kernel_rfl) ?_
  refine wpG_looks 5 14 [0, 1, 2, 3, 4, 5, 6, 7, 8] rfl GB.rf GB.tr (by kernel_rfl) (fun _ _ _ _ hd h => And.intro (hd ▸ And.left h) (And.right h)) rfl (by kernel_rfl) ?_
  intro ι W hne CW
  have k0 := GDecided.at_batch (GMsg.at_decided E1.out)
  simp only [Addr.add_lit, Nat.zero_add] at k0
  have j0 := fun z => GB.get (CW.out z) k0
  have k1 := GDecided.at_votes (GMsg.at_decided E1.out)
  simp only [Addr.add_lit, Nat.zero_add] at k1
  rw [HX.out.v] at k1
  have j1 := fun z => GB.cell (CW.out z) k1
  refine wpLooksG_step (fun K hK => ?_); go_simp; refine hK _ ?_; clear hK K
  refine wpLooksG_step (fun K hK => ?_); go_simp; refine hK _ ?_; clear hK K
  refine wpLooksG_step (fun K hK => ?_); go_simp; refine hK _ ?_; clear hK K
  refine wpLooksG_step (fun K hK => ?_)
  go_simp
  refine ⟨_, fun z => batch0_any x.decided.batch (W z) HX.out.d, hK _ ?_⟩
  clear hK K
  refine wpLooksG_step (fun K hK => ?_); go_simp; refine hK _ ?_; clear hK K
  refine wpLooksG_step (fun K hK => ?_); go_simp; refine hK _ ?_; clear hK K
  refine wpLooksG_step (fun K hK => ?_); go_simp; refine hK _ ?_; clear hK K
  refine wpLooksG_step (fun K hK => ?_)
  go_simp
  refine ⟨_, fun z => quietG (copied0Vote_any _ _) (fun _ _ h => h), hK _ ?_⟩
  clear hK K
  refine wpLooksG_step (fun K hK => ?_); go_simp; refine hK _ ?_; clear hK K
  refine wpLooksG_nil ?_
  clear k0 k1 j0 j1 CW hne W ι
  refine wpG_force 9 _ rfl (by kernel_rfl) rfl fun w9 hw9 K hK => ?_
  have hb9 : GB wp w9 := GB.undrew hw9
  go_simp
  refine hK _ _ (fun _ => GB.rf _) ?_
  clear hK K
  refine wpG_force 10 _ rfl (by kernel_rfl) rfl fun w10 hw10 K hK => ?_
  have hb10 : GB wp w10 := GB.tr _ _ _ hb9 hw10
  have m10 := GDecided.at_batch (GMsg.at_decided (GB.get hb10 E1.out))
  simp only [Addr.add_lit, Nat.zero_add] at m10
  have n10 := (blkFree_keep (Below.block hb10 _ (get?_lt E1.out))).trans EB1.out
  go_simp
  refine hK _ _ (fun h => absurd (by simp) h) ?_
  clear hK K
  have e10 : World.putCells w10 ⟨q, 289, none⟩ (GBatch.enc x.decided.batch) = w10 := put_id m10
  rw [e10]
  clear e10 m10 n10
  refine wpG_force 11 _ rfl (by kernel_rfl) rfl fun w11 hw11 K hK => ?_
  have hb11 : GB wp w11 := GB.tr _ _ _ hb10 hw11
  go_simp
  refine hK _ _ (fun _ => GB.rf _) ?_
  clear hK K
  refine wpG_force 12 _ rfl (by kernel_rfl) rfl fun w12 hw12 K hK => ?_
  have hb12 : GB wp w12 := GB.tr _ _ _ hb11 hw12
  go_simp
  refine hK _ _ (fun _ => GB.rf _) ?_
  clear hK K
  refine wpG_force 13 _ rfl (by kernel_rfl) rfl fun w13 hw13 K hK => ?_
  have hb13 : GB wp w13 := GB.tr _ _ _ hb12 hw13
  have m13 := GDecided.at_votes (GMsg.at_decided (GB.get hb13 E1.out))
  simp only [Addr.add_lit, Nat.zero_add, Nat.reduceAdd] at m13
  rw [HX.out.v] at m13
  have n13 : w13.frozen? ⟨q, 294, none⟩ = false := frozen_of_free ((blkFree_keep (Below.block hb13 _ (get?_lt E1.out))).trans EB1.out)
  go_simp
  refine hK _ _ (fun h => absurd (by simp) h) ?_
  clear hK K
  have e13 : w13.setCell ⟨q, 294, none⟩ (.slice none 0 0) = w13 := setCell_id m13
  rw [e13]
  clear e13 m13 n13
  refine wpG_end (by kernel_rfl) (fun wn2 hwn => ?_) _
  have HBN2 := Lib.hid (GB.tr _ _ _ hb13 hwn)
  have d1 := GB.get HBN2.out E1.out
  have d2 := GB.get HBN2.out E2.out
  have db2 := (blkFree_keep (Below.block HBN2.out _ (get?_lt E2.out))).trans EB2.out
  clear hwn hb9 hb10 hb11 hb12 hb13 hw9 hw10 hw11 hw12 hw13
  go_wp2_with fail
  have v2 : get? GMsg (World.putCells wn2 ⟨q + 1, 0, none⟩ (GMsg.enc x)) ⟨q + 1, 0, none⟩ = some x := get?_putV _ d2
  refine bodyPost_ret (results_cell (x := x) rfl rfl ag70 sz70 v2) rfl ⟨?_, ?_⟩
  · simp only [GMsg.val_eq]
  · exact Chg.bel2 (HB.out.trans (Bel.trans HBP.out HBN2.out)) (chg_put (S := fun k => k = q + 1) rfl _) (fun k e => by rw [e, HQ.out]; omega)
end Go.Proofs.YtfhhcgldikmejaaGreatDoor
/- A replica in memory, while nothing was decided. Conditions: those named in each theorem. -/
namespace Go.Proofs.YtfhhcgldikmejaaGreatDoor
open Go Go.RowKit Go.Gv Go.Proofs

/-- What a replica holds, while its log is empty and no certificate, opening or proposal has come. -/
structure RSt where
  c : GConf
  id : Int
  started : Bool
  now : Int
  floor : Int
  last : Int
  stamps : List (GName × GStamp)
  s : GCoreState
  b1 : Bool
  b2 : Bool
  b3 : Bool
  H : List (GTallyVoter × Bool)
  A : List (GTallyTurn × Int)
  L : List (Int × Int)
  timers : List GReplicaTimer
  asks : Bool
  askRound : Int
  askTime : Int
  promises : List GPromise
  pv : Option (Nat × GVote)
  ho : Hdr
  out : List GMsg
  book : MBook
  kept : Nat → Option Obj
def ptrV (o : Option (Nat × GVote)) : Option Addr := o.map fun p => ⟨p.1, 0, none⟩
/-- The first blocks are unlike all the others. -/
def Apart (B : Nat → Nat) : Prop := ∀ i j, i < 20 → j < 20 → i ≠ j → i ≤ 12 → B i ≠ B j
def repG (B : Nat → Nat) (x : RSt) (a : Option Addr) : GReplicaReplica :=
  ⟨x.c, x.id, some ⟨B 1, 0, none⟩, x.started, some ⟨B 3, 0, none⟩, some ⟨B 5, 0, none⟩, some ⟨B 7, 0, none⟩, some ⟨B 9, 0, none⟩, a, some ⟨B 11, 0, none⟩, ⟨none, 0, 0⟩, ⟨none, 0, 0⟩, x.ho⟩
def epG (B : Nat → Nat) (x : RSt) (bm : Nat) (ht hp : Hdr) : GReplicaEpoch :=
  ⟨some ⟨B 12, 0, none⟩, some bm, some (B 19), ht, x.asks, x.askRound, x.askTime, hp, none, ptrV x.pv, none⟩
structure Slices (w0 w : World) (B : Nat → Nat) (x : RSt) (ht hp : Hdr) : Prop where
  out : OwnS w w0.heap.size 70 x.ho.val x.out
  timers : OwnS w w0.heap.size 141 ht.val x.timers
  proms : OwnS w w0.heap.size 49 hp.val x.promises
  no : ∀ j < 20, x.ho.val.ownBlock ≠ some (B j)
  nt : ∀ j < 20, ht.val.ownBlock ≠ some (B j)
  np : ∀ j < 20, hp.val.ownBlock ≠ some (B j)
  ot : ∀ k, x.ho.val.ownBlock = some k → ht.val.ownBlock ≠ some k ∧ hp.val.ownBlock ≠ some k
  tp : ∀ k, ht.val.ownBlock = some k → hp.val.ownBlock ≠ some k
  pv : ∀ p, x.pv = some p → get? GVote w ⟨p.1, 0, none⟩ = some p.2 ∧ w0.heap.size ≤ p.1 ∧ (∀ j < 20, p.1 ≠ B j) ∧ x.ho.val.ownBlock ≠ some p.1 ∧ ht.val.ownBlock ≠ some p.1 ∧ hp.val.ownBlock ≠ some p.1
  kp : ∀ k o, x.kept k = some o → w.heap[k]? = some o ∧ (∀ j < 20, k ≠ B j) ∧ x.ho.val.ownBlock ≠ some k ∧ ht.val.ownBlock ≠ some k ∧ hp.val.ownBlock ≠ some k
structure RepIs (w0 w : World) (B : Nat → Nat) (x : RSt) : Prop where
  bel : Bel w0 w
  new : ∀ j < 20, w0.heap.size ≤ B j
  lt : ∀ j < 20, B j < w.heap.size
  apart : Apart B
  book : BookIs w (B 1) (B 2) x.book
  st : StampIs w (B 3) (B 4) x.c x.id x.now x.floor x.last x.stamps
  tb : TableIs w (B 5) (B 6) x.c x.id
  led : LedIs w (B 7) (B 8)
  rev : RevIs w (B 9) (B 10) x.c x.id
  core : CoreIs w (B 12) (B 13) (B 14) (B 20) (B 16) (B 17) (B 18) x.c 0 x.id x.s x.b1 x.b2 x.b3 x.H x.A x.L
  pre : mapAt GReplicaVoter GVote w (B 19) = some []
  more : ∃ (a : Option Addr) (bm : Nat) (ht hp : Hdr), get? GReplicaReplica w ⟨B 0, 0, none⟩ = some (repG B x a) ∧ blkFree w (B 0) = true ∧ get? GReplicaEpoch w ⟨B 11, 0, none⟩ = some (epG B x bm ht hp) ∧ blkFree w (B 11) = true ∧ Slices w0 w B x ht hp
section
variable {w0 w w' : World} {B : Nat → Nat} {x : RSt} {ht hp : Hdr}
theorem some_lt {w : World} {k : Nat} {o : Obj} (h : w.heap[k]? = some o) : k < w.heap.size := (Array.getElem?_eq_some_iff.1 h).1
theorem Slices.chg {S : Nat → Prop} (h : Slices w0 w B x ht hp) (hc : Chg S w w') (h1 : ∀ k, x.ho.val.ownBlock = some k → ¬ S k) (h2 : ∀ k, ht.val.ownBlock = some k → ¬ S k) (h3 : ∀ k, hp.val.ownBlock = some k → ¬ S k) (h4 : ∀ p, x.pv = some p → ¬ S p.1) (h5 : ∀ k o, x.kept k = some o → ¬ S k) : Slices w0 w' B x ht hp :=
  ⟨h.out.chg hc h1, h.timers.chg hc h2, h.proms.chg hc h3, h.no, h.nt, h.np, h.ot, h.tp, fun p e => ⟨hc.get (h.pv p e).1 (h4 p e), (h.pv p e).2⟩, fun k o e => ⟨(hc.block k (some_lt (h.kp k o e).1) (h5 k o e)).trans (h.kp k o e).1, (h.kp k o e).2⟩⟩
theorem Slices.with {y : RSt} (h : Slices w0 w B x ht hp) (e1 : y.out = x.out) (e2 : y.timers = x.timers) (e3 : y.promises = x.promises) (e4 : y.pv = x.pv) (e5 : y.ho = x.ho) (e6 : y.kept = x.kept := by rfl) : Slices w0 w B y ht hp := by
  obtain ⟨g1, g2, g3, g4, g5, g6, g7, g8, g9, g10⟩ := h
  exact ⟨by rw [e5, e1]; exact g1, e2 ▸ g2, e3 ▸ g3, by rw [e5]; exact g4, g5, g6, by rw [e5]; exact g7, g8, by rw [e5, e4]; exact g9, by rw [e5, e6]; exact g10⟩
theorem Slices.one {i : Nat} (h : Slices w0 w B x ht hp) (hc : Chg (fun k => k = B i) w w') (hi : i < 20) : Slices w0 w' B x ht hp :=
  h.chg hc (fun k e he => h.no i hi (by rw [e, he])) (fun k e he => h.nt i hi (by rw [e, he])) (fun k e he => h.np i hi (by rw [e, he])) (fun p e he => (h.pv p e).2.2.1 i hi he) (fun k o e he => (h.kp k o e).2.1 i hi he)
theorem RepIs.step (h : RepIs w0 w B x) (hb : Bel w w') : RepIs w0 w' B x := by
  obtain ⟨a, bm, ht, hp, h1, h2, h3, h4, h5⟩ := h.more
  have hc : Chg (fun _ => False) w w' := Chg.of_bel hb _
  exact ⟨h.bel.trans hb, h.new, fun j hj => Nat.lt_of_lt_of_le (h.lt j hj) hc.size, h.apart, h.book.step hb, h.st.step hb, h.tb.step hb, h.led.step hb, h.rev.step hb, h.core.step hb, hc.map h.pre id, a, bm, ht, hp, GB.get hb h1, hc.free h2 (get?_lt h1) id, GB.get hb h3, hc.free h4 (get?_lt h3) id, h5.chg hc (fun _ _ h => h) (fun _ _ h => h) (fun _ _ h => h) (fun _ _ h => h) (fun _ _ _ h => h)⟩
/-- What one written block's change leaves alone. -/
theorem RepIs.ne (h : RepIs w0 w B x) {i : Nat} (hi : i ≤ 12) (j : Nat) (hj : j < 20) (hne : j ≠ i) : ¬ B j = B i :=
  fun e => h.apart i j (by omega) hj (fun e => hne e.symm) hi e.symm
theorem RepIs.withBook (h : RepIs w0 w B x) {b : MBook} (hb : BookIs w' (B 1) (B 2) b) (hc : Chg (fun k => k = B 2) w w') : RepIs w0 w' B { x with book := b } := by
  obtain ⟨a, bm, ht, hp, h1, h2, h3, h4, h5⟩ := h.more
  have n := h.ne (i := 2) (by omega)
  exact ⟨Chg.bel2 h.bel hc (fun k e => e ▸ h.new 2 (by omega)), h.new, fun j hj => Nat.lt_of_lt_of_le (h.lt j hj) hc.size, h.apart, hb, h.st.chg hc (n 3 (by omega) (by omega)) (n 4 (by omega) (by omega)), h.tb.chg hc (n 5 (by omega) (by omega)) (n 6 (by omega) (by omega)), h.led.chg hc (n 7 (by omega) (by omega)) (n 8 (by omega) (by omega)),
    h.rev.chg hc (n 9 (by omega) (by omega)) (n 10 (by omega) (by omega)), h.core.chg hc (n 12 (by omega) (by omega)) (n 13 (by omega) (by omega)) (n 18 (by omega) (by omega)) (n 14 (by omega) (by omega)) (n 16 (by omega) (by omega)) (n 17 (by omega) (by omega)), hc.map h.pre (n 19 (by omega) (by omega)),
    a, bm, ht, hp, hc.get h1 (n 0 (by omega) (by omega)), hc.free h2 (get?_lt h1) (n 0 (by omega) (by omega)), hc.get h3 (n 11 (by omega) (by omega)), hc.free h4 (get?_lt h3) (n 11 (by omega) (by omega)), (h5.one hc (by omega)).with rfl rfl rfl rfl rfl⟩
theorem RepIs.withOut (h : RepIs w0 w B x) {ho : Hdr} {l : List GMsg} (hc : Chg (fun k => k = B 0 ∨ x.ho.val.ownBlock = some k) w w') (hg : ∀ a, get? GReplicaReplica w ⟨B 0, 0, none⟩ = some (repG B x a) → get? GReplicaReplica w' ⟨B 0, 0, none⟩ = some (repG B { x with ho := ho } a)) (hf : blkFree w' (B 0) = true) (ho1 : OwnS w' w0.heap.size 70 ho.val l)
    (hb : ho.val.ownBlock = none ∨ ho.val.ownBlock = x.ho.val.ownBlock ∨ ∃ k, ho.val.ownBlock = some k ∧ w.heap.size ≤ k) : RepIs w0 w' B { x with ho := ho, out := l } := by
  obtain ⟨a, bm, ht, hp, h1, h2, h3, h4, h5⟩ := h.more
  have n := fun (j : Nat) (hj : j < 20) (hne : j ≠ 0) => show ¬ (B j = B 0 ∨ x.ho.val.ownBlock = some (B j)) from fun e => e.elim (h.ne (i := 0) (by omega) j hj hne) (h5.no j hj)
  have hnew : ∀ k, (k = B 0 ∨ x.ho.val.ownBlock = some k) → w0.heap.size ≤ k := fun k e => e.elim (fun e => e ▸ h.new 0 (by omega)) (fun e => (h5.out.lt k e).1)
  refine ⟨Chg.bel2 h.bel hc hnew, h.new, fun j hj => Nat.lt_of_lt_of_le (h.lt j hj) hc.size, h.apart, h.book.chg hc (n 1 (by omega) (by omega)) (n 2 (by omega) (by omega)), h.st.chg hc (n 3 (by omega) (by omega)) (n 4 (by omega) (by omega)), h.tb.chg hc (n 5 (by omega) (by omega)) (n 6 (by omega) (by omega)), h.led.chg hc (n 7 (by omega) (by omega)) (n 8 (by omega) (by omega)),
    h.rev.chg hc (n 9 (by omega) (by omega)) (n 10 (by omega) (by omega)), h.core.chg hc (n 12 (by omega) (by omega)) (n 13 (by omega) (by omega)) (n 18 (by omega) (by omega)) (n 14 (by omega) (by omega)) (n 16 (by omega) (by omega)) (n 17 (by omega) (by omega)), hc.map h.pre (n 19 (by omega) (by omega)),
    a, bm, ht, hp, hg a h1, hf, hc.get h3 (n 11 (by omega) (by omega)), hc.free h4 (get?_lt h3) (n 11 (by omega) (by omega)), ?_⟩
  have ot : ∀ k, x.ho.val.ownBlock = some k → ht.val.ownBlock ≠ some k ∧ hp.val.ownBlock ≠ some k := h5.ot
  refine ⟨ho1, h5.timers.chg hc ?_, h5.proms.chg hc ?_, ?_, h5.nt, h5.np, ?_, h5.tp, fun p e => ?_, fun k o e => ?_⟩
  · intro k e e2
    rcases e2 with e2 | e2
    · exact h5.nt 0 (by omega) (by rw [e, e2])
    · exact (ot k e2).1 e
  · intro k e e2
    rcases e2 with e2 | e2
    · exact h5.np 0 (by omega) (by rw [e, e2])
    · exact (ot k e2).2 e
  · intro j hj e
    change ho.val.ownBlock = some (B j) at e
    rcases hb with hb | hb | ⟨k, hk, hlt⟩
    · rw [hb] at e; cases e
    · rw [hb] at e; exact h5.no j hj e
    · rw [hk] at e; injection e with e; have := h.lt j hj; omega
  · intro k e
    change ho.val.ownBlock = some k at e
    rcases hb with hb | hb | ⟨k', hk, hlt⟩
    · rw [hb] at e; cases e
    · rw [hb] at e; exact ot k e
    · rw [hk] at e; injection e with e; subst e
      exact ⟨fun e => by have := (h5.timers.lt _ e).2; omega, fun e => by have := (h5.proms.lt _ e).2; omega⟩
  · obtain ⟨p1, p2, p3, p4, p5, p6⟩ := h5.pv p e
    refine ⟨hc.get p1 ?_, p2, p3, ?_, p5, p6⟩
    · rintro (e | e)
      · exact p3 0 (by omega) e
      · exact p4 e
    · intro e
      change ho.val.ownBlock = some p.1 at e
      rcases hb with hb | hb | ⟨k', hk, hlt⟩
      · rw [hb] at e; cases e
      · rw [hb] at e; exact p4 e
      · rw [hk] at e; injection e with e; have := get?_lt p1; simp only at this; omega
  · obtain ⟨p1, p3, p4, p5, p6⟩ := h5.kp k o e
    refine ⟨(hc.block k (some_lt p1) ?_).trans p1, p3, ?_, p5, p6⟩
    · rintro (e | e)
      · exact p3 0 (by omega) e
      · exact p4 e
    · intro e
      change ho.val.ownBlock = some k at e
      rcases hb with hb | hb | ⟨k', hk, hlt⟩
      · rw [hb] at e; cases e
      · rw [hb] at e; exact p4 e
      · rw [hk] at e; injection e with e; have := some_lt p1; omega
theorem RepIs.withStamp (h : RepIs w0 w B x) {now floor last : Int} {l : List (GName × GStamp)} (hs : StampIs w' (B 3) (B 4) x.c x.id now floor last l) (hc : Chg (fun k => k = B 3) w w') : RepIs w0 w' B { x with now := now, floor := floor, last := last, stamps := l } := by
  obtain ⟨a, bm, ht, hp, h1, h2, h3, h4, h5⟩ := h.more
  have n := h.ne (i := 3) (by omega)
  exact ⟨Chg.bel2 h.bel hc (fun k e => e ▸ h.new 3 (by omega)), h.new, fun j hj => Nat.lt_of_lt_of_le (h.lt j hj) hc.size, h.apart, h.book.chg hc (n 1 (by omega) (by omega)) (n 2 (by omega) (by omega)), hs, h.tb.chg hc (n 5 (by omega) (by omega)) (n 6 (by omega) (by omega)), h.led.chg hc (n 7 (by omega) (by omega)) (n 8 (by omega) (by omega)),
    h.rev.chg hc (n 9 (by omega) (by omega)) (n 10 (by omega) (by omega)), h.core.chg hc (n 12 (by omega) (by omega)) (n 13 (by omega) (by omega)) (n 18 (by omega) (by omega)) (n 14 (by omega) (by omega)) (n 16 (by omega) (by omega)) (n 17 (by omega) (by omega)), hc.map h.pre (n 19 (by omega) (by omega)),
    a, bm, ht, hp, hc.get h1 (n 0 (by omega) (by omega)), hc.free h2 (get?_lt h1) (n 0 (by omega) (by omega)), hc.get h3 (n 11 (by omega) (by omega)), hc.free h4 (get?_lt h3) (n 11 (by omega) (by omega)), (h5.one hc (by omega)).with rfl rfl rfl rfl rfl⟩
theorem RepIs.withCore (h : RepIs w0 w B x) {s : GCoreState} {b1 b2 b3 : Bool} {H : List (GTallyVoter × Bool)} {A : List (GTallyTurn × Int)} {L : List (Int × Int)} (hs : CoreIs w' (B 12) (B 13) (B 14) (B 20) (B 16) (B 17) (B 18) x.c 0 x.id s b1 b2 b3 H A L) (hc : Chg (fun k => k = B 12) w w') : RepIs w0 w' B { x with s := s, b1 := b1, b2 := b2, b3 := b3, H := H, A := A, L := L } := by
  obtain ⟨a, bm, ht, hp, h1, h2, h3, h4, h5⟩ := h.more
  have n := h.ne (i := 12) (by omega)
  exact ⟨Chg.bel2 h.bel hc (fun k e => e ▸ h.new 12 (by omega)), h.new, fun j hj => Nat.lt_of_lt_of_le (h.lt j hj) hc.size, h.apart, h.book.chg hc (n 1 (by omega) (by omega)) (n 2 (by omega) (by omega)), h.st.chg hc (n 3 (by omega) (by omega)) (n 4 (by omega) (by omega)), h.tb.chg hc (n 5 (by omega) (by omega)) (n 6 (by omega) (by omega)), h.led.chg hc (n 7 (by omega) (by omega)) (n 8 (by omega) (by omega)),
    h.rev.chg hc (n 9 (by omega) (by omega)) (n 10 (by omega) (by omega)), hs, hc.map h.pre (n 19 (by omega) (by omega)),
    a, bm, ht, hp, hc.get h1 (n 0 (by omega) (by omega)), hc.free h2 (get?_lt h1) (n 0 (by omega) (by omega)), hc.get h3 (n 11 (by omega) (by omega)), hc.free h4 (get?_lt h3) (n 11 (by omega) (by omega)), (h5.one hc (by omega)).with rfl rfl rfl rfl rfl⟩
end
end Go.Proofs.YtfhhcgldikmejaaGreatDoor
/- A replica's own small functions; what it says. Conditions: those named in each theorem. -/
namespace Go.Proofs.YtfhhcgldikmejaaGreatDoor
open Go Go.RowKit Go.Gv Go.Proofs

theorem rep_out (x : GReplicaReplica) (h : Hdr) : Enc.enc ({ x with out := h } : GReplicaReplica) = (Enc.enc x).set 13 (.slice h.a h.len h.cap) := by
  show GReplicaReplica.enc _ = (GReplicaReplica.enc _).set _ _
  simp [GReplicaReplica.enc, GConf.enc_len, Hdr.val]
theorem rep_other {w : World} {B : Nat → Nat} {x : RSt} {w0 : World} (h : RepIs w0 w B x) : blkFree w (B 0) = true ∧ ∃ a, get? GReplicaReplica w ⟨B 0, 0, none⟩ = some (repG B x a) := by
  obtain ⟨a, _, _, _, h1, h2, _⟩ := h.more
  exact ⟨h2, a, h1⟩
theorem rep_own {w : World} {B : Nat → Nat} {x : RSt} {w0 : World} (h : RepIs w0 w B x) : OwnS w w0.heap.size 70 x.ho.val x.out ∧ ∀ j < 20, x.ho.val.ownBlock ≠ some (B j) := by
  obtain ⟨_, _, _, _, _, _, _, _, h5⟩ := h.more
  exact ⟨h5.out, h5.no⟩
set_option maxRecDepth 100000 in
set_option maxHeartbeats 1000000 in
theorem told_any (w0 : World) (B : Nat → Nat) (x : RSt) (w : World) (h : RepIs w0 w B x) : Calls Tryz.prog 25 #[.pointer (some ⟨B 0, 0, none⟩)] w fun e w' =>
    e = .returned (.slice x.ho.a x.ho.len x.ho.cap) ∧ RepIs w0 w' B { x with ho := nilH, out := [] } ∧ OwnS w' w0.heap.size 70 x.ho.val x.out ∧ Chg (fun k => k = B 0) w w' := by
  have HH := Lib.hid h
  obtain ⟨hfr, a, hg⟩ := rep_other h
  have HG := Lib.hid hg; have HF := Lib.hid hfr
  have f0 := GReplicaReplica.at_out hg
  simp only [Addr.add_lit, Nat.zero_add] at f0
  change w.cell? ⟨B 0, 13, none⟩ = some (.slice x.ho.a x.ho.len x.ho.cap) at f0
  have hfz := frozen_of_free (a := ⟨B 0, 13, none⟩) hfr
  clear h hg hfr
  go_enter Tryz.func25, Tryz.ntmps25
  go_wp2_with fail
  go_ret
  have hc : Chg (fun k => k = B 0) w (w.setCell ⟨B 0, 13, none⟩ (.slice none 0 0)) := chg_cell (S := fun k => k = B 0) rfl _
  refine ⟨rfl, ?_, ?_, hc⟩
  · refine HH.out.withOut (ho := nilH) (l := []) (hc.sub (fun k e => .inl e)) (fun a ha => get?_poke ha (rep_out (repG B x a) nilH)) (by rw [blkFree_setCell]; exact HF.out) (OwnS.nil _ _ _) (.inl rfl)
  · exact (rep_own HH.out).1.chg hc (fun k e he => (rep_own HH.out).2 0 (by omega) (by rw [e, he]))
theorem ep_get {w : World} {B : Nat → Nat} {x : RSt} {w0 : World} (h : RepIs w0 w B x) : blkFree w (B 11) = true ∧ ∃ bm ht hp, get? GReplicaEpoch w ⟨B 11, 0, none⟩ = some (epG B x bm ht hp) := by
  obtain ⟨_, bm, ht, hp, _, _, h3, h4, _⟩ := h.more
  exact ⟨h4, bm, ht, hp, h3⟩
theorem rep_cells {w0 w : World} {B : Nat → Nat} {x : RSt} (h : RepIs w0 w B x) : w.cell? ⟨B 0, 2, none⟩ = some (.int .i64 x.id) ∧ w.cell? ⟨B 0, 3, none⟩ = some (.pointer (some ⟨B 1, 0, none⟩)) ∧ w.cell? ⟨B 0, 4, none⟩ = some (.bool x.started) ∧
    w.cell? ⟨B 0, 5, none⟩ = some (.pointer (some ⟨B 3, 0, none⟩)) ∧ w.cell? ⟨B 0, 6, none⟩ = some (.pointer (some ⟨B 5, 0, none⟩)) ∧ w.cell? ⟨B 0, 7, none⟩ = some (.pointer (some ⟨B 7, 0, none⟩)) ∧ w.cell? ⟨B 0, 8, none⟩ = some (.pointer (some ⟨B 9, 0, none⟩)) ∧
    w.cell? ⟨B 0, 10, none⟩ = some (.pointer (some ⟨B 11, 0, none⟩)) ∧ w.cell? ⟨B 0, 13, none⟩ = some (.slice x.ho.a x.ho.len x.ho.cap) ∧ get? GConf w ⟨B 0, 0, none⟩ = some x.c := by
  obtain ⟨hfr, a, hg⟩ := rep_other h
  have f0 := GReplicaReplica.at_id hg
  have f1 := GReplicaReplica.at_b hg
  have f2 := GReplicaReplica.at_started hg
  have f3 := GReplicaReplica.at_s hg
  have f4 := GReplicaReplica.at_t hg
  have f5 := GReplicaReplica.at_l hg
  have f6 := GReplicaReplica.at_v hg
  have f7 := GReplicaReplica.at_e hg
  have f8 := GReplicaReplica.at_out hg
  have f9 := GReplicaReplica.at_c hg
  simp only [Addr.add_lit, Nat.zero_add] at f0 f1 f2 f3 f4 f5 f6 f7 f8 f9
  exact ⟨f0, f1, f2, f3, f4, f5, f6, f7, f8, f9⟩
theorem ep_cells {w0 w : World} {B : Nat → Nat} {x : RSt} (h : RepIs w0 w B x) : w.cell? ⟨B 11, 0, none⟩ = some (.pointer (some ⟨B 12, 0, none⟩)) ∧ w.cell? ⟨B 11, 4, none⟩ = some (.bool x.asks) ∧ w.cell? ⟨B 11, 5, none⟩ = some (.int .i64 x.askRound) ∧
    w.cell? ⟨B 11, 6, none⟩ = some (.int .u64 x.askTime) := by
  obtain ⟨hfr, bm, ht, hp, hg⟩ := ep_get h
  have f0 := GReplicaEpoch.at_k hg
  have f1 := GReplicaEpoch.at_asks hg
  have f2 := GReplicaEpoch.at_askRound hg
  have f3 := GReplicaEpoch.at_askTime hg
  simp only [Addr.add_lit, Nat.zero_add] at f0 f1 f2 f3
  exact ⟨f0, f1, f2, f3⟩
end Go.Proofs.YtfhhcgldikmejaaGreatDoor
/- A replica's say: a message to one. Conditions: those named in each theorem. -/
namespace Go.Proofs.YtfhhcgldikmejaaGreatDoor
open Go Go.RowKit Go.Gv Go.Proofs

theorem msg_from (x : GMsg) (v : Int) : Enc.enc ({ x with from_ := v } : GMsg) = (Enc.enc x).set 1 (.int .i64 v) := rfl
def sent (id tq : Int) (m : GMsg) : GMsg := { { m with from_ := id } with «to» := tq }
theorem plain_sent {m : GMsg} (h : PlainM m) (id tq : Int) : PlainM (sent id tq m) := ⟨h.c, h.p, h.o, h.b, h.d, h.v⟩
set_option maxRecDepth 100000 in
set_option maxHeartbeats 4000000 in
theorem say_any (w0 : World) (B : Nat → Nat) (x : RSt) (m : GMsg) (tq : Int) (w : World) (h : RepIs w0 w B x) (hm : PlainM m) (hl : x.out.length ≤ 1000000) : Calls Tryz.prog 62 #[.pointer (some ⟨B 0, 0, none⟩), Value.int .i64 tq, m.val] w fun e w' =>
    e = .returned (.tuple #[]) ∧ ∃ ho, RepIs w0 w' B { x with ho := ho, out := x.out ++ [sent x.id tq m] } ∧ Chg (fun k => k = B 0 ∨ x.ho.val.ownBlock = some k) w w' ∧ (ho.val.ownBlock = none ∨ ho.val.ownBlock = x.ho.val.ownBlock ∨ ∃ k, ho.val.ownBlock = some k ∧ w.heap.size ≤ k) := by
  have HH := Lib.hid h; have HM := Lib.hid (plain_sent hm x.id tq); have HL := Lib.hid hl
  have h1 := h.step ((Bel.refl w).alloc (.cells (GMsg.enc m).toArray 70))
  have k0 := (rep_cells h1).1
  have c1 : get? GMsg (w.alloc (.cells (GMsg.enc m).toArray 70)) ⟨w.heap.size, 0, none⟩ = some m := get?_new _ _
  have b1 : blkFree (w.alloc (.cells (GMsg.enc m).toArray 70)) w.heap.size = true := blkFree_new _ _ rfl
  have hz1 := frozen_of_free (a := ⟨w.heap.size, 1, none⟩) b1
  have hz2 := frozen_of_free (a := ⟨w.heap.size, 2, none⟩) b1
  clear h hm hl h1
  go_enter Tryz.func62, Tryz.ntmps62
  go_upto_region 2 with fail
  have ee : (m.enc.set 1 (.int .i64 x.id)).set 2 (.int .i64 tq) = GMsg.enc (sent x.id tq m) := rfl
  rw [ee]
  have c2 : get? GMsg (w.alloc (.cells (GMsg.enc (sent x.id tq m)).toArray 70)) ⟨w.heap.size, 0, none⟩ = some (sent x.id tq m) := get?_new _ _
  have hbe : Bel w (w.alloc (.cells (GMsg.enc (sent x.id tq m)).toArray 70)) := (Bel.refl w).alloc _
  clear ee
  clear k0 c1 b1 hz1 hz2
  obtain ⟨q, hq⟩ : ∃ q, w.heap.size = q := ⟨_, rfl⟩
  have HQ := Lib.hid hq
  rw [hq] at c2 ⊢
  generalize w.alloc (.cells (GMsg.enc (sent x.id tq m)).toArray 70) = wa at c2 hbe ⊢
  have C2 := Lib.hid c2; have HBE := Lib.hid hbe
  clear c2 hbe hq
  obtain ⟨M, hM⟩ : ∃ M, sent x.id tq m = M := ⟨_, rfl⟩
  rw [hM] at C2 HM
  have HMM := Lib.hid hM
  clear hM
  have HR := Lib.hid (HH.out.step HBE.out)
  have hoq : ¬ x.ho.val.ownBlock = some q := fun e => by have := ((rep_own HH.out).1.lt q e).2; have := HQ.out; omega
  have hob : ∀ j < 20, ¬ x.ho.val.ownBlock = some (B j) := (rep_own HH.out).2
  have HOQ := Lib.hid hoq; have HOB := Lib.hid hob
  clear hoq hob
  refine wp_region_H GB (Chg (fun k => x.ho.val.ownBlock = some k)) [8, 11] [11] GB.rf (by kernel_rfl) ?_
  refine wpH_looks 6 12 [0, 1, 2, 3, 4, 5] rfl GB.rf GB.tr (Chg.refl _) (fun _ _ _ => Chg.tr) (fun _ _ h => Chg.of_bel h _) (by kernel_rfl) (fun _ _ _ _ hd h => And.intro (hd ▸ And.left h) (And.right h)) rfl (by kernel_rfl) ?_
  intro ι W hne CW
  have k0 : ∀ z, (W z).cell? ⟨B 0, 13, none⟩ = some (.slice x.ho.a x.ho.len x.ho.cap) := fun z => (CW.out z).cell (rep_cells HR.out).2.2.2.2.2.2.2.2.1 (HOB.out 0 (by omega))
  have k1 : ∀ z, get? GMsg (W z) ⟨q, 0, none⟩ = some M := fun z => (CW.out z).get C2.out HOQ.out
  repeat (refine wpLooksG_step (fun K hK => ?_); go_simp; refine hK _ ?_; clear hK K)
  refine wpLooksG_nil ?_
  clear k0 k1 CW hne W ι
  refine wpH_force 6 _ rfl (by kernel_rfl) rfl fun w6 hw6 K hK => ?_
  go_simp
  refine (copy0_any M w6 HM.out).mono ?_
  rintro _ wc ⟨rfl, hbc⟩
  refine hK _ _ (fun _ => hbc) (fun _ => Chg.of_bel hbc _) ?_
  have HBC := Lib.hid (HBE.out.trans ((GB.undrew hw6).trans hbc))
  clear hK K hbc hw6
  refine wpH_force 7 _ rfl (by kernel_rfl) rfl fun w7 hw7 K hK => ?_
  go_simp
  refine hK _ _ (fun _ => GB.al _ _) (fun _ => Chg.of_bel (GB.al _ _) _) ?_
  clear hK K
  have hs : Sl GMsg (w7.alloc (.cells (Enc.enc M).toArray 70)) (w7.alloc (.cells (Enc.enc M).toArray 70)).heap.size (some ⟨w7.heap.size, 0, none⟩) 1 [M] := Sl.new_ (xs := [M]) (by simp) rfl rfl (by simp)
  have hbf : Bel w (w7.alloc (.cells (Enc.enc M).toArray 70)) := (Bel.trans HBC.out hw7).trans ((Bel.refl w7).alloc (.cells (Enc.enc M).toArray 70))
  obtain ⟨p, hp⟩ : ∃ p, w7.heap.size = p := ⟨_, rfl⟩
  rw [hp] at hs ⊢
  change wpH _ _ _ _ _ _ _ _ _ _ _ (w7.alloc (.cells (Enc.enc M).toArray 70))
  generalize w7.alloc (.cells (Enc.enc M).toArray 70) = wg at hs hbf ⊢
  have HS := Lib.hid hs; have HBF := Lib.hid hbf
  clear hs hbf hp hw7
  refine wpH_force 8 _ rfl (by kernel_rfl) rfl fun w8 hw8 K hK => ?_
  have hr8 := HH.out.step (HBF.out.trans hw8)
  obtain ⟨v', w', hrun, ho, hgr, hob⟩ := gAppend_S (P := Tryz.prog) ei30 (rep_own hr8).1 (HS.out.stepB hw8) (by have := HL.out; unfold maxLen; omega) (by have := HL.out; omega) (by have := HH.out.lt 0 (by omega); have := HH.out.new 0 (by omega); have := Below.size (HBF.out.trans hw8); omega) 30
  change (gAppend #[30, 30] 30 #[.slice x.ho.a x.ho.len x.ho.cap, .slice (some ⟨p, 0, none⟩) 1 1]).run Tryz.prog w8 = .ok v' w' at hrun
  obtain ⟨A', c', rfl, _⟩ := ho.shape
  go_simp
  refine hK _ _ (fun h => absurd (by simp) h) (fun _ => Chg.of_grown hgr (fun k e => e)) ?_
  clear hK K
  have HW8 := Lib.hid (HBF.out.trans hw8); have HO := Lib.hid ho; have HGR := Lib.hid hgr; have HOB2 := Lib.hid hob
  clear ho hgr hob hw8 hr8 hrun
  refine wpH_force 9 _ rfl (by kernel_rfl) rfl fun w9 hw9 K hK => ?_
  go_simp
  refine hK _ _ (fun _ => GB.rf _) (fun _ => Chg.refl _ _) ?_
  clear hK K
  refine wpH_force 10 _ rfl (by kernel_rfl) rfl fun w10 hw10 K hK => ?_
  go_simp
  refine hK _ _ (fun _ => GB.rf _) (fun _ => Chg.refl _ _) ?_
  clear hK K
  refine wpH_force 11 _ rfl (by kernel_rfl) rfl fun w11 hw11 K hK => ?_
  have hb11 := GB.tr _ _ _ (GB.tr _ _ _ hw9 hw10) hw11
  have HC8 : Chg (fun k => x.ho.val.ownBlock = some k) w w' := (Chg.of_bel HW8.out _).tr (Chg.of_grown HGR.out (fun k e => e))
  have HC11 := Lib.hid (HC8.tr (Chg.of_bel hb11 _))
  have HO11 := Lib.hid (OwnS.step HO.out hb11)
  have f13 := HC11.out.cell (rep_cells HH.out).2.2.2.2.2.2.2.2.1 (HOB.out 0 (by omega))
  have z13 : w11.frozen? ⟨B 0, 13, none⟩ = false := frozen_of_free (HC11.out.free (rep_other HH.out).1 (HH.out.lt 0 (by omega)) (HOB.out 0 (by omega)))
  have Z13 := Lib.hid (HC11.out.free (rep_other HH.out).1 (HH.out.lt 0 (by omega)) (HOB.out 0 (by omega)))
  go_simp
  refine hK _ _ (fun h => absurd (by simp) h) (fun h => absurd (by simp) h) ?_
  clear hK K f13 z13 HC8 hb11 hw9 hw10 hw11
  refine wpH_end (by kernel_rfl) (fun wn hwn => ?_) _
  have HC12 : Chg (fun k => k = B 0 ∨ x.ho.val.ownBlock = some k) w (w11.setCell ⟨B 0, 13, none⟩ (.slice A' (x.out ++ [M]).length c')) := (HC11.out.sub (fun k e => .inr e)).tr (chg_cell (S := fun k => k = B 0 ∨ x.ho.val.ownBlock = some k) (.inl rfl) _)
  have hfin := HH.out.withOut (ho := ⟨A', (x.out ++ [M]).length, c'⟩) (l := x.out ++ [M]) HC12 (fun a ha => get?_poke (HC11.out.get ha (HOB.out 0 (by omega))) (rep_out (repG B x a) ⟨A', (x.out ++ [M]).length, c'⟩)) (by rw [blkFree_setCell]; exact Z13.out) (HO11.out.chg (chg_cell (S := fun k => k = B 0) rfl _) (fun k e he => ?_)) ?_
  · have hwn2 : Bel (w11.setCell ⟨B 0, 13, none⟩ (.slice A' (x.out ++ [M]).length c')) wn := by rw [show (x.out ++ [M]).length = x.out.length + 1 by simp]; exact hwn
    have hfin2 := hfin.step hwn2
    refine bodyPost_end (results_none rfl _ _ _) rfl ⟨rfl, ⟨A', (x.out ++ [M]).length, c'⟩, ?_, HC12.tr (Chg.of_bel hwn2 _), ?_⟩
    · rw [HMM.out]; exact hfin2
    · rcases HOB2.out with e | e
      · exact .inr (.inl e)
      · exact .inr (.inr ⟨_, e, Below.size HW8.out⟩)
  · rcases HOB2.out with e2 | e2
    · exact HOB.out 0 (by omega) (by rw [← he, ← e, ← e2])
    · rw [e2] at e; injection e with e; have := HH.out.lt 0 (by omega); have := Below.size HW8.out; omega
  · rcases HOB2.out with e | e
    · exact .inr (.inl e)
    · exact .inr (.inr ⟨_, e, Below.size HW8.out⟩)
end Go.Proofs.YtfhhcgldikmejaaGreatDoor
/- A replica's all: a message to each other. Conditions: those named in each theorem. -/
namespace Go.Proofs.YtfhhcgldikmejaaGreatDoor
open Go Go.RowKit Go.Gv Go.Proofs

def others (id : Int) : Nat → List Int
  | 0 => []
  | n + 1 => others id n ++ (if (n : Int) = id then [] else [(n : Int)])
theorem others_len (id : Int) : ∀ n, (others id n).length ≤ n
  | 0 => by simp [others]
  | n + 1 => by
    have := others_len id n
    unfold others
    rw [List.length_append]
    split <;> simp <;> omega
def toAll (id : Int) (m : GMsg) (n : Nat) : List GMsg := (others id n).map fun t => sent id t m
theorem toAll_yes (id : Int) (m : GMsg) (n : Nat) (h : (n : Int) = id) : toAll id m (n + 1) = toAll id m n := by simp [toAll, others, h]
theorem toAll_no (id : Int) (m : GMsg) (n : Nat) (h : ¬ (n : Int) = id) : toAll id m (n + 1) = toAll id m n ++ [sent id n m] := by simp [toAll, others, h]
theorem toAll_len (id : Int) (m : GMsg) (n : Nat) : (toAll id m n).length ≤ n := by simpa [toAll] using others_len id n
def Said (B0 : Nat) (h0 h1 : Hdr) (w w' : World) : Prop := Chg (fun k => k = B0 ∨ h0.val.ownBlock = some k) w w' ∧ (h1.val.ownBlock = none ∨ h1.val.ownBlock = h0.val.ownBlock ∨ ∃ k, h1.val.ownBlock = some k ∧ w.heap.size ≤ k)
theorem Said.rf (B0 : Nat) (h0 : Hdr) (w : World) : Said B0 h0 h0 w w := ⟨Chg.refl _ _, .inr (.inl rfl)⟩
theorem Said.tr {B0 : Nat} {h0 h1 h2 : Hdr} {w w1 w2 : World} (a : Said B0 h0 h1 w w1) (b : Said B0 h1 h2 w1 w2) : Said B0 h0 h2 w w2 := by
  refine ⟨a.1.trans b.1 ?_, ?_⟩
  · rintro k (e | e)
    · exact .inl (.inl e)
    · rcases a.2 with h | h | ⟨k', h, hk⟩
      · rw [h] at e; cases e
      · rw [h] at e; exact .inl (.inr e)
      · rw [h] at e; injection e with e; exact .inr (by omega)
  · rcases b.2 with h | h | ⟨k', h, hk⟩
    · exact .inl h
    · rcases a.2 with g | g | ⟨k2, g, hk2⟩
      · exact .inl (h.trans g)
      · exact .inr (.inl (h.trans g))
      · exact .inr (.inr ⟨k2, h.trans g, hk2⟩)
    · exact .inr (.inr ⟨k', h, Nat.le_trans a.1.size hk⟩)
theorem Said.bel {B0 : Nat} {h0 h1 : Hdr} {w w1 w2 : World} (a : Said B0 h0 h1 w w1) (b : Bel w1 w2) : Said B0 h0 h1 w w2 := ⟨a.1.tr (Chg.of_bel b _), a.2⟩
theorem Said.pre {B0 : Nat} {h0 h1 : Hdr} {w w1 w2 : World} (b : Bel w w1) (a : Said B0 h0 h1 w1 w2) : Said B0 h0 h1 w w2 := by
  refine ⟨(Chg.of_bel b _).tr a.1, ?_⟩
  rcases a.2 with h | h | ⟨k, h, hk⟩
  · exact .inl h
  · exact .inr (.inl h)
  · exact .inr (.inr ⟨k, h, Nat.le_trans (Below.size b) hk⟩)
set_option maxRecDepth 100000 in
set_option maxHeartbeats 4000000 in
theorem repAll_any (w0 : World) (B : Nat → Nat) (x : RSt) (m : GMsg) (f : Nat) (w : World) (h : RepIs w0 w B x) (hm : PlainM m) (hl : x.out.length ≤ 1000) (hf : x.c.f = (f : Int)) (hf1 : f ≤ 21) : Calls Tryz.prog 50 #[.pointer (some ⟨B 0, 0, none⟩), m.val] w fun e w' =>
    e = .returned (.tuple #[]) ∧ ∃ ho, RepIs w0 w' B { x with ho := ho, out := x.out ++ toAll x.id m (3 * f + 1) } ∧ Said (B 0) x.ho ho w w' := by
  have HH := Lib.hid h; have HM := Lib.hid hm; have HL := Lib.hid hl; have HF := Lib.hid hf; have HF1 := Lib.hid hf1
  have h1 := h.step ((Bel.refl w).alloc (.cells (GMsg.enc m).toArray 70))
  have c1 : get? GMsg (w.alloc (.cells (GMsg.enc m).toArray 70)) ⟨w.heap.size, 0, none⟩ = some m := get?_new _ _
  have hba := (Bel.refl w).alloc (.cells (GMsg.enc m).toArray 70)
  have hsz : (w.alloc (.cells (GMsg.enc m).toArray 70)).heap.size = w.heap.size + 1 := World.size_alloc _ _
  clear h hm hl hf hf1
  go_enter Tryz.func50, Tryz.ntmps50
  go_upto_region 1 with fail
  obtain ⟨q, hq⟩ : ∃ q, w.heap.size = q := ⟨_, rfl⟩
  have HQ := Lib.hid hq
  rw [hq] at c1 hsz ⊢
  generalize w.alloc (.cells (GMsg.enc m).toArray 70) = wa at c1 h1 hba hsz ⊢
  have C1 := Lib.hid c1; have H1 := Lib.hid h1; have HBA := Lib.hid hba; have HSZ := Lib.hid hsz
  have k0 := (rep_cells h1).2.2.2.2.2.2.2.2.2
  clear c1 h1 hba hsz hq
  go_wp2_with fail
  refine (n_any x.c wa (by have := HF.out; omega) (by have := HF.out; have := HF1.out; omega)).mono ?_
  rw [HF.out]
  rintro _ wb ⟨rfl, hbb⟩
  have H2 := Lib.hid (H1.out.step hbb); have C2 := Lib.hid (GB.get hbb C1.out)
  have HBB := Lib.hid (HBA.out.trans hbb)
  have HSB := Lib.hid (Below.size hbb)
  clear hbb k0
  go_wp2_with fail
  go_loopw [10] (fun iv wr => ∃ (k : Nat) (ho : Hdr), k ≤ 3 * f + 1 ∧ iv = .int .i64 (k : Int) ∧ Hid (RepIs w0 wr B { x with ho := ho, out := x.out ++ toAll x.id m k }) ∧ Hid (Said (B 0) x.ho ho wb wr)) (fun iv _ => 3 * f + 1 - (intOf iv).toNat)
  case atStart => exact ⟨0, x.ho, by omega, rfl, Lib.hid (by simpa [toAll, others] using H2.out), Lib.hid (Said.rf _ _ _)⟩
  case round =>
    obtain ⟨k, ho, hk, rfl, hr, hs⟩ := hrel
    have hf1 := HF1.out
    have hk64 : k ≤ 64 := by omega
    have hwr : IntKind.i64.wrap ((k : Int) + 1) = (k : Int) + 1 := IntWalk.i64_in _ (by omega)
    by_cases hlt : (k : Int) < 3 * (f : Int) + 1
    · have k1 := (rep_cells hr.out).1
      simp only at k1
      by_cases hid : (k : Int) = x.id
      · have hb : ((k : Int) != x.id) = false := by rw [bne_eq_false_iff_eq]; exact hid
        have HID := Lib.hid hid
        clear hid
        go_wp2_with fail
        go_roundw
        case rel => exact ⟨k + 1, ho, by omega, by go_num, Lib.hid (by rw [toAll_yes _ _ _ HID.out]; exact hr.out), hs⟩
        case measure => simp [intOf] <;> omega
      · have hb : ((k : Int) != x.id) = true := by rw [bne_iff_ne]; exact hid
        have HID := Lib.hid hid
        clear hid
        have c3 : get? GMsg wr ⟨q, 0, none⟩ = some m := hs.out.1.get C2.out (by
          rintro (e | e)
          · have := HH.out.lt 0 (by omega); have := HQ.out; simp only at e; omega
          · have := ((rep_own HH.out).1.lt q e).2; have := HQ.out; omega)
        go_wp2_with fail
        refine (say_any w0 B { x with ho := ho, out := x.out ++ toAll x.id m k } m k wr hr.out HM.out (by have := HL.out; have := toAll_len x.id m k; have := HF1.out; simp only [List.length_append]; omega)).mono ?_
        rintro _ wc ⟨rfl, ho2, hr2, hch, hown⟩
        have HR2 := Lib.hid hr2
        have HS2 := Lib.hid (hs.out.tr (⟨hch, hown⟩ : Said (B 0) ho ho2 wr wc))
        clear hr2 hch hown c3 k1
        go_wp2_with fail
        go_roundw
        case rel => exact ⟨k + 1, ho2, by omega, by go_num, Lib.hid (by rw [toAll_no _ _ _ HID.out]; simpa using HR2.out), HS2⟩
        case measure => simp [intOf] <;> omega
    · have hke := Lib.hid (show k = 3 * f + 1 by omega)
      go_wp2_with fail
      refine bodyPost_end (results_none rfl _ _ _) rfl ⟨rfl, ho, ?_, ?_⟩
      · rw [← hke.out]; exact hr.out
      · exact Said.pre HBB.out hs.out
end Go.Proofs.YtfhhcgldikmejaaGreatDoor
/- A replica's ask. Conditions: those named in each theorem. -/
namespace Go.Proofs.YtfhhcgldikmejaaGreatDoor
open Go Go.RowKit Go.Gv Go.Proofs

def closeM (r t : Int) : GMsg := { (default : GMsg) with kind := 5, epoch := 0, round := r, time := t }
theorem closeM_plain (r t : Int) : PlainM (closeM r t) := ⟨rfl, rfl, rfl, ⟨rfl, rfl, rfl⟩, ⟨rfl, rfl, rfl⟩, rfl⟩
set_option maxRecDepth 100000 in
set_option maxHeartbeats 4000000 in
theorem ask_any (w0 : World) (B : Nat → Nat) (x : RSt) (f : Nat) (w : World) (h : RepIs w0 w B x) (hl : x.out.length ≤ 1000) (hf : x.c.f = (f : Int)) (hf1 : f ≤ 21) : Calls Tryz.prog 93 #[.pointer (some ⟨B 0, 0, none⟩)] w fun e w' =>
    e = .returned (.tuple #[]) ∧ ∃ ho, RepIs w0 w' B { x with ho := ho, out := x.out ++ toAll x.id (closeM x.askRound x.askTime) (3 * f + 1) } ∧ Said (B 0) x.ho ho w w' := by
  have HH := Lib.hid h; have HL := Lib.hid hl; have HF := Lib.hid hf; have HF1 := Lib.hid hf1
  clear h hl hf hf1
  go_enter Tryz.func93, Tryz.ntmps93
  refine wp_region_G GB [21] GB.rf (by kernel_rfl) ?_
  refine wpG_looks 3 22 [0, 1, 2, 3, 4, 6, 7, 8, 9, 10, 11, 12, 13, 14, 15, 16, 17, 18, 19] rfl GB.rf GB.tr (by kernel_rfl) (fun _ _ _ _ hd h => And.intro (hd ▸ And.left h) (And.right h)) rfl (by kernel_rfl) ?_
  intro ι W hne CW
  have k0 : ∀ z, (W z).cell? ⟨B 0, 7, none⟩ = some (.pointer (some ⟨B 7, 0, none⟩)) := fun z => GB.cell (GB.undrew (CW.out z)) (rep_cells HH.out).2.2.2.2.2.1
  have k1 : ∀ z, (W z).cell? ⟨B 0, 10, none⟩ = some (.pointer (some ⟨B 11, 0, none⟩)) := fun z => GB.cell (GB.undrew (CW.out z)) (rep_cells HH.out).2.2.2.2.2.2.2.1
  have k2 : ∀ z, (W z).cell? ⟨B 11, 5, none⟩ = some (.int .i64 x.askRound) := fun z => GB.cell (GB.undrew (CW.out z)) (ep_cells HH.out).2.2.1
  have k3 : ∀ z, (W z).cell? ⟨B 11, 6, none⟩ = some (.int .u64 x.askTime) := fun z => GB.cell (GB.undrew (CW.out z)) (ep_cells HH.out).2.2.2
  repeat (refine wpLooksG_step (fun K hK => ?_); go_simp; refine hK _ ?_; clear hK K)
  refine wpLooksG_nil ?_
  clear k0 k1 k2 k3 CW hne W ι
  refine wpG_force 5 _ rfl (by kernel_rfl) rfl fun wa hwa K hK => ?_
  go_simp
  refine (epoch0_any (B 7) (B 8) wa (HH.out.step (GB.undrew hwa)).led).mono ?_
  rintro _ _ ⟨rfl, rfl⟩
  refine hK _ _ (fun _ => GB.rf _) ?_
  clear hK K
  refine wpG_force 20 _ rfl (by kernel_rfl) rfl fun wb hwb K hK => ?_
  go_simp
  refine hK _ _ (fun _ => GB.rf _) ?_
  clear hK K
  refine wpG_force 21 _ rfl (by kernel_rfl) rfl fun wc hwc K hK => ?_
  go_simp
  have hbc := GB.tr _ _ _ (GB.tr _ _ _ (GB.undrew hwa) hwb) hwc
  refine (repAll_any w0 B x (closeM x.askRound x.askTime) f wc (HH.out.step hbc) (closeM_plain _ _) HL.out HF.out HF1.out).mono ?_
  rintro _ wd ⟨rfl, ho, hr, hs⟩
  refine hK _ _ (fun h => absurd (by simp) h) ?_
  clear hK K
  refine wpG_end (by kernel_rfl) (fun wn hwn => ?_) _
  exact bodyPost_end (results_none rfl _ _ _) rfl ⟨rfl, ho, hr.step hwn, (hs.bel hwn).pre hbc⟩
end Go.Proofs.YtfhhcgldikmejaaGreatDoor
