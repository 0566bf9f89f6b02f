/- The stamper's clock and floor; a promise of a table that holds none. Conditions: those named in each theorem. -/
import Derived.Test.YthkifibmihijaaaGreatDoorP5
import Derived.Test.YthkifibmihijaaaGreatDoorP6
import Derived.Test.YthkifibmihijaaaGreatDoorP4
import Derived.RangeFuncNested
import Derived.RangeFuncBox
import Derived.RangeFuncLeaves
import Derived.RangeFuncWrites
import Derived.Shelf.Abstract
import Derived.WalkKit
import Derived.OwnWalkIn
import Derived.TacticsInMore
import Derived.LoopNIn
import Derived.LoopIn
import Derived.Maps.AppendAt
import Derived.Test.YthkifibmihijaaaGreatDoorP3
/- Sizes of a service. Conditions: those named in each theorem. -/
namespace Go.Proofs.YthkifibmihijaaaGreatDoor
open Go Go.RowKit Go.Gv Go.Proofs

def validB (c : GConf) : Bool := decide (1 ≤ c.f) && (decide (c.f ≤ 21) && (decide (1 ≤ c.clients) && decide (c.clients ≤ 100)))
theorem validB_iff {c : GConf} : validB c = true ↔ 1 ≤ c.f ∧ c.f ≤ 21 ∧ 1 ≤ c.clients ∧ c.clients ≤ 100 := by unfold validB; simp
def inB (c : GConf) (i : Int) : Bool := decide (0 ≤ i) && decide (i < 3 * c.f + 1)
set_option maxRecDepth 100000 in
theorem valid_any (c : GConf) (w : World) : Calls Tryz.prog 31 #[c.val] w fun e w' => e = .returned (.bool (validB c)) ∧ Bel w w' := by
  by_cases h0 : 1 ≤ c.f
  · skip
    by_cases h1 : c.f ≤ 21
    · skip
      by_cases h2 : 1 ≤ c.clients
      · skip
        by_cases h3 : c.clients ≤ 100
        · skip
          go_enter Tryz.func31, Tryz.ntmps31
          go_wp2_with fail
          go_ret
          exact ⟨ret_bool (by unfold validB; simp <;> omega), (Bel.refl w).alloc _⟩
        · skip
          go_enter Tryz.func31, Tryz.ntmps31
          go_wp2_with fail
          go_ret
          exact ⟨ret_bool (by unfold validB; simp <;> omega), (Bel.refl w).alloc _⟩
      · skip
        go_enter Tryz.func31, Tryz.ntmps31
        go_wp2_with fail
        go_ret
        exact ⟨ret_bool (by unfold validB; simp <;> omega), (Bel.refl w).alloc _⟩
    · skip
      go_enter Tryz.func31, Tryz.ntmps31
      go_wp2_with fail
      go_ret
      exact ⟨ret_bool (by unfold validB; simp <;> omega), (Bel.refl w).alloc _⟩
  · skip
    go_enter Tryz.func31, Tryz.ntmps31
    go_wp2_with fail
    go_ret
    exact ⟨ret_bool (by unfold validB; simp <;> omega), (Bel.refl w).alloc _⟩
set_option maxRecDepth 100000 in
theorem validR_any (c : GConf) (w : World) : Calls Tryz.prog 21 #[c.val] w fun e w' => e = .returned (.bool (validB c)) ∧ Bel w w' := by
  by_cases h0 : 1 ≤ c.f
  · skip
    by_cases h1 : c.f ≤ 21
    · skip
      by_cases h2 : 1 ≤ c.clients
      · skip
        by_cases h3 : c.clients ≤ 100
        · skip
          go_enter Tryz.func21, Tryz.ntmps21
          go_wp2_with fail
          go_ret
          exact ⟨ret_bool (by unfold validB; simp <;> omega), (Bel.refl w).alloc _⟩
        · skip
          go_enter Tryz.func21, Tryz.ntmps21
          go_wp2_with fail
          go_ret
          exact ⟨ret_bool (by unfold validB; simp <;> omega), (Bel.refl w).alloc _⟩
      · skip
        go_enter Tryz.func21, Tryz.ntmps21
        go_wp2_with fail
        go_ret
        exact ⟨ret_bool (by unfold validB; simp <;> omega), (Bel.refl w).alloc _⟩
    · skip
      go_enter Tryz.func21, Tryz.ntmps21
      go_wp2_with fail
      go_ret
      exact ⟨ret_bool (by unfold validB; simp <;> omega), (Bel.refl w).alloc _⟩
  · skip
    go_enter Tryz.func21, Tryz.ntmps21
    go_wp2_with fail
    go_ret
    exact ⟨ret_bool (by unfold validB; simp <;> omega), (Bel.refl w).alloc _⟩
set_option maxRecDepth 100000 in
theorem n_any (c : GConf) (w : World) (h1 : -1000000 ≤ c.f) (h2 : c.f ≤ 1000000) : Calls Tryz.prog 66 #[c.val] w fun e w' => e = .returned (.int .i64 (3 * c.f + 1)) ∧ Bel w w' := by
  have e1 : IntKind.i64.wrap (3 * c.f) = 3 * c.f := IntWalk.i64_in _ (by omega)
  have e2 : IntKind.i64.wrap (3 * c.f + 1) = 3 * c.f + 1 := IntWalk.i64_in _ (by omega)
  go_enter Tryz.func66, Tryz.ntmps66
  go_wp2_with fail
  go_ret
  exact ⟨rfl, (Bel.refl w).alloc _⟩
set_option maxRecDepth 100000 in
theorem q_any (c : GConf) (w : World) (h1 : -1000000 ≤ c.f) (h2 : c.f ≤ 1000000) : Calls Tryz.prog 96 #[c.val] w fun e w' => e = .returned (.int .i64 (2 * c.f + 1)) ∧ Bel w w' := by
  have e1 : IntKind.i64.wrap (2 * c.f) = 2 * c.f := IntWalk.i64_in _ (by omega)
  have e2 : IntKind.i64.wrap (2 * c.f + 1) = 2 * c.f + 1 := IntWalk.i64_in _ (by omega)
  go_enter Tryz.func96, Tryz.ntmps96
  go_wp2_with fail
  go_ret
  exact ⟨rfl, (Bel.refl w).alloc _⟩
set_option maxRecDepth 100000 in
theorem nR_any (c : GConf) (w : World) (h1 : -1000000 ≤ c.f) (h2 : c.f ≤ 1000000) : Calls Tryz.prog 11 #[c.val] w fun e w' => e = .returned (.int .i64 (3 * c.f + 1)) ∧ Bel w w' := by
  have e1 : IntKind.i64.wrap (3 * c.f) = 3 * c.f := IntWalk.i64_in _ (by omega)
  have e2 : IntKind.i64.wrap (3 * c.f + 1) = 3 * c.f + 1 := IntWalk.i64_in _ (by omega)
  go_enter Tryz.func11, Tryz.ntmps11
  go_wp2_with fail
  go_ret
  exact ⟨rfl, (Bel.refl w).alloc _⟩
set_option maxRecDepth 100000 in
theorem in_any (c : GConf) (i : Int) (w : World) (h1 : -1000000 ≤ c.f) (h2 : c.f ≤ 1000000) : Calls Tryz.prog 32 #[c.val, .int .i64 i] w fun e w' => e = .returned (.bool (inB c i)) ∧ Bel w w' := by
  have HB := Lib.hid ((Bel.refl w).alloc (.cells (GConf.enc c).toArray 23))
  by_cases h0 : 0 ≤ i
  · go_enter Tryz.func32, Tryz.ntmps32
    go_wp2_with fail
    refine (n_any c _ h1 h2).mono ?_
    rintro _ w1 ⟨rfl, hb⟩
    have HB1 := Lib.hid (HB.out.trans hb)
    clear hb
    go_wp2_with fail
    go_ret
    exact ⟨ret_bool (by unfold inB; simp <;> omega), HB1.out⟩
  · go_enter Tryz.func32, Tryz.ntmps32
    go_wp2_with fail
    go_ret
    exact ⟨ret_bool (by unfold inB; simp <;> omega), HB.out⟩
theorem in_is (b : Bool) (c : GConf) (i : Int) (w : World) (hb : inB c i = b) (h1 : -1000000 ≤ c.f) (h2 : c.f ≤ 1000000) : Calls Tryz.prog 32 #[c.val, .int .i64 i] w fun e w' => e = .returned (.bool b) ∧ Bel w w' := by subst hb; exact in_any c i w h1 h2
theorem valid_is (b : Bool) (c : GConf) (w : World) (hb : validB c = b) : Calls Tryz.prog 31 #[c.val] w fun e w' => e = .returned (.bool b) ∧ Bel w w' := by subst hb; exact valid_any c w
def mayR (c : GConf) (i : Int) : Bool := validB c && inB c i
set_option maxRecDepth 100000 in
theorem mayR_any (c : GConf) (i : Int) (w : World) : Calls Tryz.prog 6 #[c.val, .int .i64 i] w fun e w' => e = .returned (.bool (mayR c i)) ∧ Bel w w' := by
  have HB := Lib.hid ((Bel.refl w).alloc (.cells (GConf.enc c).toArray 23))
  obtain ⟨vb, hvb⟩ : ∃ b, validB c = b := ⟨_, rfl⟩
  have HV := Lib.hid hvb
  cases vb
  · clear hvb
    go_enter Tryz.func6, Tryz.ntmps6
    go_wp2_with fail
    refine (validR_any c _).mono ?_
    rw [HV.out]
    rintro _ w1 ⟨rfl, hb⟩
    have HB1 := Lib.hid (HB.out.trans hb)
    clear hb
    go_wp2_with fail
    go_ret
    exact ⟨ret_bool (by unfold mayR; rw [HV.out]; rfl), HB1.out⟩
  · obtain ⟨v1, v2, v3, v4⟩ := validB_iff.1 hvb
    clear hvb
    have G := Lib.hid (get?_new (w := w) 23 c)
    by_cases h0 : 0 ≤ i
    · go_enter Tryz.func6, Tryz.ntmps6
      go_wp2_with fail
      refine (validR_any c _).mono ?_
      rw [HV.out]
      rintro _ w1 ⟨rfl, hb⟩
      have HB1 := Lib.hid (HB.out.trans hb)
      have g1 := GB.get hb G.out
      clear hb
      go_wp2_with fail
      refine (nR_any c _ (by omega) (by omega)).mono ?_
      rintro _ w2 ⟨rfl, hb⟩
      have HB2 := Lib.hid (HB1.out.trans hb)
      clear hb
      go_wp2_with fail
      go_ret
      exact ⟨ret_bool (by unfold mayR inB; rw [HV.out]; simp <;> omega), HB2.out⟩
    · go_enter Tryz.func6, Tryz.ntmps6
      go_wp2_with fail
      refine (validR_any c _).mono ?_
      rw [HV.out]
      rintro _ w1 ⟨rfl, hb⟩
      have HB1 := Lib.hid (HB.out.trans hb)
      clear hb
      go_wp2_with fail
      go_ret
      exact ⟨ret_bool (by unfold mayR inB; rw [HV.out]; simp <;> omega), HB1.out⟩
end Go.Proofs.YthkifibmihijaaaGreatDoor
/- Numbers and rows as bytes: what the writer writes. Conditions: those named in each theorem. -/
namespace Go.Proofs.YthkifibmihijaaaGreatDoor
open Go Go.RowKit Go.Gv Go.Proofs

theorem chg_setCell {S : Nat → Prop} {w : World} {p : Addr} (hp : S p.block) (u : Value) : Chg S w (w.setCell p u) :=
  ⟨rfl, rfl, rfl, by simp, fun k _ hn => Below.heap_setCell _ _ _ _ (fun e => hn (e ▸ hp))⟩
/-- A number's bytes. -/
def numL (n : Nat) : List U8 := if n < 128 then [⟨UInt8.ofNat n⟩] else ⟨UInt8.ofNat (n % 128 + 128)⟩ :: numL (n / 128)
termination_by n
decreasing_by omega
theorem numL_small {n : Nat} (h : n < 128) : numL n = [⟨UInt8.ofNat n⟩] := by rw [numL, if_pos h]
theorem numL_big {n : Nat} (h : ¬ n < 128) : numL n = ⟨UInt8.ofNat (n % 128 + 128)⟩ :: numL (n / 128) := by rw [numL, if_neg h]
theorem numL_len : ∀ (k n : Nat), n < 128 ^ (k + 1) → (numL n).length ≤ k + 1
  | 0, n, h => by rw [numL_small (by simpa using h)]; simp
  | k + 1, n, h => by
    by_cases h1 : n < 128
    · rw [numL_small h1]; simp
    · rw [numL_big h1, List.length_cons]
      have := numL_len k (n / 128) (by rw [Nat.pow_succ] at h; omega)
      omega
theorem numL_le {n : Nat} (h : n < 18446744073709551616) : (numL n).length ≤ 10 := numL_len 9 n (Nat.lt_of_lt_of_le h (by decide))
def intL (n : Int) : List U8 := numL (max 0 n).toNat
theorem intL_le {n : Int} (h : n ≤ 9223372036854775807) : (intL n).length ≤ 10 := numL_le (by omega)
def rowL (l : List U8) : List U8 := intL l.length ++ l
def hashL (h : GHash) : List U8 := h.l.map U8.mk
theorem hashL_len (h : GHash) : (hashL h).length = 32 := by unfold hashL; rw [List.length_map, h.h]
def bytesL (s : ByteArray) : List U8 := s.data.toList.map U8.mk

/-- At p lies a writer whose bytes are bs; all of it is new since w0. -/
structure WrIs (w0 w : World) (p : Nat) (bs : List U8) : Prop where
  bel : Bel w0 w
  own : ∃ hd : Hdr, get? GCodeWriter w ⟨p, 0, none⟩ = some ⟨hd⟩ ∧ OwnS w w0.heap.size 5 hd.val bs ∧ hd.val.ownBlock ≠ some p
  lt : w0.heap.size ≤ p
  free : blkFree w p = true
section
variable {w0 w w' : World} {p : Nat} {bs ys : List U8}
theorem WrIs.step (h : WrIs w0 w p bs) (hb : Bel w w') : WrIs w0 w' p bs := by
  obtain ⟨hd, h1, h2, h3⟩ := h.own
  exact ⟨h.bel.trans hb, ⟨hd, GB.get hb h1, h2.step hb, h3⟩, h.lt, (blkFree_keep (Below.block hb _ (get?_lt h1))).trans h.free⟩
/-- The blocks that a writer writes. -/
def wrFoot (w : World) (p : Nat) (k : Nat) : Prop := k = p ∨ ∃ hd : Hdr, get? GCodeWriter w ⟨p, 0, none⟩ = some ⟨hd⟩ ∧ hd.val.ownBlock = some k
/-- The writer's bytes are ys now; nothing else was changed. -/
structure WrDid (w0 w : World) (p : Nat) (ys : List U8) (w' : World) : Prop where
  is : WrIs w0 w' p ys
  chg : Chg (wrFoot w p) w w'
  foot : ∀ k, wrFoot w' p k → wrFoot w p k ∨ w.heap.size ≤ k
theorem WrDid.refl (h : WrIs w0 w p bs) : WrDid w0 w p bs w := ⟨h, Chg.refl _ _, fun _ hk => .inl hk⟩
theorem WrDid.trans {w2 : World} {zs : List U8} (h : WrDid w0 w p ys w') (k : WrDid w0 w' p zs w2) : WrDid w0 w p zs w2 :=
  ⟨k.is, h.chg.trans k.chg h.foot, fun i hi => by
    rcases k.foot i hi with h1 | h1
    · exact h.foot i h1
    · exact .inr (Nat.le_trans h.chg.size h1)⟩
theorem wrFoot_bel (h : WrIs w0 w p bs) (hb : Bel w w') {k : Nat} (hk : wrFoot w' p k) : wrFoot w p k := by
  obtain ⟨hd, h1, _⟩ := h.own
  rcases hk with rfl | ⟨hd', h2, h3⟩
  · exact .inl rfl
  · rw [GB.get hb h1] at h2
    injection h2 with h2
    exact .inr ⟨hd, h1, by rw [show hd = hd' by injection h2]; exact h3⟩
theorem WrDid.bel {w2 : World} {zs : List U8} (h : WrIs w0 w p bs) (hb : Bel w w') (k : WrDid w0 w' p zs w2) : WrDid w0 w p zs w2 :=
  WrDid.trans (w' := w') (ys := bs) ⟨h.step hb, Chg.of_bel hb _, fun i hi => .inl (wrFoot_bel h hb hi)⟩ k
theorem WrDid.next (h : WrDid w0 w p ys w') {w2 : World} (hb : Bel w' w2) : WrDid w0 w p ys w2 :=
  h.trans ⟨h.is.step hb, Chg.of_bel hb _, fun i hi => .inl (wrFoot_bel h.is hb hi)⟩
/-- A writer behind an append whose header is stored. -/
theorem WrIs.put {hd : Hdr} {v' : Value} {n c : Nat} {A : Option Addr} (hbel : Bel w0 w) (hg : get? GCodeWriter w ⟨p, 0, none⟩ = some ⟨hd⟩) (ho : OwnS w w0.heap.size 5 hd.val bs) (hne : hd.val.ownBlock ≠ some p) (hlt : w0.heap.size ≤ p) (hf : blkFree w p = true)
    (ho' : OwnS w' w0.heap.size 5 v' ys) (hv : v' = .slice A n c) (hgr : w.grownBy w' hd.val.ownBlock) (hob : v'.ownBlock = hd.val.ownBlock ∨ v'.ownBlock = some w.heap.size) :
    WrDid w0 w p ys (w'.setCell ⟨p, 0, none⟩ v') := by
  have hpl := get?_lt hg
  have hg' : get? GCodeWriter w' ⟨p, 0, none⟩ = some ⟨hd⟩ := (get?_keep (hgr.block p hpl (fun e => hne e.symm))).trans hg
  have hne' : v'.ownBlock ≠ some p := by
    rcases hob with h | h
    · rw [h]; exact hne
    · rw [h]; intro e; injection e with e; simp only at hpl; omega
  have hc : Chg (fun k => k = p) w' (w'.setCell ⟨p, 0, none⟩ v') := chg_setCell (S := fun k => k = p) (p := ⟨p, 0, none⟩) rfl _
  have hb1 : Bel w0 w' := Below.grown hbel hgr hbel.size (fun k hk => (ho.lt k hk).1)
  have hgp : get? GCodeWriter (w'.setCell ⟨p, 0, none⟩ v') ⟨p, 0, none⟩ = some ⟨⟨A, n, c⟩⟩ := get?_poke (y := (⟨⟨A, n, c⟩⟩ : GCodeWriter)) (j := 0) (v := v') hg' (by rw [hv]; rfl)
  refine ⟨?_, (Chg.of_grown (S := wrFoot w p) hgr (fun k hk => .inr ⟨hd, hg, hk⟩)).tr (hc.sub (fun k hk => .inl hk)), ?_⟩
  rotate_left
  · rintro k (rfl | ⟨hd', h1, h2⟩)
    · exact .inl (.inl rfl)
    · rw [hgp] at h1
      injection h1 with h1
      rw [show hd' = ⟨A, n, c⟩ by injection h1 with h1; exact h1.symm] at h2
      have h3 : v'.ownBlock = some k := by rw [hv]; exact h2
      rcases hob with h | h
      · exact .inl (.inr ⟨hd, hg, by rw [← h]; exact h3⟩)
      · rw [h] at h3; injection h3 with h3; exact .inr (by omega)
  refine ⟨Chg.bel2 hb1 hc (fun k hk => by rw [hk]; exact hlt), ⟨⟨A, n, c⟩, ?_, ?_, ?_⟩, hlt, ?_⟩
  · exact hgp
  · have := ho'.chg hc (fun k hk e => hne' (by rw [hk, e]))
    rwa [hv] at this ⊢
  · rw [hv] at hne'; exact hne'
  · rw [blkFree_setCell]
    exact (blkFree_keep (hgr.block p hpl (fun e => hne e.symm))).trans hf
end
end Go.Proofs.YthkifibmihijaaaGreatDoor
/- The writer's methods: what they write. Conditions: those named in each theorem. -/
namespace Go.Proofs.YthkifibmihijaaaGreatDoor
open Go Go.RowKit Go.Gv Go.Proofs

section
variable {w0 w w' : World} {p : Nat} {bs ys : List U8}
theorem or_bits : ∀ k < 256, bits .or .u8 ((k : Nat) : Int) 128 = ((k % 128 + 128 : Nat) : Int) := by decide +kernel
/-- What an append to a writer does: its run, and the writer behind the header's store. -/
theorem WrIs.app (h : WrIs w0 w p bs) {A : Option Addr} {m c : Nat} (hy : Sl U8 w w.heap.size A m ys) (hl : bs.length + m ≤ 1000000000) :
    ∃ (A0 : Option Addr) (n0 c0 : Nat) (A1 : Option Addr) (n1 c1 : Nat) (w1 : World), w.cell? ⟨p, 0, none⟩ = some (.slice A0 n0 c0) ∧ (gAppend #[64, 64] 64 #[.slice A0 n0 c0, .slice A m c]).run Tryz.prog w = .ok (.slice A1 n1 c1) w1 ∧
      w1.cell? ⟨p, 0, none⟩ = some (.slice A0 n0 c0) ∧ w1.frozen? ⟨p, 0, none⟩ = false ∧ WrDid w0 w p (bs ++ ys) (w1.setCell ⟨p, 0, none⟩ (.slice A1 n1 c1)) := by
  obtain ⟨⟨A0, n0, c0⟩, hg, ho, hne⟩ := h.own
  obtain ⟨v', w1, hrun, ho', hgr, hob⟩ := gAppend_S (P := Tryz.prog) ei64 (t := 64) ho (c := c) hy (by unfold maxLen; omega) (by omega) h.bel.size 64
  have hpl := get?_lt hg
  have hk : w1.heap[p]? = w.heap[p]? := hgr.block p hpl (fun e => hne e.symm)
  have hg1 : get? GCodeWriter w1 ⟨p, 0, none⟩ = some ⟨⟨A0, n0, c0⟩⟩ := (get?_keep hk).trans hg
  obtain ⟨A1, c1, hv, _⟩ := OwnS.ownA ho'
  have hdid := WrIs.put h.bel hg ho hne h.lt h.free ho' hv hgr hob
  subst hv
  exact ⟨A0, n0, c0, A1, _, c1, w1, cell_zero (GCodeWriter.at_b hg), hrun, cell_zero (GCodeWriter.at_b hg1), frozen_of_free (by rw [show blkFree w1 p = blkFree w p from blkFree_keep hk]; exact h.free), hdid⟩
end
theorem sl_byte (w : World) (m : Nat) (hm : m < 256) : Sl U8 (w.alloc (.cells #[.int .u8 m] 5)) (w.alloc (.cells #[.int .u8 m] 5)).heap.size (some ⟨w.heap.size, 0, none⟩) 1 [⟨UInt8.ofNat m⟩] :=
  Sl.new_ (by
    show [Value.int .u8 (m : Int)] = [encU8 (UInt8.ofNat m)]
    unfold encU8
    rw [UInt8.toNat_ofNat']
    congr 2
    omega) rfl rfl (by simp)
set_option maxRecDepth 100000 in
set_option maxHeartbeats 1000000 in
theorem num_any (w0 : World) (p : Nat) (bs : List U8) (n : Nat) (w : World) (h : WrIs w0 w p bs) (hn : n < 18446744073709551616) (hl : bs.length ≤ 900000000) :
    Calls Tryz.prog 165 #[.pointer (some ⟨p, 0, none⟩), .int .u64 n] w fun e w' => e = .returned (.pointer (some ⟨p, 0, none⟩)) ∧ WrDid w0 w p (bs ++ numL n) w' := by
  have HW := Lib.hid h
  clear h
  go_enter Tryz.func165, Tryz.ntmps165
  go_wp2_with fail
  go_loopw [1] (fun iv wr => ∃ (m : Nat) (cs : List U8), iv = .int .u64 m ∧ Hid (WrDid w0 w p cs wr) ∧ cs ++ numL m = bs ++ numL n ∧ m < 18446744073709551616 ∧ cs.length + (numL m).length ≤ 900000010) (fun iv _ => (intOf iv).toNat)
  case atStart => exact ⟨n, bs, rfl, Lib.hid (WrDid.refl HW.out), rfl, hn, by have := numL_le hn; omega⟩
  case round =>
    obtain ⟨m, cs, rfl, hwr, hEq, hm, hcl⟩ := hrel
    have HEQ := Lib.hid hEq
    clear hEq HW
    by_cases hb : m < 128
    · have hb2 : ¬ (128 : Int) ≤ (m : Int) := by omega
      have hst := hwr.out.is.step ((Bel.refl wr).alloc (.cells #[.int .u8 m] 5))
      have e1 : numL m = [⟨UInt8.ofNat m⟩] := numL_small hb
      rw [e1] at hcl
      simp only [List.length_singleton] at hcl
      obtain ⟨A0, n0, c0, A1, n1, c1, w1, f0, hrun, f1, f2, hW1⟩ := hst.app (c := 1) (sl_byte wr m (by omega)) (by omega)
      have f0' : wr.cell? ⟨p, 0, none⟩ = some (.slice A0 n0 c0) := by
        obtain ⟨⟨A1, n1, c1⟩, hg, ho, hne⟩ := hwr.out.is.own
        have h1 := cell_zero (GCodeWriter.at_b hg)
        have h2 := GB.cell (GB.al wr (.cells #[.int .u8 m] 5)) h1
        rw [f0] at h2
        exact h1.trans h2.symm
      have HW1 := Lib.hid (hwr.out.trans (WrDid.bel hwr.out.is ((Bel.refl wr).alloc _) hW1))
      have HE1 := Lib.hid (show cs ++ [⟨UInt8.ofNat m⟩] = bs ++ numL n by rw [← e1]; exact HEQ.out)
      clear hst hW1 f0 hcl e1
      go_wp2_with fail
      go_ret
      exact ⟨rfl, by have := HW1.out; rw [HE1.out] at this; exact this⟩
    · have hb2 : (128 : Int) ≤ (m : Int) := by omega
      have hor : bits .or .u8 ((m : Int) % 256) 128 = ((m % 128 + 128 : Nat) : Int) := by
        have := or_bits (m % 256) (by omega)
        rw [show m % 256 % 128 = m % 128 by omega] at this
        rwa [show ((m % 256 : Nat) : Int) = (m : Int) % 256 by omega] at this
      have hshr : ∃ q, q = m / 128 := ⟨_, rfl⟩
      have hst := hwr.out.is.step ((Bel.refl wr).alloc (.cells #[.int .u8 ((m % 128 + 128 : Nat) : Int)] 5))
      have e1 : numL m = ⟨UInt8.ofNat (m % 128 + 128)⟩ :: numL (m / 128) := numL_big hb
      rw [e1] at hcl
      simp only [List.length_cons] at hcl
      obtain ⟨A0, n0, c0, A1, n1, c1, w1, f0, hrun, f1, f2, hW1⟩ := hst.app (c := 1) (sl_byte wr (m % 128 + 128) (by omega)) (by omega)
      have f0' : wr.cell? ⟨p, 0, none⟩ = some (.slice A0 n0 c0) := by
        obtain ⟨⟨A1, n1, c1⟩, hg, ho, hne⟩ := hwr.out.is.own
        have h1 := cell_zero (GCodeWriter.at_b hg)
        have h2 := GB.cell (GB.al wr (.cells #[.int .u8 ((m % 128 + 128 : Nat) : Int)] 5)) h1
        rw [f0] at h2
        exact h1.trans h2.symm
      have HW1 := Lib.hid (hwr.out.trans (WrDid.bel hwr.out.is ((Bel.refl wr).alloc _) hW1))
      have HE1 := Lib.hid (show (cs ++ [⟨UInt8.ofNat (m % 128 + 128)⟩]) ++ numL (m / 128) = bs ++ numL n by rw [← HEQ.out, e1]; simp)
      obtain ⟨bt, hbt⟩ : ∃ b : Int, ((m % 128 + 128 : Nat) : Int) = b := ⟨_, rfl⟩
      rw [hbt] at hor hrun
      have HCL := Lib.hid hcl
      clear hst hW1 f0 e1 hshr hbt hcl
      go_wp2_with fail
      exact ⟨⟨m / 128, cs ++ [⟨UInt8.ofNat (m % 128 + 128)⟩], by rw [Int.natCast_ediv]; rfl, Lib.hid HW1.out, HE1.out, by omega, by have := HCL.out; rw [List.length_append, List.length_singleton]; omega⟩, by simp [intOf]; omega⟩
set_option maxRecDepth 100000 in
set_option maxHeartbeats 400000 in
theorem int_any (w0 : World) (p : Nat) (bs : List U8) (n : Int) (w : World) (h : WrIs w0 w p bs) (hn : n ≤ 9223372036854775807) (hl : bs.length ≤ 900000000) :
    Calls Tryz.prog 115 #[.pointer (some ⟨p, 0, none⟩), .int .i64 n] w fun e w' => e = .returned (.pointer (some ⟨p, 0, none⟩)) ∧ WrDid w0 w p (bs ++ intL n) w' := by
  have HW := Lib.hid h
  clear h
  by_cases h0 : 0 < n
  · obtain ⟨k, rfl⟩ := Int.eq_ofNat_of_zero_le (show 0 ≤ n by omega)
    have hk0 : 0 < k := by omega
    have HK := Lib.hid (show intL (k : Int) = numL k by unfold intL; congr 1)
    have hw : IntKind.u64.wrap (k : Int) = (k : Int) := IntWalk.u64_in _ (by omega)
    go_enter Tryz.func115, Tryz.ntmps115
    go_wp2_with fail
    refine (num_any w0 p bs k w HW.out (by omega) hl).mono ?_
    rintro _ w1 ⟨rfl, hw1⟩
    have HW1 := Lib.hid hw1
    clear hw1
    go_wp2_with fail
    go_ret
    exact ⟨rfl, by rw [HK.out]; exact HW1.out⟩
  · have HK := Lib.hid (show intL n = numL 0 by unfold intL; congr 1; omega)
    go_enter Tryz.func115, Tryz.ntmps115
    go_wp2_with fail
    refine (num_any w0 p bs 0 w HW.out (by omega) hl).mono ?_
    rintro _ w1 ⟨rfl, hw1⟩
    have HW1 := Lib.hid hw1
    clear hw1
    go_wp2_with fail
    go_ret
    exact ⟨rfl, by rw [HK.out]; exact HW1.out⟩
/-- A slice that is none of the writer's blocks stands behind what the writer does. -/
theorem WrDid.sl {α : Type} [Enc α] {w0 w w' : World} {p : Nat} {ys : List U8} {A : Option Addr} {n : Nat} {xs : List α} (h : WrDid w0 w p ys w') (hs : Sl α w w.heap.size A n xs) (hA : ∀ ad, A = some ad → ¬ wrFoot w p ad.block) : Sl α w' w'.heap.size A n xs :=
  Sl.chg h.chg hs (fun _ ad e => hA ad e)
set_option maxRecDepth 100000 in
set_option maxHeartbeats 400000 in
theorem row_any (w0 : World) (p : Nat) (bs : List U8) (A : Option Addr) (n c : Nat) (ys : List U8) (w : World) (h : WrIs w0 w p bs) (hy : Sl U8 w w.heap.size A n ys) (hA : ∀ ad, A = some ad → ¬ wrFoot w p ad.block) (hn : n ≤ 1000000) (hl : bs.length ≤ 800000000) :
    Calls Tryz.prog 164 #[.pointer (some ⟨p, 0, none⟩), .slice A n c] w fun e w' => e = .returned (.pointer (some ⟨p, 0, none⟩)) ∧ WrDid w0 w p (bs ++ rowL ys) w' := by
  have HW := Lib.hid h; have HY := Lib.hid hy; have HA := Lib.hid hA
  have hyl := hy.1
  clear h hy hA
  go_enter Tryz.func164, Tryz.ntmps164
  go_wp2_with fail
  refine (int_any w0 p bs n w HW.out (by omega) (by omega)).mono ?_
  rintro _ w1 ⟨rfl, hw1⟩
  have hil : (intL (n : Int)).length ≤ 10 := intL_le (by omega)
  obtain ⟨A0, n0, c0, A1, n1, c1, w2, f0, hrun, f1, f2, hW2⟩ := hw1.is.app (c := c) (hw1.sl HY.out HA.out) (by rw [List.length_append]; omega)
  have HD := Lib.hid (hw1.trans hW2)
  have HR := Lib.hid (show bs ++ intL (n : Int) ++ ys = bs ++ rowL ys by unfold rowL; rw [hyl]; simp)
  clear hw1 hW2 hil hyl
  go_wp2_with fail
  go_ret
  exact ⟨rfl, by rw [← HR.out]; exact HD.out⟩
set_option maxRecDepth 100000 in
set_option maxHeartbeats 400000 in
theorem hash_any (w0 : World) (p : Nat) (bs : List U8) (x : GHash) (w : World) (h : WrIs w0 w p bs) (hl : bs.length ≤ 800000000) :
    Calls Tryz.prog 133 #[.pointer (some ⟨p, 0, none⟩), x.val] w fun e w' => e = .returned (.pointer (some ⟨p, 0, none⟩)) ∧ WrDid w0 w p (bs ++ hashL x) w' := by
  have HW := Lib.hid h
  have hg := get?_new (w := w) 37 x
  have hs : Sl U8 (w.alloc (.cells (GHash.enc x).toArray 37)) (w.alloc (.cells (GHash.enc x).toArray 37)).heap.size (some ⟨w.heap.size, 0, none⟩) 32 (hashL x) :=
    Sl.new_ (by
      show x.l.map encU8 = (hashL x).flatMap Enc.enc
      unfold hashL
      induction x.l with
      | nil => rfl
      | cons a l ih => rw [List.map_cons, List.map_cons, List.flatMap_cons, ih]; rfl) (hashL_len x) rfl (by simp)
  have hst := h.step ((Bel.refl w).alloc (.cells (GHash.enc x).toArray 37)).drew
  obtain ⟨A0, n0, c0, A1, n1, c1, w2, f0, hrun, f1, f2, hW2⟩ := hst.app (c := 32) hs.drew_ (by omega)
  have HD := Lib.hid (WrDid.bel h ((Bel.refl w).alloc _).drew hW2)
  clear hst hW2 hs hg h
  go_enter Tryz.func133, Tryz.ntmps133
  go_wp2_with fail
  go_region
  go_wp2_with fail
  go_ret
  exact ⟨rfl, HD.out⟩
set_option maxRecDepth 100000 in
set_option maxHeartbeats 400000 in
theorem newWriter_any (w0 w : World) (hb : Bel w0 w) : Calls Tryz.prog 134 #[] w fun e w' => ∃ p : Nat, e = .returned (.pointer (some ⟨p, 0, none⟩)) ∧ w.heap.size ≤ p ∧ WrIs w0 w' p [] ∧ Bel w w' ∧ (∀ k, wrFoot w' p k → w.heap.size ≤ k) := by
  have hz := hb.size
  have hg := get?_new (w := w) 312 (default : GCodeWriter)
  go_enter Tryz.func134, Tryz.ntmps134
  go_wp2_with fail
  go_ret
  refine ⟨_, rfl, Nat.le_refl _, ⟨hb.alloc _, ⟨⟨none, 0, 0⟩, hg, OwnS.nil _ _ _, by intro e; cases e⟩, hz, blkFree_new _ _ rfl⟩, (Bel.refl w).alloc _, ?_⟩
  rintro k (rfl | ⟨hd, h1, h2⟩)
  · exact Nat.le_refl _
  · have h1 := Option.some.inj (hg.symm.trans h1)
    rw [show hd = (default : GCodeWriter).b by rw [h1]] at h2
    cases h2
set_option maxRecDepth 100000 in
set_option maxHeartbeats 400000 in
theorem bytes_any (w0 : World) (p : Nat) (bs : List U8) (w : World) (h : WrIs w0 w p bs) (hl : bs.length ≤ 800000000) :
    Calls Tryz.prog 116 #[.pointer (some ⟨p, 0, none⟩)] w fun e w' => ∃ (A : Option Addr) (c : Nat), e = .returned (.slice A bs.length c) ∧ Sl U8 w' w'.heap.size A bs.length bs ∧ Bel w w' ∧ (∀ ad, A = some ad → w.heap.size ≤ ad.block) := by
  obtain ⟨⟨A0, n0, c0⟩, hg, ho, hne⟩ := h.own
  obtain ⟨A1, c1, hv, hA⟩ := OwnS.ownA ho
  have f0 : w.cell? ⟨p, 0, none⟩ = some (.slice A0 n0 c0) := cell_zero (GCodeWriter.at_b hg)
  have hv2 : Value.slice A0 n0 c0 = .slice A1 bs.length c1 := hv
  injection hv2 with e1 e2 e3
  obtain ⟨A2, c2, hs2, hsl, _⟩ := OwnS.shape ho
  have hs2' : Value.slice A0 n0 c0 = .slice A2 bs.length c2 := hs2
  injection hs2' with e4 e5 e6
  rw [← e4, ← e5] at hsl
  obtain ⟨v', w1, hrun, ho', hgr, hob⟩ := gAppend_S (P := Tryz.prog) ei64 (t := 64) (OwnS.nil (α := U8) w w.heap.size 5) (c := c0) hsl (by unfold maxLen; simp; omega) (by simp; omega) (Nat.le_refl _) 64
  obtain ⟨A3, c3, hv3, hsl3, _, _, hbl⟩ := OwnS.shape ho'
  have HS := Lib.hid (show Sl U8 w1 w1.heap.size A3 bs.length bs by simpa using hsl3)
  have HB := Lib.hid (show Bel w w1 from Below.grown (Bel.refl w) hgr (Nat.le_refl _) (fun k hk => by cases hk))
  have HN := Lib.hid (show ∀ ad, A3 = some ad → w.heap.size ≤ ad.block from fun ad e => (hbl ad e).1)
  rw [hv3] at hrun
  simp only [List.nil_append] at hrun
  clear hsl hgr hob ho' hv3 hsl3 hbl hs2 hv hg ho hne e1 e2 e3 e4 e5 e6 hA h
  go_enter Tryz.func116, Tryz.ntmps116
  go_wp2_with fail
  go_ret
  exact ⟨A3, c3, rfl, HS.out, HB.out, HN.out⟩
end Go.Proofs.YthkifibmihijaaaGreatDoor
/- What is signed, as bytes. Conditions: those named in each theorem. -/
namespace Go.Proofs.YthkifibmihijaaaGreatDoor
open Go Go.RowKit Go.Gv Go.Proofs

/-- A writer on its way through a region that began at ws; S: what may be changed. -/
structure WrAt (w0 ws : World) (S : Nat → Prop) (w : World) (p : Nat) (acc : List U8) : Prop where
  is : WrIs w0 w p acc
  foot : ∀ k, wrFoot w p k → S k
  new : ∀ k, ws.heap.size ≤ k → S k
  chg : Chg S ws w
section
variable {w0 ws w w' : World} {S : Nat → Prop} {p : Nat} {acc acc' : List U8}
theorem WrAt.step (h : WrAt w0 ws S w p acc) (hb : Bel w w') : WrAt w0 ws S w' p acc :=
  ⟨h.is.step hb, fun _ hk => h.foot _ (wrFoot_bel h.is hb hk), h.new, h.chg.tr (Chg.of_bel hb _)⟩
theorem WrAt.did (h : WrAt w0 ws S w p acc) (hd : WrDid w0 w p acc' w') : WrAt w0 ws S w' p acc' ∧ Chg S w w' :=
  ⟨⟨hd.is, fun k hk => by
    rcases hd.foot k hk with h1 | h1
    · exact h.foot k h1
    · exact h.new k (Nat.le_trans h.chg.size h1), h.new, h.chg.tr (hd.chg.sub h.foot)⟩, hd.chg.sub h.foot⟩
theorem WrAt.start (h : WrIs w0 w p acc) : WrAt w0 w (fun k => wrFoot w p k ∨ w.heap.size ≤ k) w p acc := ⟨h, fun _ hk => .inl hk, fun _ hk => .inr hk, Chg.refl _ _⟩
theorem WrAt.ends (h : WrAt w0 ws (fun k => wrFoot ws p k ∨ ws.heap.size ≤ k) w p acc) : WrDid w0 ws p acc w :=
  ⟨h.is, ⟨h.chg.os, h.chg.tape, h.chg.output, h.chg.size, fun k hk hn => h.chg.block k hk (by rintro (h1 | h1); exact hn h1; omega)⟩, h.foot⟩
end
theorem bytes_is (n : Nat) (w0 : World) (p : Nat) (bs : List U8) (w : World) (hn : bs.length = n) (h : WrIs w0 w p bs) (hl : bs.length ≤ 800000000) :
    Calls Tryz.prog 116 #[.pointer (some ⟨p, 0, none⟩)] w fun e w' => ∃ (A : Option Addr) (c : Nat), e = .returned (.slice A n c) ∧ Sl U8 w' w'.heap.size A n bs ∧ Bel w w' ∧ (∀ ad, A = some ad → w.heap.size ≤ ad.block) := by subst hn; exact bytes_any w0 p bs w h hl
theorem flat_bytes : ∀ l : List UInt8, (l.map U8.mk).flatMap Enc.enc = l.map fun b => Value.int .u8 b.toNat
  | [] => rfl
  | b :: l => by rw [List.map_cons, List.flatMap_cons, flat_bytes l]; rfl
theorem rowL_le {l : List U8} (h : l.length ≤ 1000) : (rowL l).length ≤ 1010 := by
  unfold rowL
  rw [List.length_append]
  have := intL_le (n := (l.length : Int)) (by omega)
  omega
theorem bytesL_len (s : ByteArray) : (bytesL s).length = s.size := by unfold bytesL; simp
theorem conv_str (w : World) (s : ByteArray) :
    ∃ (c : Nat) (w' : World), (convert 9 64 (.string s)).run Tryz.prog w = .ok (.slice (some ⟨w.heap.size, 0, none⟩) s.size c) w' ∧ Sl U8 w' w'.heap.size (some ⟨w.heap.size, 0, none⟩) s.size (bytesL s) ∧ Bel w w' := by
  refine ⟨_, _, run_bytes_of_string (P := Tryz.prog) w 9 64 5 s (by kernel_rfl) (by kernel_rfl) (by kernel_rfl), Sl.of_row (heap_alloc_new w.drew _) ?_ (bytesL_len s) (by simp), (Bel.refl w).drew.alloc _⟩
  unfold bytesRow bytesL
  rw [flat_bytes, Array.toList_append, Array.toList_map]
  rw [show s.size * Enc.n U8 = (s.data.toList.map fun b => Value.int .u8 b.toNat).length by simp [show Enc.n U8 = 1 from rfl]]
  rw [List.take_left']
  rfl
set_option maxRecDepth 100000 in
set_option maxHeartbeats 400000 in
theorem text_any (w0 w : World) (hb : Bel w0 w) (s : ByteArray) (hs : s.size ≤ 1000) :
    Calls Tryz.prog 114 #[.string s] w fun e w' => ∃ p : Nat, e = .returned (.pointer (some ⟨p, 0, none⟩)) ∧ WrIs w0 w' p (rowL (bytesL s)) ∧ Bel w w' ∧ (∀ k, wrFoot w' p k → w.heap.size ≤ k) := by
  go_enter Tryz.func114, Tryz.ntmps114
  go_wp2_with fail
  refine (newWriter_any w0 w hb).mono ?_
  rintro _ w1 ⟨p, rfl, hp, hW, hb1, hF⟩
  obtain ⟨c, w2, hcv, hs2, hb2⟩ := conv_str w1 s
  have HW := Lib.hid (hW.step hb2)
  have HNF := Lib.hid (show ∀ ad : Addr, some (⟨w1.heap.size, 0, none⟩ : Addr) = some ad → ¬ wrFoot w2 p ad.block from fun ad e hk => by
    injection e with e; subst e
    rcases wrFoot_bel hW hb2 hk with h | ⟨hd, h1, h2⟩
    · have := get?_lt (hW.own.choose_spec.1); simp only at h this; omega
    · obtain ⟨hd', g1, g2, _⟩ := hW.own
      have e1 := Option.some.inj (h1.symm.trans g1)
      have := (g2.lt _ (by rw [show hd' = hd by injection e1 with e1; exact e1.symm]; exact h2)).2
      simp only at this; omega)
  have HF := Lib.hid (show ∀ k, wrFoot w2 p k → w.heap.size ≤ k from fun k hk => hF k (wrFoot_bel hW hb2 hk))
  have HB := Lib.hid (hb1.trans hb2)
  have HS := Lib.hid hs2
  clear hW hb1 hb2 hF hs2 hp
  go_wp2_with fail
  refine (row_any w0 p [] _ s.size c (bytesL s) w2 HW.out HS.out HNF.out (by omega) (by simp)).mono ?_
  rintro _ w3 ⟨rfl, hd⟩
  have HD := Lib.hid hd
  clear hd
  go_wp2_with fail
  go_ret
  refine ⟨p, rfl, HD.out.is, Chg.bel2 HB.out HD.out.chg (fun k hk => HF.out k hk), fun k hk => ?_⟩
  rcases HD.out.foot k hk with h | h
  · exact HF.out k h
  · exact Nat.le_trans HB.out.size h
theorem box_apart {w0 w : World} {p : Nat} {bs : List U8} (h : WrIs w0 w p bs) (o : Obj) : ¬ (wrFoot (w.alloc o) p w.heap.size ∨ (w.alloc o).heap.size ≤ w.heap.size) := by
  have hz : (w.alloc o).heap.size = w.heap.size + 1 := by simp
  rintro (hk | hk)
  · obtain ⟨hd', g1, g2, _⟩ := h.own
    rcases wrFoot_bel h ((Bel.refl w).alloc o) hk with h | ⟨hd, a1, a2⟩
    · have := get?_lt g1; simp only at this; omega
    · have e1 := Option.some.inj (a1.symm.trans g1)
      have := (g2.lt _ (by rw [show hd' = hd by injection e1 with e1; exact e1.symm]; exact a2)).2
      omega
  · omega
set_option maxRecDepth 100000 in
set_option maxHeartbeats 1000000 in
theorem putName_any (w0 : World) (p : Nat) (bs : List U8) (x : GName) (w : World) (h : WrIs w0 w p bs) (hl : bs.length ≤ 700000000) (h1 : x.client ≤ 9223372036854775807) (h2 : x.seq ≤ 9223372036854775807) :
    Calls Tryz.prog 169 #[.pointer (some ⟨p, 0, none⟩), x.val] w fun e w' => e = .returned (.tuple #[]) ∧ WrDid w0 w p (bs ++ intL x.client ++ intL x.seq) w' := by
  have HG := Lib.hid (get?_new (w := w) 35 x)
  have HB := Lib.hid ((Bel.refl w).alloc (.cells (GName.enc x).toArray 35))
  have HN := Lib.hid (box_apart h (.cells (GName.enc x).toArray 35))
  have HW := Lib.hid h
  have l1 := intL_le h1; have l2 := intL_le h2
  clear h
  go_enter Tryz.func169, Tryz.ntmps169
  go_wp2_with fail
  change Hid (get? GName (w.alloc (.cells (GName.enc x).toArray 35)) ⟨w.heap.size, 0, none⟩ = some x) at HG
  generalize w.alloc (.cells (GName.enc x).toArray 35) = wr at HG HB HN ⊢
  have HA := Lib.hid (WrAt.start (HW.out.step HB.out))
  obtain ⟨g, hg⟩ : ∃ g, w.heap.size = g := ⟨_, rfl⟩
  rw [hg] at HG HN ⊢
  refine wp_region_H GB (Chg (fun k => wrFoot wr p k ∨ wr.heap.size ≤ k)) [3, 6] [] GB.rf (by kernel_rfl) ?_
  refine wpH_looks 2 7 [0, 1, 2, 4, 5] rfl GB.rf GB.tr (Chg.refl _) (fun _ _ _ h k => h.tr k) (fun _ _ h => Chg.of_bel h _) (by kernel_rfl) (fun _ _ _ _ hd h => And.intro (hd ▸ And.left h) (And.right h)) rfl (by kernel_rfl) ?_
  intro ι W hne CW
  have k0 := GName.at_client HG.out
  simp only [Addr.add_lit, Nat.zero_add, Nat.reduceAdd] at k0
  have j0 := fun z => (CW.out z).cell k0 (HN.out)
  have k1 := GName.at_seq HG.out
  simp only [Addr.add_lit, Nat.zero_add, Nat.reduceAdd] at k1
  have j1 := fun z => (CW.out z).cell k1 (HN.out)
  clear k0 k1
  repeat (refine wpLooksG_step (fun K hK => ?_); go_simp; refine hK _ ?_; clear hK K)
  refine wpLooksG_nil ?_
  clear j0 j1 CW hne W ι
  refine wpH_force 3 _ rfl (by kernel_rfl) rfl fun wa hwa K hK => ?_
  go_simp
  have ha := HA.out.step (GB.undrew hwa)
  refine (int_any w0 p bs x.client wa ha.is h1 (by first | omega | (simp only [List.length_append]; omega))).mono ?_
  rintro _ wb ⟨rfl, hd⟩
  obtain ⟨hA2, hc⟩ := ha.did hd
  refine hK _ _ (fun h => absurd (by simp) h) (fun _ => hc) ?_
  clear HA
  have HA := Lib.hid hA2
  clear hK K hd hA2 hc hwa ha wa
  refine wpH_force 6 _ rfl (by kernel_rfl) rfl fun wa hwa K hK => ?_
  go_simp
  have ha := HA.out.step (hwa)
  refine (int_any w0 p (bs ++ intL x.client) x.seq wa ha.is h2 (by first | omega | (simp only [List.length_append]; omega))).mono ?_
  rintro _ wb ⟨rfl, hd⟩
  obtain ⟨hA2, hc⟩ := ha.did hd
  refine hK _ _ (fun h => absurd (by simp) h) (fun _ => hc) ?_
  clear HA
  have HA := Lib.hid hA2
  clear hK K hd hA2 hc hwa ha wa
  refine wpH_end (by kernel_rfl) (fun wn hwn => ?_) _
  have HD := Lib.hid (WrDid.bel HW.out HB.out (HA.out.step hwn).ends)
  clear hwn HA
  go_wp2_with fail
  refine bodyPost_end (results_none rfl _ _ _) rfl ?_
  exact ⟨rfl, HD.out⟩
def voteText (x : GVote) : List U8 := rowL (bytesL ⟨#[118, 111, 116, 101]⟩) ++ intL x.kind ++ intL x.epoch ++ intL x.round ++ intL x.replica ++ hashL x.hash
def stampText (tm : Nat) (x : GStamp) : List U8 := rowL (bytesL ⟨#[115, 116, 97, 109, 112]⟩) ++ intL x.replica ++ intL x.name.client ++ intL x.name.seq ++ hashL x.hash ++ numL tm
def promiseText0 (tm : Nat) (x : GPromise) : List U8 := rowL (bytesL ⟨#[112, 114, 111, 109, 105, 115, 101]⟩) ++ intL x.replica ++ intL x.epoch ++ numL tm ++ intL 0
set_option maxRecDepth 100000 in
set_option maxHeartbeats 2000000 in
theorem voteText_any (x : GVote) (w : World) (h1 : x.kind ≤ 9223372036854775807) (h2 : x.epoch ≤ 9223372036854775807) (h3 : x.round ≤ 9223372036854775807) (h4 : x.replica ≤ 9223372036854775807) :
    Calls Tryz.prog 93 #[x.val] w fun e w' => ∃ (A : Option Addr) (c : Nat), e = .returned (.slice A (voteText x).length c) ∧ Sl U8 w' w'.heap.size A (voteText x).length (voteText x) ∧ Bel w w' := by
  have HG := Lib.hid (get?_new (w := w) 61 x)
  have HB := Lib.hid ((Bel.refl w).alloc (.cells (GVote.enc x).toArray 61))
  have HN := Lib.hid (show ¬ (w.alloc (.cells (GVote.enc x).toArray 61)).heap.size ≤ w.heap.size by simp)
  have l1 := intL_le h1
  have l2 := intL_le h2
  have l3 := intL_le h3
  have l4 := intL_le h4
  have l5 := hashL_len x.hash
  obtain ⟨n, hn⟩ : ∃ n, (voteText x).length = n := ⟨_, rfl⟩
  have HL := Lib.hid hn
  clear hn
  have l0 := rowL_le (l := bytesL ⟨#[118, 111, 116, 101]⟩) (by rw [bytesL_len]; decide)
  go_enter Tryz.func93, Tryz.ntmps93
  go_wp2_with fail
  change Hid (get? GVote (w.alloc (.cells (GVote.enc x).toArray 61)) ⟨w.heap.size, 0, none⟩ = some x) at HG
  generalize w.alloc (.cells (GVote.enc x).toArray 61) = ws at HG HB HN ⊢
  obtain ⟨g, hg⟩ : ∃ g, w.heap.size = g := ⟨_, rfl⟩
  rw [hg] at HG HN ⊢
  have HBS := HB
  refine wp_region_H GB (Chg (fun k => ws.heap.size ≤ k)) [0, 3, 6, 9, 12, 15, 16, 17] [] GB.rf (by kernel_rfl) ?_
  refine wpH_looks 8 18 [1, 2, 4, 5, 7, 8, 10, 11, 13, 14] rfl GB.rf GB.tr (Chg.refl _) (fun _ _ _ h k => h.tr k) (fun _ _ h => Chg.of_bel h _) (by kernel_rfl) (fun _ _ _ _ hd h => And.intro (hd ▸ And.left h) (And.right h)) rfl (by kernel_rfl) ?_
  intro ι W hne CW
  have k0 := GVote.at_kind HG.out
  simp only [Addr.add_lit, Nat.zero_add, Nat.reduceAdd] at k0
  have j0 := fun z => (CW.out z).cell k0 (HN.out)
  have k1 := GVote.at_epoch HG.out
  simp only [Addr.add_lit, Nat.zero_add, Nat.reduceAdd] at k1
  have j1 := fun z => (CW.out z).cell k1 (HN.out)
  have k2 := GVote.at_round HG.out
  simp only [Addr.add_lit, Nat.zero_add, Nat.reduceAdd] at k2
  have j2 := fun z => (CW.out z).cell k2 (HN.out)
  have k3 := GVote.at_replica HG.out
  simp only [Addr.add_lit, Nat.zero_add, Nat.reduceAdd] at k3
  have j3 := fun z => (CW.out z).cell k3 (HN.out)
  have k4 := GVote.at_hash HG.out
  simp only [Addr.add_lit, Nat.zero_add, Nat.reduceAdd] at k4
  have j4 := fun z => (CW.out z).get k4 (HN.out)
  clear k0 k1 k2 k3 k4
  repeat (refine wpLooksG_step (fun K hK => ?_); go_simp; refine hK _ ?_; clear hK K)
  refine wpLooksG_nil ?_
  clear j0 j1 j2 j3 j4 CW hne W ι
  refine wpH_force 0 _ rfl (by kernel_rfl) rfl fun wa hwa K hK => ?_
  go_simp
  refine (text_any ws wa (GB.undrew hwa) ⟨#[118, 111, 116, 101]⟩ (by decide)).mono ?_
  rintro _ wb ⟨p, rfl, hW, hb, hF⟩
  refine hK _ _ (fun h => absurd (by simp) h) (fun _ => Chg.of_bel hb _) ?_
  have HA := Lib.hid (show WrAt ws ws (fun k => ws.heap.size ≤ k) wb p (rowL (bytesL (⟨#[118, 111, 116, 101]⟩ : ByteArray))) from ⟨hW, fun k hk => Nat.le_trans (GB.undrew hwa).size (hF k hk), fun _ h => h, Chg.of_bel ((GB.undrew hwa).trans hb) _⟩)
  clear hK K hW hb hF hwa wa
  refine wpH_force 3 _ rfl (by kernel_rfl) rfl fun wa hwa K hK => ?_
  go_simp
  have ha := HA.out.step (hwa)
  refine (int_any ws p (rowL (bytesL (⟨#[118, 111, 116, 101]⟩ : ByteArray))) x.kind wa ha.is h1 (by first | omega | (simp only [List.length_append]; omega))).mono ?_
  rintro _ wb ⟨rfl, hd⟩
  obtain ⟨hA2, hc⟩ := ha.did hd
  refine hK _ _ (fun h => absurd (by simp) h) (fun _ => hc) ?_
  clear HA
  have HA := Lib.hid hA2
  clear hK K hd hA2 hc hwa ha wa
  refine wpH_force 6 _ rfl (by kernel_rfl) rfl fun wa hwa K hK => ?_
  go_simp
  have ha := HA.out.step (hwa)
  refine (int_any ws p (rowL (bytesL (⟨#[118, 111, 116, 101]⟩ : ByteArray)) ++ intL x.kind) x.epoch wa ha.is h2 (by first | omega | (simp only [List.length_append]; omega))).mono ?_
  rintro _ wb ⟨rfl, hd⟩
  obtain ⟨hA2, hc⟩ := ha.did hd
  refine hK _ _ (fun h => absurd (by simp) h) (fun _ => hc) ?_
  clear HA
  have HA := Lib.hid hA2
  clear hK K hd hA2 hc hwa ha wa
  refine wpH_force 9 _ rfl (by kernel_rfl) rfl fun wa hwa K hK => ?_
  go_simp
  have ha := HA.out.step (hwa)
  refine (int_any ws p (rowL (bytesL (⟨#[118, 111, 116, 101]⟩ : ByteArray)) ++ intL x.kind ++ intL x.epoch) x.round wa ha.is h3 (by first | omega | (simp only [List.length_append]; omega))).mono ?_
  rintro _ wb ⟨rfl, hd⟩
  obtain ⟨hA2, hc⟩ := ha.did hd
  refine hK _ _ (fun h => absurd (by simp) h) (fun _ => hc) ?_
  clear HA
  have HA := Lib.hid hA2
  clear hK K hd hA2 hc hwa ha wa
  refine wpH_force 12 _ rfl (by kernel_rfl) rfl fun wa hwa K hK => ?_
  go_simp
  have ha := HA.out.step (hwa)
  refine (int_any ws p (rowL (bytesL (⟨#[118, 111, 116, 101]⟩ : ByteArray)) ++ intL x.kind ++ intL x.epoch ++ intL x.round) x.replica wa ha.is h4 (by first | omega | (simp only [List.length_append]; omega))).mono ?_
  rintro _ wb ⟨rfl, hd⟩
  obtain ⟨hA2, hc⟩ := ha.did hd
  refine hK _ _ (fun h => absurd (by simp) h) (fun _ => hc) ?_
  clear HA
  have HA := Lib.hid hA2
  clear hK K hd hA2 hc hwa ha wa
  refine wpH_force 15 _ rfl (by kernel_rfl) rfl fun wa hwa K hK => ?_
  go_simp
  have ha := HA.out.step (hwa)
  refine (hash_any ws p (rowL (bytesL (⟨#[118, 111, 116, 101]⟩ : ByteArray)) ++ intL x.kind ++ intL x.epoch ++ intL x.round ++ intL x.replica) x.hash wa ha.is (by first | omega | (simp only [List.length_append]; omega))).mono ?_
  rintro _ wb ⟨rfl, hd⟩
  obtain ⟨hA2, hc⟩ := ha.did hd
  refine hK _ _ (fun h => absurd (by simp) h) (fun _ => hc) ?_
  clear HA
  have HA := Lib.hid hA2
  clear hK K hd hA2 hc hwa ha wa
  refine wpH_force 16 _ rfl (by kernel_rfl) rfl fun wa hwa K hK => ?_
  go_simp
  have ha := HA.out.step (hwa)
  refine (bytes_is n ws p (rowL (bytesL (⟨#[118, 111, 116, 101]⟩ : ByteArray)) ++ intL x.kind ++ intL x.epoch ++ intL x.round ++ intL x.replica ++ hashL x.hash) wa HL.out ha.is (by first | omega | (simp only [List.length_append]; omega))).mono ?_
  rintro _ wb ⟨A, c, rfl, hs, hb, -⟩
  refine hK _ _ (fun h => absurd (by simp) h) (fun _ => Chg.of_bel hb _) ?_
  have HS := Lib.hid hs; have HBW := Lib.hid (ha.is.bel.trans hb)
  clear hK K hs hb ha HA hwa
  refine wpH_force 17 _ rfl (by kernel_rfl) rfl fun wa hwa K hK => ?_
  go_simp
  refine hK _ _ (fun h => absurd (by simp) h) (fun _ => Chg.refl _ _) ?_
  clear hK K
  refine wpH_end (by kernel_rfl) (fun wn hwn => ?_) _
  have HSN := Lib.hid (HS.out.stepB (GB.tr _ _ _ hwa hwn)); have HBN := Lib.hid ((HB.out.trans HBW.out).trans (GB.tr _ _ _ hwa hwn))
  clear hwn hwa HS HBW
  go_wp2_with fail
  go_ret
  have hn := HL.out
  subst hn
  exact ⟨A, c, rfl, HSN.out, HBN.out⟩
set_option maxRecDepth 100000 in
set_option maxHeartbeats 2000000 in
theorem stampText_any (x : GStamp) (w : World) (h1 : x.replica ≤ 9223372036854775807) (h2 : x.name.client ≤ 9223372036854775807) (h3 : x.name.seq ≤ 9223372036854775807) (tm : Nat) (htm : x.time = (tm : Int)) (ht1 : tm < 18446744073709551616) :
    Calls Tryz.prog 119 #[x.val] w fun e w' => ∃ (A : Option Addr) (c : Nat), e = .returned (.slice A (stampText tm x).length c) ∧ Sl U8 w' w'.heap.size A (stampText tm x).length (stampText tm x) ∧ Bel w w' := by
  have HG := Lib.hid (get?_new (w := w) 44 x)
  have HB := Lib.hid ((Bel.refl w).alloc (.cells (GStamp.enc x).toArray 44))
  have HN := Lib.hid (show ¬ (w.alloc (.cells (GStamp.enc x).toArray 44)).heap.size ≤ w.heap.size by simp)
  have l1 := intL_le h1
  have l2 := intL_le h2
  have l3 := intL_le h3
  have l4 := hashL_len x.hash
  have l5 := numL_le ht1
  have HTM := Lib.hid htm
  obtain ⟨n, hn⟩ : ∃ n, (stampText tm x).length = n := ⟨_, rfl⟩
  have HL := Lib.hid hn
  clear hn
  have l0 := rowL_le (l := bytesL ⟨#[115, 116, 97, 109, 112]⟩) (by rw [bytesL_len]; decide)
  go_enter Tryz.func119, Tryz.ntmps119
  go_wp2_with fail
  change Hid (get? GStamp (w.alloc (.cells (GStamp.enc x).toArray 44)) ⟨w.heap.size, 0, none⟩ = some x) at HG
  generalize w.alloc (.cells (GStamp.enc x).toArray 44) = ws at HG HB HN ⊢
  obtain ⟨g, hg⟩ : ∃ g, w.heap.size = g := ⟨_, rfl⟩
  rw [hg] at HG HN ⊢
  have HBS := HB
  refine wp_region_H GB (Chg (fun k => ws.heap.size ≤ k)) [0, 3, 4] [] GB.rf (by kernel_rfl) ?_
  refine wpH_looks 3 5 [1, 2] rfl GB.rf GB.tr (Chg.refl _) (fun _ _ _ h k => h.tr k) (fun _ _ h => Chg.of_bel h _) (by kernel_rfl) (fun _ _ _ _ hd h => And.intro (hd ▸ And.left h) (And.right h)) rfl (by kernel_rfl) ?_
  intro ι W hne CW
  have k0 := GStamp.at_replica HG.out
  simp only [Addr.add_lit, Nat.zero_add, Nat.reduceAdd] at k0
  have j0 := fun z => (CW.out z).cell k0 (HN.out)
  clear k0
  repeat (refine wpLooksG_step (fun K hK => ?_); go_simp; refine hK _ ?_; clear hK K)
  refine wpLooksG_nil ?_
  clear j0 CW hne W ι
  refine wpH_force 0 _ rfl (by kernel_rfl) rfl fun wa hwa K hK => ?_
  go_simp
  refine (text_any ws wa (GB.undrew hwa) ⟨#[115, 116, 97, 109, 112]⟩ (by decide)).mono ?_
  rintro _ wb ⟨p, rfl, hW, hb, hF⟩
  refine hK _ _ (fun h => absurd (by simp) h) (fun _ => Chg.of_bel hb _) ?_
  have HA := Lib.hid (show WrAt ws ws (fun k => ws.heap.size ≤ k) wb p (rowL (bytesL (⟨#[115, 116, 97, 109, 112]⟩ : ByteArray))) from ⟨hW, fun k hk => Nat.le_trans (GB.undrew hwa).size (hF k hk), fun _ h => h, Chg.of_bel ((GB.undrew hwa).trans hb) _⟩)
  clear hK K hW hb hF hwa wa
  refine wpH_force 3 _ rfl (by kernel_rfl) rfl fun wa hwa K hK => ?_
  go_simp
  have ha := HA.out.step (hwa)
  refine (int_any ws p (rowL (bytesL (⟨#[115, 116, 97, 109, 112]⟩ : ByteArray))) x.replica wa ha.is h1 (by first | omega | (simp only [List.length_append]; omega))).mono ?_
  rintro _ wb ⟨rfl, hd⟩
  obtain ⟨hA2, hc⟩ := ha.did hd
  refine hK _ _ (fun h => absurd (by simp) h) (fun _ => hc) ?_
  clear HA
  have HA := Lib.hid hA2
  clear hK K hd hA2 hc hwa ha wa
  refine wpH_force 4 _ rfl (by kernel_rfl) rfl fun wa hwa K hK => ?_
  go_simp
  refine hK _ _ (fun h => absurd (by simp) h) (fun _ => Chg.refl _ _) ?_
  clear hK K
  refine wpH_end (by kernel_rfl) (fun wn hwn => ?_) _
  have HA2 := Lib.hid ((HA.out.step hwa).step hwn)
  have HBN := Lib.hid (HA.out.is.bel.trans (GB.tr _ _ _ hwa hwn))
  clear hwn hwa HA
  have n1 := GStamp.at_name HG.out
  simp only [Addr.add_lit, Nat.zero_add, Nat.reduceAdd] at n1
  have n2 := GB.get HBN.out n1
  go_wp2_with fail
  refine (putName_any ws p (rowL (bytesL (⟨#[115, 116, 97, 109, 112]⟩ : ByteArray)) ++ intL x.replica) x.name wn HA2.out.is (by first | omega | (simp only [List.length_append]; omega)) h2 h3).mono ?_
  rintro _ wp2 ⟨rfl, hd⟩
  have HI := Lib.hid hd.is
  have HA3 := Lib.hid (HA2.out.did hd).1
  clear hd n1 n2 HA2
  have hp2 : Bel ws wp2 := HI.out.bel
  have HBP := Lib.hid hp2
  clear hp2
  go_wp2_with fail
  have HNP := Lib.hid (show ¬ wp2.heap.size ≤ g from fun h => HN.out (Nat.le_trans HBP.out.size h))
  have HGP := Lib.hid (GB.get HBP.out HG.out)
  have HA := HA3
  clear htm
  refine wp_region_H GB (Chg (fun k => ws.heap.size ≤ k)) [3, 6, 7, 8] [] GB.rf (by kernel_rfl) ?_
  refine wpH_looks 4 9 [0, 1, 2, 4, 5] rfl GB.rf GB.tr (Chg.refl _) (fun _ _ _ h k => h.tr k) (fun _ _ h => Chg.of_bel h _) (by kernel_rfl) (fun _ _ _ _ hd h => And.intro (hd ▸ And.left h) (And.right h)) rfl (by kernel_rfl) ?_
  intro ι W hne CW
  have k0 := GStamp.at_hash HGP.out
  simp only [Addr.add_lit, Nat.zero_add, Nat.reduceAdd] at k0
  have j0 := fun z => (CW.out z).get k0 (HN.out)
  have k1 := GStamp.at_time HGP.out
  simp only [Addr.add_lit, Nat.zero_add, Nat.reduceAdd] at k1
  rw [HTM.out] at k1
  have j1 := fun z => (CW.out z).cell k1 (HN.out)
  clear k0 k1
  repeat (refine wpLooksG_step (fun K hK => ?_); go_simp; refine hK _ ?_; clear hK K)
  refine wpLooksG_nil ?_
  clear j0 j1 CW hne W ι
  refine wpH_force 3 _ rfl (by kernel_rfl) rfl fun wa hwa K hK => ?_
  go_simp
  have ha := HA.out.step (GB.undrew hwa)
  refine (hash_any ws p (rowL (bytesL (⟨#[115, 116, 97, 109, 112]⟩ : ByteArray)) ++ intL x.replica ++ intL x.name.client ++ intL x.name.seq) x.hash wa ha.is (by first | omega | (simp only [List.length_append]; omega))).mono ?_
  rintro _ wb ⟨rfl, hd⟩
  obtain ⟨hA2, hc⟩ := ha.did hd
  refine hK _ _ (fun h => absurd (by simp) h) (fun _ => hc) ?_
  clear HA
  have HA := Lib.hid hA2
  clear hK K hd hA2 hc hwa ha wa
  refine wpH_force 6 _ rfl (by kernel_rfl) rfl fun wa hwa K hK => ?_
  go_simp
  have ha := HA.out.step (hwa)
  refine (num_any ws p (rowL (bytesL (⟨#[115, 116, 97, 109, 112]⟩ : ByteArray)) ++ intL x.replica ++ intL x.name.client ++ intL x.name.seq ++ hashL x.hash) tm wa ha.is ht1 (by first | omega | (simp only [List.length_append]; omega))).mono ?_
  rintro _ wb ⟨rfl, hd⟩
  obtain ⟨hA2, hc⟩ := ha.did hd
  refine hK _ _ (fun h => absurd (by simp) h) (fun _ => hc) ?_
  clear HA
  have HA := Lib.hid hA2
  clear hK K hd hA2 hc hwa ha wa
  refine wpH_force 7 _ rfl (by kernel_rfl) rfl fun wa hwa K hK => ?_
  go_simp
  have ha := HA.out.step (hwa)
  refine (bytes_is n ws p (rowL (bytesL (⟨#[115, 116, 97, 109, 112]⟩ : ByteArray)) ++ intL x.replica ++ intL x.name.client ++ intL x.name.seq ++ hashL x.hash ++ numL tm) wa HL.out ha.is (by first | omega | (simp only [List.length_append]; omega))).mono ?_
  rintro _ wb ⟨A, c, rfl, hs, hb, -⟩
  refine hK _ _ (fun h => absurd (by simp) h) (fun _ => Chg.of_bel hb _) ?_
  have HS := Lib.hid hs; have HBW := Lib.hid (ha.is.bel.trans hb)
  clear hK K hs hb ha HA hwa
  refine wpH_force 8 _ rfl (by kernel_rfl) rfl fun wa hwa K hK => ?_
  go_simp
  refine hK _ _ (fun h => absurd (by simp) h) (fun _ => Chg.refl _ _) ?_
  clear hK K
  refine wpH_end (by kernel_rfl) (fun wn2 hwn2 => ?_) _
  have HSN := Lib.hid (HS.out.stepB (GB.tr _ _ _ hwa hwn2)); have HBN2 := Lib.hid ((HB.out.trans HBW.out).trans (GB.tr _ _ _ hwa hwn2))
  clear hwn2 hwa HS HBW
  go_wp2_with fail
  go_ret
  have hn := HL.out
  subst hn
  exact ⟨A, c, rfl, HSN.out, HBN2.out⟩
set_option maxRecDepth 100000 in
set_option maxHeartbeats 1000000 in
theorem putList0_any (w0 : World) (p : Nat) (bs : List U8) (f : Value) (w : World) (h : WrIs w0 w p bs) (hl : bs.length ≤ 700000000) :
    Calls Tryz.prog 176 #[.pointer (some ⟨p, 0, none⟩), .slice none 0 0, f] w fun e w' => e = .returned (.tuple #[]) ∧ WrDid w0 w p (bs ++ intL 0) w' := by
  have HW := Lib.hid h
  clear h
  go_enter Tryz.func176, Tryz.ntmps176
  go_wp2_with fail
  refine (int_any w0 p bs 0 w HW.out (by omega) (by omega)).mono ?_
  rintro _ w1 ⟨rfl, hd⟩
  have HD := Lib.hid hd
  clear hd
  go_wp2_with fail
  go_loopw [14] (fun iv wr => iv = .int .i64 0 ∧ wr = w1) (fun _ _ => 0)
  case atStart => exact ⟨rfl, rfl⟩
  case round =>
    obtain ⟨rfl, rfl⟩ := hrel
    go_wp2_with fail
    refine bodyPost_end (results_none rfl _ _ _) rfl ?_
    exact ⟨rfl, HD.out⟩
set_option maxRecDepth 100000 in
set_option maxHeartbeats 2000000 in
theorem promiseText_any (x : GPromise) (w : World) (h1 : x.replica ≤ 9223372036854775807) (h2 : x.epoch ≤ 9223372036854775807) (tm : Nat) (htm : x.floor = (tm : Int)) (ht1 : tm < 18446744073709551616) (hc : x.certs = ⟨none, 0, 0⟩) :
    Calls Tryz.prog 127 #[x.val] w fun e w' => ∃ (A : Option Addr) (c : Nat), e = .returned (.slice A (promiseText0 tm x).length c) ∧ Sl U8 w' w'.heap.size A (promiseText0 tm x).length (promiseText0 tm x) ∧ Bel w w' := by
  have HG := Lib.hid (get?_new (w := w) 52 x)
  have HB := Lib.hid ((Bel.refl w).alloc (.cells (GPromise.enc x).toArray 52))
  have HN := Lib.hid (show ¬ (w.alloc (.cells (GPromise.enc x).toArray 52)).heap.size ≤ w.heap.size by simp)
  have l1 := intL_le h1
  have l2 := intL_le h2
  have l3 := numL_le ht1
  have l4 := intL_le (n := 0) (by omega)
  have HTM := Lib.hid htm
  have HC := Lib.hid hc
  obtain ⟨n, hn⟩ : ∃ n, (promiseText0 tm x).length = n := ⟨_, rfl⟩
  have HL := Lib.hid hn
  clear hn
  have l0 := rowL_le (l := bytesL ⟨#[112, 114, 111, 109, 105, 115, 101]⟩) (by rw [bytesL_len]; decide)
  go_enter Tryz.func127, Tryz.ntmps127
  go_wp2_with fail
  change Hid (get? GPromise (w.alloc (.cells (GPromise.enc x).toArray 52)) ⟨w.heap.size, 0, none⟩ = some x) at HG
  generalize w.alloc (.cells (GPromise.enc x).toArray 52) = ws at HG HB HN ⊢
  obtain ⟨g, hg⟩ : ∃ g, w.heap.size = g := ⟨_, rfl⟩
  rw [hg] at HG HN ⊢
  have HBS := HB
  clear hc
  refine wp_region_H GB (Chg (fun k => ws.heap.size ≤ k)) [0, 3, 6, 9, 10] [] GB.rf (by kernel_rfl) ?_
  refine wpH_looks 5 11 [1, 2, 4, 5, 7, 8] rfl GB.rf GB.tr (Chg.refl _) (fun _ _ _ h k => h.tr k) (fun _ _ h => Chg.of_bel h _) (by kernel_rfl) (fun _ _ _ _ hd h => And.intro (hd ▸ And.left h) (And.right h)) rfl (by kernel_rfl) ?_
  intro ι W hne CW
  clear htm
  have k0 := GPromise.at_replica HG.out
  simp only [Addr.add_lit, Nat.zero_add, Nat.reduceAdd] at k0
  have j0 := fun z => (CW.out z).cell k0 (HN.out)
  have k1 := GPromise.at_epoch HG.out
  simp only [Addr.add_lit, Nat.zero_add, Nat.reduceAdd] at k1
  have j1 := fun z => (CW.out z).cell k1 (HN.out)
  have k2 := GPromise.at_floor HG.out
  simp only [Addr.add_lit, Nat.zero_add, Nat.reduceAdd] at k2
  rw [HTM.out] at k2
  have j2 := fun z => (CW.out z).cell k2 (HN.out)
  clear k0 k1 k2
  repeat (refine wpLooksG_step (fun K hK => ?_); go_simp; refine hK _ ?_; clear hK K)
  refine wpLooksG_nil ?_
  clear j0 j1 j2 CW hne W ι
  refine wpH_force 0 _ rfl (by kernel_rfl) rfl fun wa hwa K hK => ?_
  go_simp
  refine (text_any ws wa (GB.undrew hwa) ⟨#[112, 114, 111, 109, 105, 115, 101]⟩ (by decide)).mono ?_
  rintro _ wb ⟨p, rfl, hW, hb, hF⟩
  refine hK _ _ (fun h => absurd (by simp) h) (fun _ => Chg.of_bel hb _) ?_
  have HA := Lib.hid (show WrAt ws ws (fun k => ws.heap.size ≤ k) wb p (rowL (bytesL (⟨#[112, 114, 111, 109, 105, 115, 101]⟩ : ByteArray))) from ⟨hW, fun k hk => Nat.le_trans (GB.undrew hwa).size (hF k hk), fun _ h => h, Chg.of_bel ((GB.undrew hwa).trans hb) _⟩)
  clear hK K hW hb hF hwa wa
  refine wpH_force 3 _ rfl (by kernel_rfl) rfl fun wa hwa K hK => ?_
  go_simp
  have ha := HA.out.step (hwa)
  refine (int_any ws p (rowL (bytesL (⟨#[112, 114, 111, 109, 105, 115, 101]⟩ : ByteArray))) x.replica wa ha.is h1 (by first | omega | (simp only [List.length_append]; omega))).mono ?_
  rintro _ wb ⟨rfl, hd⟩
  obtain ⟨hA2, hc⟩ := ha.did hd
  refine hK _ _ (fun h => absurd (by simp) h) (fun _ => hc) ?_
  clear HA
  have HA := Lib.hid hA2
  clear hK K hd hA2 hc hwa ha wa
  refine wpH_force 6 _ rfl (by kernel_rfl) rfl fun wa hwa K hK => ?_
  go_simp
  have ha := HA.out.step (hwa)
  refine (int_any ws p (rowL (bytesL (⟨#[112, 114, 111, 109, 105, 115, 101]⟩ : ByteArray)) ++ intL x.replica) x.epoch wa ha.is h2 (by first | omega | (simp only [List.length_append]; omega))).mono ?_
  rintro _ wb ⟨rfl, hd⟩
  obtain ⟨hA2, hc⟩ := ha.did hd
  refine hK _ _ (fun h => absurd (by simp) h) (fun _ => hc) ?_
  clear HA
  have HA := Lib.hid hA2
  clear hK K hd hA2 hc hwa ha wa
  refine wpH_force 9 _ rfl (by kernel_rfl) rfl fun wa hwa K hK => ?_
  go_simp
  have ha := HA.out.step (hwa)
  refine (num_any ws p (rowL (bytesL (⟨#[112, 114, 111, 109, 105, 115, 101]⟩ : ByteArray)) ++ intL x.replica ++ intL x.epoch) tm wa ha.is ht1 (by first | omega | (simp only [List.length_append]; omega))).mono ?_
  rintro _ wb ⟨rfl, hd⟩
  obtain ⟨hA2, hc⟩ := ha.did hd
  refine hK _ _ (fun h => absurd (by simp) h) (fun _ => hc) ?_
  clear HA
  have HA := Lib.hid hA2
  clear hK K hd hA2 hc hwa ha wa
  refine wpH_force 10 _ rfl (by kernel_rfl) rfl fun wa hwa K hK => ?_
  go_simp
  refine hK _ _ (fun h => absurd (by simp) h) (fun _ => Chg.refl _ _) ?_
  clear hK K
  refine wpH_end (by kernel_rfl) (fun wn hwn => ?_) _
  have HA2 := Lib.hid ((HA.out.step hwa).step hwn)
  have HBN := Lib.hid (HA.out.is.bel.trans (GB.tr _ _ _ hwa hwn))
  clear hwn hwa HA
  have n1 := GPromise.at_certs HG.out
  simp only [Addr.add_lit, Nat.zero_add, Nat.reduceAdd] at n1
  rw [HC.out] at n1
  have n2 := GB.cell HBN.out n1
  go_wp2_with fail
  refine (putList0_any ws p (rowL (bytesL (⟨#[112, 114, 111, 109, 105, 115, 101]⟩ : ByteArray)) ++ intL x.replica ++ intL x.epoch ++ numL tm) _ wn HA2.out.is (by first | omega | (simp only [List.length_append]; omega))).mono ?_
  rintro _ wp2 ⟨rfl, hd⟩
  have HI := Lib.hid hd.is
  clear hd n1 n2 HA2
  go_wp2_with fail
  refine (bytes_is n ws p (rowL (bytesL (⟨#[112, 114, 111, 109, 105, 115, 101]⟩ : ByteArray)) ++ intL x.replica ++ intL x.epoch ++ numL tm ++ intL 0) wp2 HL.out HI.out (by first | omega | (simp only [List.length_append]; omega))).mono ?_
  rintro _ wb ⟨A, c, rfl, hs, hb, -⟩
  have HS := Lib.hid hs; have HBW := Lib.hid ((HB.out.trans HI.out.bel).trans hb)
  clear hs hb
  go_wp2_with fail
  go_ret
  have hn := HL.out
  subst hn
  exact ⟨A, c, rfl, HS.out, HBW.out⟩
end Go.Proofs.YthkifibmihijaaaGreatDoor
/- The book of signatures. Conditions: those named in each theorem. -/
namespace Go.Proofs.YthkifibmihijaaaGreatDoor
open Go Go.RowKit Go.Gv Go.Proofs

def strB (ys : List U8) : ByteArray := ⟨(ys.map U8.v).toArray⟩
theorem str_conv {w : World} {B0 : Nat} {B : Option Addr} {n c : Nat} {ys : List U8} (h : Sl U8 w B0 B n ys) : (convert 64 9 (.slice B n c)).run Tryz.prog w = .ok (.string (strB ys)) w := by
  cases B with
  | none =>
    have hn : n = 0 := by
      rcases Nat.eq_zero_or_pos n with h0 | h0
      · exact h0
      · obtain ⟨ad, e, _⟩ := h.2 h0; cases e
    subst hn
    obtain rfl : ys = [] := List.length_eq_zero_iff.1 h.1
    rw [run_convert_bytes_string w _ _ 5 none 0 c (by kernel_rfl) (by kernel_rfl) (by kernel_rfl)]
    rfl
  | some ad =>
    have hl : (ys.map U8.v).length = n := by rw [List.length_map]; exact h.1
    have := run_convert_bytes_back (P := Tryz.prog) w 64 9 5 ad c (ys.map U8.v) (by kernel_rfl) (by kernel_rfl) (by kernel_rfl) (fun j hj => by
      have hj2 : j < n := by rw [← hl]; exact hj
      obtain ⟨ad', x, e, _, hx, hg⟩ := h.at_ (k := j) hj2
      injection e with e
      subst e
      have hc := get1 (α := U8) rfl hg
      rw [show Enc.n U8 = 1 from rfl, Nat.mul_one] at hc
      rw [hc]
      have hxj : (ys.map U8.v)[j] = x.v := by
        have h1 : (ys.map U8.v)[j]? = some x.v := by rw [List.getElem?_map, hx]; rfl
        rw [List.getElem?_eq_getElem hj] at h1
        exact Option.some.inj h1
      rw [hxj]
      rfl)
    rw [hl] at this
    exact this
abbrev MBook := List (GBookSigned × Int)
/-- At block g lies a book over the map in block m. -/
def BookIs (w : World) (g m : Nat) (B : MBook) : Prop := get? GBookBook w ⟨g, 0, none⟩ = some ⟨some m⟩ ∧ mapAt GBookSigned Int w m = some B
section
variable {w w' : World} {g m : Nat} {B : MBook}
theorem BookIs.chg {S : Nat → Prop} (h : BookIs w g m B) (hc : Chg S w w') (hg : ¬ S g) (hm : ¬ S m) : BookIs w' g m B := ⟨hc.get h.1 hg, hc.map h.2 hm⟩
theorem BookIs.step (h : BookIs w g m B) (hb : Bel w w') : BookIs w' g m B := h.chg (S := fun _ => False) (Chg.of_bel hb _) id id
theorem BookIs.ltg (h : BookIs w g m B) : g < w.heap.size := get?_lt h.1
theorem BookIs.ltm (h : BookIs w g m B) : m < w.heap.size := mapAt_lt h.2
end
/-- The mark of a text, when it is signed. -/
def markOf (B : MBook) (k : GBookSigned) : Int := if (mget B k).getD 0 = 0 then (B.length : Int) + 1 else (mget B k).getD 0
def signB (B : MBook) (k : GBookSigned) : MBook := if (mget B k).getD 0 = 0 then mset B k ((B.length : Int) + 1) else B
def rightB (B : MBook) (k : GBookSigned) (mark : Int) : Bool := decide (0 < (mget B k).getD 0) && decide ((mget B k).getD 0 = mark)
set_option maxRecDepth 100000 in
set_option maxHeartbeats 400000 in
theorem newBook_any (w : World) : Calls Tryz.prog 4 #[] w fun e w' => ∃ g m : Nat, e = .returned (.pointer (some ⟨g, 0, none⟩)) ∧ BookIs w' g m [] ∧ w.heap.size ≤ g ∧ w.heap.size ≤ m ∧ Bel w w' := by
  have hmm := @run_makeMap Tryz.prog
  go_enter Tryz.func4, Tryz.ntmps4
  go_wp2
  go_ret
  exact ⟨w.heap.size + 1, w.heap.size, rfl, ⟨nw87 (w.alloc (.map #[] 0)) (w.heap.size + 1) ⟨some w.heap.size⟩ (by simp), mapAt_alloc _ (mapAt_new _ _ w)⟩, by omega, by omega, ((Bel.refl w).alloc _).alloc _⟩
set_option maxRecDepth 100000 in
set_option maxHeartbeats 1000000 in
theorem sign_any (g m : Nat) (B : MBook) (d : Int) (A : Option Addr) (n c : Nat) (ys : List U8) (w : World) (h : BookIs w g m B) (hy : Sl U8 w w.heap.size A n ys) (hl : B.length ≤ 1000000000) :
    Calls Tryz.prog 71 #[.pointer (some ⟨g, 0, none⟩), .int .i64 d, .slice A n c] w fun e w' => e = .returned (GSig.val ⟨d, markOf B ⟨d, strB ys⟩⟩) ∧ BookIs w' g m (signB B ⟨d, strB ys⟩) ∧ Chg (fun k => k = m) w w' := by
  have HH := Lib.hid h
  obtain ⟨hg, hm⟩ := h
  have f0 : w.cell? ⟨g, 0, none⟩ = some (.map (some m)) := cell_zero (GBookBook.at_marks hg)
  have hcv := fun o => str_conv (c := c) (hy.stepB ((Bel.refl w).alloc o))
  obtain ⟨z, hz⟩ : ∃ z, (mget B ⟨d, strB ys⟩).getD 0 = z := ⟨_, rfl⟩
  have HZ := Lib.hid hz
  obtain ⟨s, hs⟩ : ∃ s, strB ys = s := ⟨_, rfl⟩
  rw [hs] at hcv hz HZ ⊢
  clear hy hs
  go_enter Tryz.func71, Tryz.ntmps71
  go_wp2_with fail
  have b6 : get? GSig ((w.alloc (.cells (GSig.enc default).toArray 39)).alloc (.cells (GBookSigned.enc ⟨d, s⟩).toArray 245)) ⟨w.heap.size, 0, none⟩ = some default := get?_alloc _ (get?_new _ _)
  have c6 : blkFree ((w.alloc (.cells (GSig.enc default).toArray 39)).alloc (.cells (GBookSigned.enc ⟨d, s⟩).toArray 245)) w.heap.size = true := by rw [blkFree_past _ _ (by simp)]; exact blkFree_new _ _ rfl
  have b7 : get? GBookSigned ((w.alloc (.cells (GSig.enc default).toArray 39)).alloc (.cells (GBookSigned.enc ⟨d, s⟩).toArray 245)) ⟨w.heap.size + 1, 0, none⟩ = some ⟨d, s⟩ := by
    have := get?_new (w := w.alloc (.cells (GSig.enc default).toArray 39)) 245 (⟨d, s⟩ : GBookSigned)
    rwa [World.size_alloc] at this
  have HB := Lib.hid (((Bel.refl w).alloc (.cells (GSig.enc default).toArray 39)).alloc (.cells (GBookSigned.enc ⟨d, s⟩).toArray 245))
  have hml := HH.out.ltm
  have hgl := HH.out.ltg
  obtain ⟨q, hq⟩ : ∃ q, w.heap.size = q := ⟨_, rfl⟩
  have HQ := Lib.hid hq
  rw [hq] at b6 b7 c6 hml hgl ⊢
  generalize (w.alloc (.cells (GSig.enc default).toArray 39)).alloc (.cells (GBookSigned.enc ⟨d, s⟩).toArray 245) = wx at b6 c6 b7 HB ⊢
  have hX := HH.out.step HB.out
  have fm := hX.2
  have f1 : wx.cell? ⟨g, 0, none⟩ = some (.map (some m)) := cell_zero (GBookBook.at_marks hX.1)
  obtain ⟨nb, hnb⟩ : ∃ nb, B.length = nb := ⟨_, rfl⟩
  have hlen : (Builtin.len_ #[85] 3 #[.map (some m)]).run Tryz.prog wx.drew.drew = .ok (.int .i64 (nb : Int)) wx.drew.drew := by
    rw [Gv.run_len_map kl245 um85 (show mapAt GBookSigned Int wx.drew.drew m = some B from fm) _, hnb]
  have HNB := Lib.hid hnb
  have e1 : IntKind.i64.wrap ((nb : Int) + 1) = (nb : Int) + 1 := IntWalk.i64_in _ (by omega)
  clear hm f0 hcv hg hX hnb hq
  go_region
  have HXB := Lib.hid (HH.out.step HB.out)
  have hqm : q ≠ m := get_not_mapV fm b6
  have hq1 : q + 1 ≠ m := get_not_mapV fm b7
  have hgm : g ≠ m := get_not_mapV fm HXB.out.1
  by_cases h0 : z = 0
  · go_wp2_with fail
    go_region
    have hm2 := mapAt_mput kl245 um85 (show mapAt GBookSigned Int wx.drew.drew m = some B from fm) (⟨d, s⟩ : GBookSigned) ((nb : Int) + 1)
    have hgr : Chg (fun k => k = m) wx (mput Tryz.prog 85 wx.drew.drew m (⟨d, s⟩ : GBookSigned) ((nb : Int) + 1)) :=
      (show Chg (fun k => k = m) wx wx.drew.drew from Chg.of_bel ((Bel.refl wx).drew.drew) _).tr (Chg.of_grown (mput_grown kl245 um85 (show mapAt GBookSigned Int wx.drew.drew m = some B from fm) (⟨d, s⟩ : GBookSigned) ((nb : Int) + 1)) (fun k e => by injection e with e; exact e.symm))
    generalize mput Tryz.prog 85 wx.drew.drew m (⟨d, s⟩ : GBookSigned) ((nb : Int) + 1) = wm at hm2 hgr ⊢
    have k6 := hgr.get b6 hqm
    have k7 := hgr.get b7 hq1
    have kc := hgr.free c6 (get?_lt b6) hqm
    have k1 := hgr.cell f1 hgm
    have hz2 : (mget (mset B (⟨d, s⟩ : GBookSigned) ((nb : Int) + 1)) ⟨d, s⟩).getD 0 = (nb : Int) + 1 := by rw [mget_mset_same]; rfl
    have HM2 := Lib.hid hm2; have HGR := Lib.hid hgr
    clear hgr b6 b7 c6 f1 fm hlen hgm hq1
    go_wp2_with fail
    go_region
    have HG : get? GSig (World.putCells wm ⟨q, 0, none⟩ (GSig.enc ⟨d, (nb : Int) + 1⟩)) ⟨q, 0, none⟩ = some ⟨d, (nb : Int) + 1⟩ := get?_putV _ k6
    have hc2 : Chg (fun k => k = m ∨ k = q) wx (World.putCells wm ⟨q, 0, none⟩ (GSig.enc ⟨d, (nb : Int) + 1⟩)) := (HGR.out.sub fun k e => .inl e).tr (chg_put (.inr rfl) _)
    have hB2 : BookIs (World.putCells wm ⟨q, 0, none⟩ (GSig.enc ⟨d, (nb : Int) + 1⟩)) g m (mset B ⟨d, s⟩ ((nb : Int) + 1)) :=
      ⟨hc2.get HXB.out.1 (fun e => e.elim (fun e => get_not_mapV HXB.out.2 HXB.out.1 e) (fun e => by simp only at e; omega)), (chg_put (S := fun k => k = q) rfl _).map HM2.out (fun e => hqm e.symm)⟩
    go_wp2_with fail
    refine bodyPost_ret (results_cell (x := (⟨d, (nb : Int) + 1⟩ : GSig)) rfl rfl ag39 sz39 (show get? GSig (World.putCells wm ⟨q, 0, none⟩ (GSig.enc ⟨d, (nb : Int) + 1⟩)).drew _ = _ by simp only [get?_drew]; exact HG)) rfl ⟨?_, ?_, ?_⟩
    · rw [show markOf B ⟨d, s⟩ = (nb : Int) + 1 by unfold markOf; rw [HZ.out, if_pos h0, HNB.out], GSig.val_eq]
    · rw [show signB B ⟨d, s⟩ = mset B ⟨d, s⟩ ((nb : Int) + 1) by unfold signB; rw [HZ.out, if_pos h0, HNB.out]]
      exact hB2.step ((Bel.refl _).drew)
    · exact chg_after HB.out (hc2.tr (Chg.of_bel ((Bel.refl _).drew) _)) (by rintro k (e | e); exact .inl e; right; rw [HQ.out]; omega)
  · go_wp2_with fail
    go_region
    have HG : get? GSig (World.putCells wx ⟨q, 0, none⟩ (GSig.enc ⟨d, z⟩)) ⟨q, 0, none⟩ = some ⟨d, z⟩ := get?_putV _ b6
    have hc2 : Chg (fun k => k = q) wx (World.putCells wx ⟨q, 0, none⟩ (GSig.enc ⟨d, z⟩)) := chg_put (S := fun k => k = q) rfl _
    have hB2 : BookIs (World.putCells wx ⟨q, 0, none⟩ (GSig.enc ⟨d, z⟩)) g m B := HXB.out.chg hc2 (by omega) (fun e => hqm e.symm)
    go_wp2_with fail
    refine bodyPost_ret (results_cell (x := (⟨d, z⟩ : GSig)) rfl rfl ag39 sz39 (show get? GSig (World.putCells wx ⟨q, 0, none⟩ (GSig.enc ⟨d, z⟩)).drew.drew _ = _ by simp only [get?_drew]; exact HG)) rfl ⟨?_, ?_, ?_⟩
    · rw [show markOf B ⟨d, s⟩ = z by unfold markOf; rw [HZ.out, if_neg h0], GSig.val_eq]
    · rw [show signB B ⟨d, s⟩ = B by unfold signB; rw [HZ.out, if_neg h0]]
      exact hB2.step ((Bel.refl _).drew.drew)
    · exact chg_after HB.out (hc2.tr (Chg.of_bel ((Bel.refl _).drew.drew) _)) (by rintro k e; right; rw [HQ.out]; omega)
/-- The parts of a signature's check. -/
theorem right_is (b : Bool) {B : MBook} {k : GBookSigned} {mark : Int} (h : rightB B k mark = b) : rightB B k mark = b := h
set_option maxRecDepth 100000 in
set_option maxHeartbeats 1000000 in
theorem right_any (g m : Nat) (B : MBook) (x : GSig) (A : Option Addr) (n c : Nat) (ys : List U8) (w : World) (h : BookIs w g m B) (hy : Sl U8 w w.heap.size A n ys) :
    Calls Tryz.prog 87 #[.pointer (some ⟨g, 0, none⟩), x.val, .slice A n c] w fun e w' => e = .returned (.bool (rightB B ⟨x.by_, strB ys⟩ x.mark)) ∧ Bel w w' := by
  have HX := Lib.hid (h.step ((Bel.refl w).alloc (.cells (GSig.enc x).toArray 39)))
  have hg := get?_new (w := w) 39 x
  have HB := Lib.hid ((Bel.refl w).alloc (.cells (GSig.enc x).toArray 39))
  have hcv := str_conv (c := c) (hy.stepB (((Bel.refl w).alloc (.cells (GSig.enc x).toArray 39)).drew))
  obtain ⟨z, hz⟩ : ∃ z, (mget B ⟨x.by_, strB ys⟩).getD 0 = z := ⟨_, rfl⟩
  have HZ := Lib.hid hz
  obtain ⟨s, hs⟩ : ∃ s, strB ys = s := ⟨_, rfl⟩
  rw [hs] at hcv hz HZ ⊢
  clear hy hs h
  go_enter Tryz.func87, Tryz.ntmps87
  go_wp2_with fail
  generalize w.alloc (.cells (GSig.enc x).toArray 39) = wx at HX hg HB hcv ⊢
  obtain ⟨q, hq⟩ : ∃ q, w.heap.size = q := ⟨_, rfl⟩
  rw [hq] at hg ⊢
  have fm := HX.out.2
  have f0 : wx.cell? ⟨g, 0, none⟩ = some (.map (some m)) := cell_zero (GBookBook.at_marks HX.out.1)
  have f1 := cell_zero (GSig.at_by_ hg)
  have f2 : wx.cell? ⟨q, 1, none⟩ = some (.int .i64 x.mark) := cell_off (by omega) (GSig.at_mark hg)
  go_region
  have HBD := Lib.hid HB.out.drew
  clear hcv fm f0 f1
  by_cases h0 : 0 < z
  · go_wp2_with fail
    go_ret
    exact ⟨ret_bool (by unfold rightB; rw [HZ.out, decide_eq_true h0, Bool.true_and, Bool.eq_iff_iff, decide_eq_true_eq]; simp), HBD.out⟩
  · go_wp2_with fail
    go_ret
    exact ⟨ret_bool (by unfold rightB; rw [HZ.out, decide_eq_false (show ¬ 0 < z by omega)]; rfl), HBD.out⟩
end Go.Proofs.YthkifibmihijaaaGreatDoor
/- The keys of an empty map, collected and sorted: none. Conditions: those named in each theorem. -/
namespace Go.Proofs.YthkifibmihijaaaGreatDoor
open Go Go.Proofs Go.RowKit Go.Shelf Go.Gv

attribute [local go_sem] Oper.semAt_some

set_option maxRecDepth 100000 in
set_option maxHeartbeats 2000000 in
theorem keys0N_in (F : Fence) (n : Nat) (h7 : F.fn 239) (hro : F.round = none) (hn : 1 ≤ n) (l Bs r : Nat) (J : List Empty → World → Prop)
    (W : World) (hJ : AbidesFrom W.heap.size J) (hBs : W.cell? ⟨Bs, 0, none⟩ = some (.map (some r))) (hm : mapAt GName GCert W r = some []) (h0 : J [] W) :
    CallsIn F n Tryz.prog 239 #[.func (.yield l) #[] #[], .pointer (some ⟨Bs, 0, none⟩)] W fun e W' => (∃ v, e = .returned v) ∧ J [] W' := by
  obtain ⟨o, hrg, hR⟩ := ranges_start (P := Tryz.prog) um125 hm
  have hJ2 := hJ [] W (W.alloc o) none h0 ⟨rfl, rfl, rfl, by simp, fun k hk _ => Below.heap_alloc _ _ _ hk⟩ (fun _ e => by cases e)
  have hnx : ∀ ty : TypeId, (Instr.next (.pointer (some ⟨W.heap.size, 0, none⟩)) false ty).run Tryz.prog (W.alloc o) = .ok (.tuple #[.bool false]) (W.alloc o) := by
    rcases hR.next Tryz.prog with ⟨_, h⟩ | ⟨l1, p, l2, w', h, _⟩
    · exact h
    · cases l1 <;> cases h
  clear hR hm
  refine callsIn_of_wp Tryz.func239 rfl h7 ?_ hro
  simp only [Tryz.ntmps239, List.size_toArray, List.length_cons, List.length_nil, Nat.reduceAdd, Nat.reduceSub, Array.replicate_succ, Array.replicate_zero, List.push_toArray, List.append_toArray, List.nil_append, List.cons_append]
  gi_wp2
  gi_loopw [] (fun wr => wr = W.alloc o) (fun _ => 0)
  case atStart => exact rfl
  case round =>
    obtain rfl := hrel
    gi_wp2
    go_end0
    exact ⟨⟨_, rfl⟩, hJ2⟩
def EmpN (n₀ : Nat) (W : World) (Bs r : Nat) : Prop := W.cell? ⟨Bs, 0, none⟩ = some (.map (some r)) ∧ mapAt GName GCert W r = some [] ∧ Bs < n₀ ∧ r < n₀
theorem EmpN.below {n₀ : Nat} {A B : World} {Bs r : Nat} (h : Below n₀ A B) (hE : EmpN n₀ A Bs r) : EmpN n₀ B Bs r :=
  ⟨(h.cell (p := ⟨Bs, 0, none⟩) hE.2.2.1).trans hE.1, (mapAt_below h hE.2.2.2).trans hE.2.1, hE.2.2⟩
theorem keys0N_stops (F : Fence) (n : Nat) (h7 : F.fn 239) (hro : F.round = none) (hn : 1 ≤ n) (Bs r n₀ : Nat) (w : World) (hE : EmpN n₀ w Bs r) (hn₀ : n₀ ≤ w.heap.size) :
    SeqStopsK F n Tryz.prog 239 #[.pointer (some ⟨Bs, 0, none⟩)] (fun x : Empty => (x.elim : Array Value)) (Below n₀) (fun ys => ys = []) (fun pre => pre = []) 0 w := fun l J Jx W hW hJ _ hY h0 => by
  have hE2 := hE.below (hW.mono hn₀)
  refine (keys0N_in F n h7 hro hn l Bs r J W hJ hE2.1 hE2.2.1 h0).mono ?_
  rintro e W' ⟨he, hj⟩
  exact ⟨he, .inl ⟨[], rfl, hj⟩⟩
set_option maxRecDepth 100000 in
set_option maxHeartbeats 4000000 in
theorem appendSeq0N_in (F : Fence) (n : Nat) (h3 : F.fn 271) (h5 : F.fn 239) (hro : F.round = none) (hn : 3 ≤ n) (Bs r : Nat) (w : World) (hE : EmpN w.heap.size w Bs r) :
    CallsIn F n Tryz.prog 271 #[.slice none 0 0, .func (.func 239) #[] #[.pointer (some ⟨Bs, 0, none⟩)]] w fun e W' => e = .returned (.slice none 0 0) ∧ Below w.heap.size w W' := by
  have h1 : 1 ≤ n := by omega
  refine callsIn_of_wp_marks Tryz.func271 rfl h3 ?_ hro
  simp only [Tryz.ntmps271, List.size_toArray, List.length_cons, List.length_nil, Nat.reduceAdd, Nat.reduceSub, Array.replicate_succ, Array.replicate_zero, List.push_toArray, List.append_toArray, List.nil_append, List.cons_append]
  gi_wp2
  have bO := Boxed.new w 352 (.slice none 0 0)
  have hB0 : Below w.heap.size w (w.alloc (.cells #[.slice none 0 0] 352)) := (Below.refl _ w).alloc (Nat.le_refl _) _
  refine wpIn_rangeFunc_ownG hro h1 (gf := 239) (lb := #[.pointer (some ⟨Bs, 0, none⟩)]) rfl h5 (enters_of Tryz.func239 (by kernel_rfl) rfl)
    (keys0N_stops F (n - 1) h5 hro (by omega) Bs r w.heap.size w hE (Nat.le_refl _)) belowK_t (belowK_b (by simp)) hB0 (fun x => x.elim)
    (fun pre W => (∃ v, Boxed W w.heap.size 352 v ∧ W.ownsRow w.heap.size 35 2 v 0 [] ∧ v = .slice none 0 0) ∧ Below w.heap.size w W)
    (fun _ _ _ => False)
    (OwnFrom.and (Own.from (holdsRow_own w.heap.size w.heap.size 352 35 2 (fun pre => 0) (fun pre => []) (fun pre v => v = .slice none 0 0)) _) (ownFrom_below (Nat.le_refl _) (by simp)))
    (fun _ _ _ _ _ hs _ _ => hs)
    ⟨⟨_, bO, World.ownsRow_nil _ _ _ _, rfl⟩, hB0⟩
    (fun x => x.elim) ?assign ?body ?done ?stop
  case assign =>
    exact fun l x => x.elim
  case body =>
    exact fun l pre x => x.elim
  case done =>
    rintro D ys W hD rfl ⟨⟨v, hv, hrow, rfl⟩, hB⟩ hK
    have hc := hv.cell
    gi_wp2
    refine ⟨by simp, .inl ⟨_, _, rfl, run_takeDeferred hK, ?_⟩⟩
    exact ⟨_, results_tmp rfl _ _ _, rfl, hB.trans (belowK_b (w := w) (Nat.le_refl _) W D _ _ (by simp at hD; omega) hK rfl rfl)⟩
  case stop =>
    rintro D c pre W _ _ h _
    exact h.elim
set_option maxRecDepth 100000 in
set_option maxHeartbeats 1000000 in
theorem collect0N_any (Bs r : Nat) (w : World) (hE : EmpN w.heap.size w Bs r) :
    Calls Tryz.prog 237 #[.func (.func 239) #[] #[.pointer (some ⟨Bs, 0, none⟩)]] w fun e W' => e = .returned (.slice none 0 0) ∧ Bel w W' := by
  have H := (callsIn_wide (n := 3)).1 (appendSeq0N_in Fence.wide 3 trivial trivial rfl (by omega) Bs r w hE)
  go_enter Tryz.func237, Tryz.ntmps237
  go_wp2_with fail
  refine H.mono ?_
  rintro _ w1 ⟨rfl, hb⟩
  go_wp2_with fail
  go_ret
  exact ⟨rfl, hb⟩
set_option maxRecDepth 100000 in
set_option maxHeartbeats 2000000 in
theorem keys0I_in (F : Fence) (n : Nat) (h7 : F.fn 163) (hro : F.round = none) (hn : 1 ≤ n) (l Bs r : Nat) (J : List Empty → World → Prop)
    (W : World) (hJ : AbidesFrom W.heap.size J) (hBs : W.cell? ⟨Bs, 0, none⟩ = some (.map (some r))) (hm : mapAt Int GRevealPlace W r = some []) (h0 : J [] W) :
    CallsIn F n Tryz.prog 163 #[.func (.yield l) #[] #[], .pointer (some ⟨Bs, 0, none⟩)] W fun e W' => (∃ v, e = .returned v) ∧ J [] W' := by
  obtain ⟨o, hrg, hR⟩ := ranges_start (P := Tryz.prog) um128 hm
  have hJ2 := hJ [] W (W.alloc o) none h0 ⟨rfl, rfl, rfl, by simp, fun k hk _ => Below.heap_alloc _ _ _ hk⟩ (fun _ e => by cases e)
  have hnx : ∀ ty : TypeId, (Instr.next (.pointer (some ⟨W.heap.size, 0, none⟩)) false ty).run Tryz.prog (W.alloc o) = .ok (.tuple #[.bool false]) (W.alloc o) := by
    rcases hR.next Tryz.prog with ⟨_, h⟩ | ⟨l1, p, l2, w', h, _⟩
    · exact h
    · cases l1 <;> cases h
  clear hR hm
  refine callsIn_of_wp Tryz.func163 rfl h7 ?_ hro
  simp only [Tryz.ntmps163, List.size_toArray, List.length_cons, List.length_nil, Nat.reduceAdd, Nat.reduceSub, Array.replicate_succ, Array.replicate_zero, List.push_toArray, List.append_toArray, List.nil_append, List.cons_append]
  gi_wp2
  gi_loopw [] (fun wr => wr = W.alloc o) (fun _ => 0)
  case atStart => exact rfl
  case round =>
    obtain rfl := hrel
    gi_wp2
    go_end0
    exact ⟨⟨_, rfl⟩, hJ2⟩
def EmpI (n₀ : Nat) (W : World) (Bs r : Nat) : Prop := W.cell? ⟨Bs, 0, none⟩ = some (.map (some r)) ∧ mapAt Int GRevealPlace W r = some [] ∧ Bs < n₀ ∧ r < n₀
theorem EmpI.below {n₀ : Nat} {A B : World} {Bs r : Nat} (h : Below n₀ A B) (hE : EmpI n₀ A Bs r) : EmpI n₀ B Bs r :=
  ⟨(h.cell (p := ⟨Bs, 0, none⟩) hE.2.2.1).trans hE.1, (mapAt_below h hE.2.2.2).trans hE.2.1, hE.2.2⟩
theorem keys0I_stops (F : Fence) (n : Nat) (h7 : F.fn 163) (hro : F.round = none) (hn : 1 ≤ n) (Bs r n₀ : Nat) (w : World) (hE : EmpI n₀ w Bs r) (hn₀ : n₀ ≤ w.heap.size) :
    SeqStopsK F n Tryz.prog 163 #[.pointer (some ⟨Bs, 0, none⟩)] (fun x : Empty => (x.elim : Array Value)) (Below n₀) (fun ys => ys = []) (fun pre => pre = []) 0 w := fun l J Jx W hW hJ _ hY h0 => by
  have hE2 := hE.below (hW.mono hn₀)
  refine (keys0I_in F n h7 hro hn l Bs r J W hJ hE2.1 hE2.2.1 h0).mono ?_
  rintro e W' ⟨he, hj⟩
  exact ⟨he, .inl ⟨[], rfl, hj⟩⟩
set_option maxRecDepth 100000 in
set_option maxHeartbeats 4000000 in
theorem appendSeq0I_in (F : Fence) (n : Nat) (h3 : F.fn 212) (h5 : F.fn 163) (hro : F.round = none) (hn : 3 ≤ n) (Bs r : Nat) (w : World) (hE : EmpI w.heap.size w Bs r) :
    CallsIn F n Tryz.prog 212 #[.slice none 0 0, .func (.func 163) #[] #[.pointer (some ⟨Bs, 0, none⟩)]] w fun e W' => e = .returned (.slice none 0 0) ∧ Below w.heap.size w W' := by
  have h1 : 1 ≤ n := by omega
  refine callsIn_of_wp_marks Tryz.func212 rfl h3 ?_ hro
  simp only [Tryz.ntmps212, List.size_toArray, List.length_cons, List.length_nil, Nat.reduceAdd, Nat.reduceSub, Array.replicate_succ, Array.replicate_zero, List.push_toArray, List.append_toArray, List.nil_append, List.cons_append]
  gi_wp2
  have bO := Boxed.new w 181 (.slice none 0 0)
  have hB0 : Below w.heap.size w (w.alloc (.cells #[.slice none 0 0] 181)) := (Below.refl _ w).alloc (Nat.le_refl _) _
  refine wpIn_rangeFunc_ownG hro h1 (gf := 163) (lb := #[.pointer (some ⟨Bs, 0, none⟩)]) rfl h5 (enters_of Tryz.func163 (by kernel_rfl) rfl)
    (keys0I_stops F (n - 1) h5 hro (by omega) Bs r w.heap.size w hE (Nat.le_refl _)) belowK_t (belowK_b (by simp)) hB0 (fun x => x.elim)
    (fun pre W => (∃ v, Boxed W w.heap.size 181 v ∧ W.ownsRow w.heap.size 3 1 v 0 [] ∧ v = .slice none 0 0) ∧ Below w.heap.size w W)
    (fun _ _ _ => False)
    (OwnFrom.and (Own.from (holdsRow_own w.heap.size w.heap.size 181 3 1 (fun pre => 0) (fun pre => []) (fun pre v => v = .slice none 0 0)) _) (ownFrom_below (Nat.le_refl _) (by simp)))
    (fun _ _ _ _ _ hs _ _ => hs)
    ⟨⟨_, bO, World.ownsRow_nil _ _ _ _, rfl⟩, hB0⟩
    (fun x => x.elim) ?assign ?body ?done ?stop
  case assign =>
    exact fun l x => x.elim
  case body =>
    exact fun l pre x => x.elim
  case done =>
    rintro D ys W hD rfl ⟨⟨v, hv, hrow, rfl⟩, hB⟩ hK
    have hc := hv.cell
    gi_wp2
    refine ⟨by simp, .inl ⟨_, _, rfl, run_takeDeferred hK, ?_⟩⟩
    exact ⟨_, results_tmp rfl _ _ _, rfl, hB.trans (belowK_b (w := w) (Nat.le_refl _) W D _ _ (by simp at hD; omega) hK rfl rfl)⟩
  case stop =>
    rintro D c pre W _ _ h _
    exact h.elim
set_option maxRecDepth 100000 in
set_option maxHeartbeats 1000000 in
theorem collect0I_any (Bs r : Nat) (w : World) (hE : EmpI w.heap.size w Bs r) :
    Calls Tryz.prog 161 #[.func (.func 163) #[] #[.pointer (some ⟨Bs, 0, none⟩)]] w fun e W' => e = .returned (.slice none 0 0) ∧ Bel w W' := by
  have H := (callsIn_wide (n := 3)).1 (appendSeq0I_in Fence.wide 3 trivial trivial rfl (by omega) Bs r w hE)
  go_enter Tryz.func161, Tryz.ntmps161
  go_wp2_with fail
  refine H.mono ?_
  rintro _ w1 ⟨rfl, hb⟩
  go_wp2_with fail
  go_ret
  exact ⟨rfl, hb⟩
set_option maxRecDepth 100000 in
set_option maxHeartbeats 1000000 in
theorem len64_0 (w : World) : Calls Tryz.prog 260 #[.int .u64 0] w fun e w' => e = .returned (.int .i64 0) ∧ w' = w := by
  go_enter Tryz.func260, Tryz.ntmps260
  go_wp2_with fail
  go_ret
  exact ⟨by kernel_rfl, rfl⟩
set_option maxRecDepth 100000 in
theorem len_0 (w : World) : Calls Tryz.prog 214 #[.int .u64 0] w fun e w' => e = .returned (.int .i64 0) ∧ w' = w := by
  go_enter Tryz.func214, Tryz.ntmps214
  go_wp2_with fail
  refine (len64_0 _).mono ?_
  rintro _ w1 ⟨rfl, rfl⟩
  go_wp2_with fail
  go_ret
  exact ⟨rfl, rfl⟩
set_option maxRecDepth 100000 in
set_option maxHeartbeats 400000 in
theorem keysOfN_any (r : Nat) (w : World) (hm : mapAt GName GCert w r = some []) :
    Calls Tryz.prog 202 #[.map (some r)] w fun e w' => ∃ Bs, e = .returned (.func (.func 239) #[] #[.pointer (some ⟨Bs, 0, none⟩)]) ∧ EmpN w'.heap.size w' Bs r ∧ Bel w w' := by
  have hl := mapAt_lt hm
  have HE := Lib.hid (show EmpN (w.alloc (.cells #[.map (some r)] 125)).heap.size (w.alloc (.cells #[.map (some r)] 125)) w.heap.size r from ⟨by simp, mapAt_alloc _ hm, by simp, by simp; omega⟩)
  have HB := Lib.hid ((Bel.refl w).alloc (.cells #[.map (some r)] 125))
  clear hm
  go_enter Tryz.func202, Tryz.ntmps202
  go_wp2_with fail
  go_ret
  exact ⟨w.heap.size, rfl, HE.out, HB.out⟩
set_option maxRecDepth 100000 in
set_option maxHeartbeats 400000 in
theorem insSort0N_any (f : Value) (w : World) : Calls Tryz.prog 326 #[.slice none 0 0, .int .i64 0, .int .i64 0, f] w fun e w' => e = .returned (.tuple #[]) ∧ w' = w := by
  go_enter Tryz.func326, Tryz.ntmps326
  go_wp2_with fail
  go_loopw [8] (fun iv wr => iv = .int .i64 1 ∧ wr = w) (fun _ _ => 0)
  case atStart => exact ⟨rfl, rfl⟩
  case round =>
    obtain ⟨rfl, rfl⟩ := hrel
    go_wp2_with fail
    refine bodyPost_end (results_none rfl _ _ _) rfl ?_
    exact ⟨rfl, rfl⟩
set_option maxRecDepth 100000 in
set_option maxHeartbeats 1000000 in
theorem pdq0N_any (f : Value) (w : World) : Calls Tryz.prog 272 #[.slice none 0 0, .int .i64 0, .int .i64 0, .int .i64 0, f] w fun e w' => e = .returned (.tuple #[]) ∧ w' = w := by
  go_enter Tryz.func272, Tryz.ntmps272
  go_wp2_with fail
  go_loopw [1, 2, 3] (fun a b l wr => a = .int .i64 0 ∧ b = .int .i64 0 ∧ l = .int .i64 0 ∧ wr = w) (fun _ _ _ _ => 0)
  case atStart => exact ⟨rfl, rfl, rfl, rfl⟩
  case round =>
    obtain ⟨rfl, rfl, rfl, rfl⟩ := hrel
    go_wp2_with fail
    refine (insSort0N_any f _).mono ?_
    rintro _ w1 ⟨rfl, rfl⟩
    go_wp2_with fail
    refine bodyPost_ret (results_none rfl _ _ _) rfl ?_
    exact ⟨rfl, rfl⟩
set_option maxRecDepth 100000 in
set_option maxHeartbeats 400000 in
theorem sort0N_any (f : Value) (w : World) : Calls Tryz.prog 238 #[.slice none 0 0, f] w fun e w' => e = .returned (.tuple #[]) ∧ w' = w := by
  go_enter Tryz.func238, Tryz.ntmps238
  go_wp2_with fail
  refine (len_0 _).mono ?_
  rintro _ w1 ⟨rfl, rfl⟩
  go_wp2_with fail
  refine (pdq0N_any f _).mono ?_
  rintro _ w1 ⟨rfl, rfl⟩
  go_wp2_with fail
  refine bodyPost_end (results_none rfl _ _ _) rfl ?_
  exact ⟨rfl, rfl⟩
set_option maxRecDepth 100000 in
set_option maxHeartbeats 400000 in
theorem sorted0N_any (f : Value) (Bs r : Nat) (w : World) (hE : EmpN w.heap.size w Bs r) : Calls Tryz.prog 201 #[.func (.func 239) #[] #[.pointer (some ⟨Bs, 0, none⟩)], f] w fun e w' => e = .returned (.slice none 0 0) ∧ Bel w w' := by
  go_enter Tryz.func201, Tryz.ntmps201
  go_wp2_with fail
  refine (collect0N_any Bs r w hE).mono ?_
  rintro _ w1 ⟨rfl, hb⟩
  have HB := Lib.hid hb
  clear hb
  go_wp2_with fail
  refine (sort0N_any f _).mono ?_
  rintro _ w2 ⟨rfl, rfl⟩
  go_wp2_with fail
  go_ret
  exact ⟨rfl, HB.out⟩
set_option maxRecDepth 100000 in
set_option maxHeartbeats 400000 in
theorem keysOfI_any (r : Nat) (w : World) (hm : mapAt Int GRevealPlace w r = some []) :
    Calls Tryz.prog 113 #[.map (some r)] w fun e w' => ∃ Bs, e = .returned (.func (.func 163) #[] #[.pointer (some ⟨Bs, 0, none⟩)]) ∧ EmpI w'.heap.size w' Bs r ∧ Bel w w' := by
  have hl := mapAt_lt hm
  have HE := Lib.hid (show EmpI (w.alloc (.cells #[.map (some r)] 128)).heap.size (w.alloc (.cells #[.map (some r)] 128)) w.heap.size r from ⟨by simp, mapAt_alloc _ hm, by simp, by simp; omega⟩)
  have HB := Lib.hid ((Bel.refl w).alloc (.cells #[.map (some r)] 128))
  clear hm
  go_enter Tryz.func113, Tryz.ntmps113
  go_wp2_with fail
  go_ret
  exact ⟨w.heap.size, rfl, HE.out, HB.out⟩
set_option maxRecDepth 100000 in
set_option maxHeartbeats 400000 in
theorem insSort0I_any (w : World) : Calls Tryz.prog 250 #[.slice none 0 0, .int .i64 0, .int .i64 0] w fun e w' => e = .returned (.tuple #[]) ∧ w' = w := by
  go_enter Tryz.func250, Tryz.ntmps250
  go_wp2_with fail
  go_loopw [6] (fun iv wr => iv = .int .i64 1 ∧ wr = w) (fun _ _ => 0)
  case atStart => exact ⟨rfl, rfl⟩
  case round =>
    obtain ⟨rfl, rfl⟩ := hrel
    go_wp2_with fail
    refine bodyPost_end (results_none rfl _ _ _) rfl ?_
    exact ⟨rfl, rfl⟩
set_option maxRecDepth 100000 in
set_option maxHeartbeats 1000000 in
theorem pdq0I_any (w : World) : Calls Tryz.prog 213 #[.slice none 0 0, .int .i64 0, .int .i64 0, .int .i64 0] w fun e w' => e = .returned (.tuple #[]) ∧ w' = w := by
  go_enter Tryz.func213, Tryz.ntmps213
  go_wp2_with fail
  go_loopw [1, 2, 3] (fun a b l wr => a = .int .i64 0 ∧ b = .int .i64 0 ∧ l = .int .i64 0 ∧ wr = w) (fun _ _ _ _ => 0)
  case atStart => exact ⟨rfl, rfl, rfl, rfl⟩
  case round =>
    obtain ⟨rfl, rfl, rfl, rfl⟩ := hrel
    go_wp2_with fail
    refine (insSort0I_any _).mono ?_
    rintro _ w1 ⟨rfl, rfl⟩
    go_wp2_with fail
    refine bodyPost_ret (results_none rfl _ _ _) rfl ?_
    exact ⟨rfl, rfl⟩
set_option maxRecDepth 100000 in
set_option maxHeartbeats 400000 in
theorem sort0I_any (w : World) : Calls Tryz.prog 162 #[.slice none 0 0] w fun e w' => e = .returned (.tuple #[]) ∧ w' = w := by
  go_enter Tryz.func162, Tryz.ntmps162
  go_wp2_with fail
  refine (len_0 _).mono ?_
  rintro _ w1 ⟨rfl, rfl⟩
  go_wp2_with fail
  refine (pdq0I_any _).mono ?_
  rintro _ w1 ⟨rfl, rfl⟩
  go_wp2_with fail
  refine bodyPost_end (results_none rfl _ _ _) rfl ?_
  exact ⟨rfl, rfl⟩
set_option maxRecDepth 100000 in
set_option maxHeartbeats 400000 in
theorem sorted0I_any (Bs r : Nat) (w : World) (hE : EmpI w.heap.size w Bs r) : Calls Tryz.prog 112 #[.func (.func 163) #[] #[.pointer (some ⟨Bs, 0, none⟩)]] w fun e w' => e = .returned (.slice none 0 0) ∧ Bel w w' := by
  go_enter Tryz.func112, Tryz.ntmps112
  go_wp2_with fail
  refine (collect0I_any Bs r w hE).mono ?_
  rintro _ w1 ⟨rfl, hb⟩
  have HB := Lib.hid hb
  clear hb
  go_wp2_with fail
  refine (sort0I_any _).mono ?_
  rintro _ w2 ⟨rfl, rfl⟩
  go_wp2_with fail
  go_ret
  exact ⟨rfl, HB.out⟩
end Go.Proofs.YthkifibmihijaaaGreatDoor
/- A replica's parts, made; what they hold while nothing has come. Conditions: those named in each theorem. -/
namespace Go.Proofs.YthkifibmihijaaaGreatDoor
open Go Go.RowKit Go.Gv Go.Proofs

theorem mayR_iff {c : GConf} {i : Int} : mayR c i = true ↔ (1 ≤ c.f ∧ c.f ≤ 21 ∧ 1 ≤ c.clients ∧ c.clients ≤ 100) ∧ 0 ≤ i ∧ i < 3 * c.f + 1 := by
  unfold mayR inB
  rw [Bool.and_eq_true, validB_iff, Bool.and_eq_true, decide_eq_true_eq, decide_eq_true_eq]
/-- At g lies a stamper over the map in block m. -/
structure StampIs (w : World) (g m : Nat) (c : GConf) (i now floor last : Int) (S : List (GName × GStamp)) : Prop where
  get : get? GStampStamper w ⟨g, 0, none⟩ = some ⟨c, i, now, floor, last, some m⟩
  free : blkFree w g = true
  map : mapAt GName GStamp w m = some S
/-- At g lies a table that holds none. -/
structure TableIs (w : World) (g m : Nat) (c : GConf) (i : Int) : Prop where
  get : get? GLockTable w ⟨g, 0, none⟩ = some ⟨c, i, some m⟩
  free : blkFree w g = true
  map : mapAt GName GCert w m = some []
/-- At g lies a reveal of no place. -/
structure RevIs (w : World) (g m : Nat) (c : GConf) (i : Int) : Prop where
  get : get? GRevealReveal w ⟨g, 0, none⟩ = some ⟨c, i, some m⟩
  free : blkFree w g = true
  map : mapAt Int GRevealPlace w m = some []
/-- At g lies a ledger of nothing. -/
structure LedIs (w : World) (g m : Nat) : Prop where
  get : get? GLedgerLedger w ⟨g, 0, none⟩ = some ⟨0, 0, ⟨none, 0, 0⟩, some m, 0⟩
  free : blkFree w g = true
  map : mapAt GName Int w m = some []
section
variable {w w' : World} {S : Nat → Prop} {g m : Nat} {c : GConf} {i now floor last : Int} {ss : List (GName × GStamp)}
theorem StampIs.chg (h : StampIs w g m c i now floor last ss) (hc : Chg S w w') (hg : ¬ S g) (hm : ¬ S m) : StampIs w' g m c i now floor last ss := ⟨hc.get h.get hg, hc.free h.free (get?_lt h.get) hg, hc.map h.map hm⟩
theorem TableIs.chg (h : TableIs w g m c i) (hc : Chg S w w') (hg : ¬ S g) (hm : ¬ S m) : TableIs w' g m c i := ⟨hc.get h.get hg, hc.free h.free (get?_lt h.get) hg, hc.map h.map hm⟩
theorem RevIs.chg (h : RevIs w g m c i) (hc : Chg S w w') (hg : ¬ S g) (hm : ¬ S m) : RevIs w' g m c i := ⟨hc.get h.get hg, hc.free h.free (get?_lt h.get) hg, hc.map h.map hm⟩
theorem LedIs.chg (h : LedIs w g m) (hc : Chg S w w') (hg : ¬ S g) (hm : ¬ S m) : LedIs w' g m := ⟨hc.get h.get hg, hc.free h.free (get?_lt h.get) hg, hc.map h.map hm⟩
theorem StampIs.step (h : StampIs w g m c i now floor last ss) (hb : Bel w w') : StampIs w' g m c i now floor last ss := h.chg (S := fun _ => False) (Chg.of_bel hb _) id id
theorem TableIs.step (h : TableIs w g m c i) (hb : Bel w w') : TableIs w' g m c i := h.chg (S := fun _ => False) (Chg.of_bel hb _) id id
theorem RevIs.step (h : RevIs w g m c i) (hb : Bel w w') : RevIs w' g m c i := h.chg (S := fun _ => False) (Chg.of_bel hb _) id id
theorem LedIs.step (h : LedIs w g m) (hb : Bel w w') : LedIs w' g m := h.chg (S := fun _ => False) (Chg.of_bel hb _) id id
end
set_option maxRecDepth 100000 in
set_option maxHeartbeats 1000000 in
theorem stampNew_any (c : GConf) (i : Int) (w : World) (h : mayR c i = true) :
    Calls Tryz.prog 15 #[c.val, .int .i64 i] w fun e w' => ∃ g m : Nat, e = .returned (.tuple #[.pointer (some ⟨g, 0, none⟩), .int .i64 0]) ∧ StampIs w' g m c i 0 0 0 [] ∧ w.heap.size ≤ g ∧ w.heap.size ≤ m ∧ Bel w w' := by
  have hmm := @run_makeMap Tryz.prog
  obtain ⟨⟨v1, v2, v3, v4⟩, v5, v6⟩ := mayR_iff.1 h
  have hv : validB c = true := validB_iff.2 ⟨v1, v2, v3, v4⟩
  have hi : inB c i = true := by unfold inB; simp [v5, v6]
  have G := Lib.hid (get?_new (w := w) 23 c)
  have HB := Lib.hid ((Bel.refl w).alloc (.cells (GConf.enc c).toArray 23))
  clear h
  go_enter Tryz.func15, Tryz.ntmps15
  go_wp2_with fail
  refine (valid_is true c _ hv).mono ?_
  rintro _ w1 ⟨rfl, hb1⟩
  have HB1 := Lib.hid (HB.out.trans hb1)
  have g1 := GB.get hb1 G.out
  clear hb1
  go_wp2_with fail
  refine (in_is true c i _ hi (by omega) (by omega)).mono ?_
  rintro _ w2 ⟨rfl, hb2⟩
  have HB2 := Lib.hid (HB1.out.trans hb2)
  have g2 := GB.get hb2 g1
  have hz := (HB1.out.trans hb2).size
  clear hb2 g1
  go_wp2_with fail
  go_ret2
  refine ⟨w2.heap.size + 1, w2.heap.size, rfl, ⟨?_, ?_, ?_⟩, by omega, by omega, (HB2.out.alloc _).alloc _⟩
  · exact nw124 (w2.alloc (.map #[] 0)) (w2.heap.size + 1) ⟨c, i, 0, 0, 0, some w2.heap.size⟩ (by simp)
  · exact blkFree_new _ _ (by simp)
  · exact mapAt_alloc _ (mapAt_new _ _ w2)
set_option maxRecDepth 100000 in
set_option maxHeartbeats 1000000 in
theorem lockNew_any (c : GConf) (i : Int) (w : World) (h : mayR c i = true) :
    Calls Tryz.prog 16 #[c.val, .int .i64 i] w fun e w' => ∃ g m : Nat, e = .returned (.tuple #[.pointer (some ⟨g, 0, none⟩), .int .i64 0]) ∧ TableIs w' g m c i ∧ w.heap.size ≤ g ∧ w.heap.size ≤ m ∧ Bel w w' := by
  have hmm := @run_makeMap Tryz.prog
  obtain ⟨⟨v1, v2, v3, v4⟩, v5, v6⟩ := mayR_iff.1 h
  have hv : validB c = true := validB_iff.2 ⟨v1, v2, v3, v4⟩
  have hi : inB c i = true := by unfold inB; simp [v5, v6]
  have G := Lib.hid (get?_new (w := w) 23 c)
  have HB := Lib.hid ((Bel.refl w).alloc (.cells (GConf.enc c).toArray 23))
  clear h
  go_enter Tryz.func16, Tryz.ntmps16
  go_wp2_with fail
  refine (valid_is true c _ hv).mono ?_
  rintro _ w1 ⟨rfl, hb1⟩
  have HB1 := Lib.hid (HB.out.trans hb1)
  have g1 := GB.get hb1 G.out
  clear hb1
  go_wp2_with fail
  refine (in_is true c i _ hi (by omega) (by omega)).mono ?_
  rintro _ w2 ⟨rfl, hb2⟩
  have HB2 := Lib.hid (HB1.out.trans hb2)
  have g2 := GB.get hb2 g1
  have hz := (HB1.out.trans hb2).size
  clear hb2 g1
  go_wp2_with fail
  go_ret2
  refine ⟨w2.heap.size + 1, w2.heap.size, rfl, ⟨?_, ?_, ?_⟩, by omega, by omega, (HB2.out.alloc _).alloc _⟩
  · exact nw127 (w2.alloc (.map #[] 0)) (w2.heap.size + 1) ⟨c, i, some w2.heap.size⟩ (by simp)
  · exact blkFree_new _ _ (by simp)
  · exact mapAt_alloc _ (mapAt_new _ _ w2)
set_option maxRecDepth 100000 in
set_option maxHeartbeats 1000000 in
theorem revNew_any (c : GConf) (i : Int) (w : World) (h : mayR c i = true) :
    Calls Tryz.prog 17 #[c.val, .int .i64 i] w fun e w' => ∃ g m : Nat, e = .returned (.tuple #[.pointer (some ⟨g, 0, none⟩), .int .i64 0]) ∧ RevIs w' g m c i ∧ w.heap.size ≤ g ∧ w.heap.size ≤ m ∧ Bel w w' := by
  have hmm := @run_makeMap Tryz.prog
  obtain ⟨⟨v1, v2, v3, v4⟩, v5, v6⟩ := mayR_iff.1 h
  have hv : validB c = true := validB_iff.2 ⟨v1, v2, v3, v4⟩
  have hi : inB c i = true := by unfold inB; simp [v5, v6]
  have G := Lib.hid (get?_new (w := w) 23 c)
  have HB := Lib.hid ((Bel.refl w).alloc (.cells (GConf.enc c).toArray 23))
  clear h
  go_enter Tryz.func17, Tryz.ntmps17
  go_wp2_with fail
  refine (valid_is true c _ hv).mono ?_
  rintro _ w1 ⟨rfl, hb1⟩
  have HB1 := Lib.hid (HB.out.trans hb1)
  have g1 := GB.get hb1 G.out
  clear hb1
  go_wp2_with fail
  refine (in_is true c i _ hi (by omega) (by omega)).mono ?_
  rintro _ w2 ⟨rfl, hb2⟩
  have HB2 := Lib.hid (HB1.out.trans hb2)
  have g2 := GB.get hb2 g1
  have hz := (HB1.out.trans hb2).size
  clear hb2 g1
  go_wp2_with fail
  go_ret2
  refine ⟨w2.heap.size + 1, w2.heap.size, rfl, ⟨?_, ?_, ?_⟩, by omega, by omega, (HB2.out.alloc _).alloc _⟩
  · exact nw130 (w2.alloc (.map #[] 0)) (w2.heap.size + 1) ⟨c, i, some w2.heap.size⟩ (by simp)
  · exact blkFree_new _ _ (by simp)
  · exact mapAt_alloc _ (mapAt_new _ _ w2)
set_option maxRecDepth 100000 in
set_option maxHeartbeats 1000000 in
theorem stampNew_no (c : GConf) (i : Int) (w : World) (h : mayR c i = false) :
    Calls Tryz.prog 15 #[c.val, .int .i64 i] w fun e w' => e = .returned (.tuple #[.pointer none, .int .i64 1]) ∧ Bel w w' := by
  have G := Lib.hid (get?_new (w := w) 23 c)
  have HB := Lib.hid ((Bel.refl w).alloc (.cells (GConf.enc c).toArray 23))
  cases hv : validB c
  · clear h
    go_enter Tryz.func15, Tryz.ntmps15
    go_wp2_with fail
    refine (valid_is false c _ hv).mono ?_
    rintro _ w1 ⟨rfl, hb1⟩
    have HB1 := Lib.hid (HB.out.trans hb1)
    clear hb1
    go_wp2_with fail
    go_ret2
    exact ⟨rfl, HB1.out⟩
  · have hi : inB c i = false := by unfold mayR at h; rw [hv, Bool.true_and] at h; exact h
    obtain ⟨v1, v2, v3, v4⟩ := validB_iff.1 hv
    clear h
    go_enter Tryz.func15, Tryz.ntmps15
    go_wp2_with fail
    refine (valid_is true c _ hv).mono ?_
    rintro _ w1 ⟨rfl, hb1⟩
    have HB1 := Lib.hid (HB.out.trans hb1)
    have g1 := GB.get hb1 G.out
    clear hb1
    go_wp2_with fail
    refine (in_is false c i _ hi (by omega) (by omega)).mono ?_
    rintro _ w2 ⟨rfl, hb2⟩
    have HB2 := Lib.hid (HB1.out.trans hb2)
    clear hb2 g1
    go_wp2_with fail
    go_ret2
    exact ⟨rfl, HB2.out⟩
set_option maxRecDepth 100000 in
set_option maxHeartbeats 400000 in
theorem ledNew_any (w : World) : Calls Tryz.prog 18 #[] w fun e w' => ∃ g m : Nat, e = .returned (.pointer (some ⟨g, 0, none⟩)) ∧ LedIs w' g m ∧ w.heap.size ≤ g ∧ w.heap.size ≤ m ∧ Bel w w' := by
  have hmm := @run_makeMap Tryz.prog
  go_enter Tryz.func18, Tryz.ntmps18
  go_wp2
  go_ret
  refine ⟨w.heap.size + 1, w.heap.size, rfl, ⟨?_, ?_, ?_⟩, by omega, by omega, ((Bel.refl w).alloc _).alloc _⟩
  · exact nw121 (w.alloc (.map #[] 0)) (w.heap.size + 1) ⟨0, 0, ⟨none, 0, 0⟩, some w.heap.size, 0⟩ (by simp)
  · exact blkFree_new _ _ (by simp)
  · exact mapAt_alloc _ (mapAt_new _ _ w)
set_option maxRecDepth 100000 in
theorem now_any (g m : Nat) (c : GConf) (i now floor last : Int) (ss : List (GName × GStamp)) (w : World) (h : StampIs w g m c i now floor last ss) : Calls Tryz.prog 26 #[.pointer (some ⟨g, 0, none⟩)] w fun e w' => e = .returned (.int .u64 now) ∧ w' = w := by
  have f0 := GStampStamper.at_now h.get
  simp only [Addr.add_lit, Nat.zero_add] at f0
  clear h
  go_enter Tryz.func26, Tryz.ntmps26
  go_wp2_with fail
  go_ret
  exact ⟨rfl, rfl⟩
set_option maxRecDepth 100000 in
theorem floor_any (g m : Nat) (c : GConf) (i now floor last : Int) (ss : List (GName × GStamp)) (w : World) (h : StampIs w g m c i now floor last ss) : Calls Tryz.prog 81 #[.pointer (some ⟨g, 0, none⟩)] w fun e w' => e = .returned (.int .u64 floor) ∧ w' = w := by
  have f0 := GStampStamper.at_floor h.get
  simp only [Addr.add_lit, Nat.zero_add] at f0
  clear h
  go_enter Tryz.func81, Tryz.ntmps81
  go_wp2_with fail
  go_ret
  exact ⟨rfl, rfl⟩
set_option maxRecDepth 100000 in
theorem epoch0_any (g m : Nat) (w : World) (h : LedIs w g m) : Calls Tryz.prog 36 #[.pointer (some ⟨g, 0, none⟩)] w fun e w' => e = .returned (.int .i64 0) ∧ w' = w := by
  have f0 := GLedgerLedger.at_epoch h.get
  simp only [Addr.add_lit, Nat.zero_add] at f0
  clear h
  go_enter Tryz.func36, Tryz.ntmps36
  go_wp2_with fail
  go_ret
  exact ⟨rfl, rfl⟩
set_option maxRecDepth 100000 in
theorem last0_any (g m : Nat) (w : World) (h : LedIs w g m) : Calls Tryz.prog 83 #[.pointer (some ⟨g, 0, none⟩)] w fun e w' => e = .returned (.int .u64 0) ∧ w' = w := by
  have f0 := GLedgerLedger.at_last h.get
  simp only [Addr.add_lit, Nat.zero_add] at f0
  clear h
  go_enter Tryz.func83, Tryz.ntmps83
  go_wp2_with fail
  go_ret
  exact ⟨rfl, rfl⟩
set_option maxRecDepth 100000 in
set_option maxHeartbeats 1000000 in
theorem held0_any (g m : Nat) (c : GConf) (i : Int) (w : World) (h : TableIs w g m c i) : Calls Tryz.prog 143 #[.pointer (some ⟨g, 0, none⟩)] w fun e w' => e = .returned (.slice none 0 0) ∧ Bel w w' := by
  have f0 := GLockTable.at_held h.get
  simp only [Addr.add_lit, Nat.zero_add] at f0
  have HM := Lib.hid h.map
  clear h
  go_enter Tryz.func143, Tryz.ntmps143
  go_wp2_with fail
  refine (keysOfN_any m w HM.out).mono ?_
  rintro _ w1 ⟨Bs, rfl, hE, hb1⟩
  have HE := Lib.hid hE; have HB := Lib.hid hb1
  clear hE hb1 f0
  go_wp2_with fail
  refine (sorted0N_any _ Bs m w1 HE.out).mono ?_
  rintro _ w2 ⟨rfl, hb2⟩
  have HB2 := Lib.hid (HB.out.trans hb2)
  clear hb2
  go_wp2_with fail
  go_loopw [3, 13] (fun ov iv wr => ov = .slice none 0 0 ∧ iv = .int .i64 0 ∧ wr = w2) (fun _ _ _ => 0)
  case atStart => exact ⟨rfl, rfl, rfl⟩
  case round =>
    obtain ⟨rfl, rfl, rfl⟩ := hrel
    go_wp2_with fail
    go_ret
    exact ⟨rfl, HB2.out⟩
set_option maxRecDepth 100000 in
set_option maxHeartbeats 1000000 in
theorem rising0_any (g m : Nat) (c : GConf) (i : Int) (w : World) (h : RevIs w g m c i) : Calls Tryz.prog 70 #[.pointer (some ⟨g, 0, none⟩)] w fun e w' => e = .returned (.slice none 0 0) ∧ Bel w w' := by
  have f0 := GRevealReveal.at_m h.get
  simp only [Addr.add_lit, Nat.zero_add] at f0
  have HM := Lib.hid h.map
  clear h
  go_enter Tryz.func70, Tryz.ntmps70
  go_wp2_with fail
  refine (keysOfI_any m w HM.out).mono ?_
  rintro _ w1 ⟨Bs, rfl, hE, hb1⟩
  have HE := Lib.hid hE; have HB := Lib.hid hb1
  clear hE hb1 f0
  go_wp2_with fail
  refine (sorted0I_any Bs m w1 HE.out).mono ?_
  rintro _ w2 ⟨rfl, hb2⟩
  have HB2 := Lib.hid (HB.out.trans hb2)
  clear hb2
  go_wp2_with fail
  go_ret
  exact ⟨rfl, HB2.out⟩
set_option maxRecDepth 100000 in
set_option maxHeartbeats 1000000 in
theorem due0_any (g m : Nat) (c : GConf) (i : Int) (b : Value) (now : Int) (w : World) (h : RevIs w g m c i) : Calls Tryz.prog 42 #[.pointer (some ⟨g, 0, none⟩), b, .int .u64 now] w fun e w' => e = .returned (.slice none 0 0) ∧ Bel w w' := by
  go_enter Tryz.func42, Tryz.ntmps42
  go_wp2_with fail
  refine (rising0_any g m c i w h).mono ?_
  rintro _ w2 ⟨rfl, hb2⟩
  have HB2 := Lib.hid hb2
  clear hb2
  go_wp2_with fail
  go_loopw [7, 15] (fun ov iv wr => ov = .slice none 0 0 ∧ iv = .int .i64 0 ∧ wr = w2) (fun _ _ _ => 0)
  case atStart => exact ⟨rfl, rfl, rfl⟩
  case round =>
    obtain ⟨rfl, rfl, rfl⟩ := hrel
    go_wp2_with fail
    go_ret
    exact ⟨rfl, HB2.out⟩
end Go.Proofs.YthkifibmihijaaaGreatDoor
/- The stamper's clock and floor; a promise of a table that holds none. Conditions: those named in each theorem. -/
namespace Go.Proofs.YthkifibmihijaaaGreatDoor
open Go Go.RowKit Go.Gv Go.Proofs

set_option maxRecDepth 100000 in
set_option maxHeartbeats 1000000 in
theorem raise_any (g m : Nat) (c : GConf) (i now floor last t : Int) (ss : List (GName × GStamp)) (w : World) (h : StampIs w g m c i now floor last ss) (ht : t < 18446744073709551615) :
    Calls Tryz.prog 125 #[.pointer (some ⟨g, 0, none⟩), .int .u64 t] w fun e w' => e = .returned (.int .i64 0) ∧ StampIs w' g m c i now (max floor t) last ss ∧ Chg (fun k => k = g) w w' := by
  have HS := Lib.hid h
  have f0 := GStampStamper.at_floor h.get
  simp only [Addr.add_lit, Nat.zero_add] at f0
  have hfr : w.frozen? ⟨g, 4, none⟩ = false := frozen_of_free h.free
  have hne : (t == 18446744073709551615) = false := by rw [beq_eq_false_iff_ne]; omega
  have key : ∀ v : Int, v = max floor t → StampIs (w.setCell ⟨g, 4, none⟩ (.int .u64 v)) g m c i now (max floor t) last ss ∧ Chg (fun k => k = g) w (w.setCell ⟨g, 4, none⟩ (.int .u64 v)) := fun v hv => by
    subst hv
    have hc : Chg (fun k => k = g) w (w.setCell ⟨g, 4, none⟩ (.int .u64 (max floor t))) := chg_cell (S := fun k => k = g) rfl _
    exact ⟨⟨get?_poke HS.out.get rfl, by rw [blkFree_setCell]; exact HS.out.free, hc.map HS.out.map (fun e => get_not_mapV HS.out.map HS.out.get e.symm)⟩, hc⟩
  have KEY := Lib.hid key
  clear key h
  by_cases hlt : floor < t
  · have hm := Lib.hid (show t = max floor t by omega)
    go_enter Tryz.func125, Tryz.ntmps125
    go_wp2_with fail
    go_ret
    exact ⟨rfl, KEY.out t hm.out⟩
  · have hm := Lib.hid (show floor = max floor t by omega)
    go_enter Tryz.func125, Tryz.ntmps125
    go_wp2_with fail
    go_ret
    exact ⟨rfl, KEY.out floor hm.out⟩
set_option maxRecDepth 100000 in
set_option maxHeartbeats 1000000 in
theorem tick1_any (g m : Nat) (c : GConf) (i now floor last : Int) (ss : List (GName × GStamp)) (w : World) (h : StampIs w g m c i now floor last ss) (h0 : 0 ≤ now) (h1 : now ≤ 1000000000) :
    Calls Tryz.prog 37 #[.pointer (some ⟨g, 0, none⟩), .int .u64 1] w fun e w' => e = .returned (.tuple #[]) ∧ StampIs w' g m c i (now + 1) floor last ss ∧ Chg (fun k => k = g) w w' := by
  have HS := Lib.hid h
  have f0 := GStampStamper.at_now h.get
  simp only [Addr.add_lit, Nat.zero_add] at f0
  have hfr : w.frozen? ⟨g, 3, none⟩ = false := frozen_of_free h.free
  have e1 : IntKind.u64.wrap (18446744073709551615 - now) = 18446744073709551615 - now := IntWalk.u64_in _ (by omega)
  have e2 : IntKind.u64.wrap (now + 1) = now + 1 := IntWalk.u64_in _ (by omega)
  have e3 : ¬ 18446744073709551615 - now < 1 := by omega
  clear h
  go_enter Tryz.func37, Tryz.ntmps37
  go_wp2_with fail
  go_region
  go_wp2_with fail
  have hc : Chg (fun k => k = g) w (w.setCell ⟨g, 3, none⟩ (.int .u64 (now + 1))) := chg_cell (S := fun k => k = g) rfl _
  refine bodyPost_end (results_none rfl _ _ _) rfl ?_
  exact ⟨rfl, ⟨get?_poke HS.out.get rfl, by rw [show ∀ w1 : World, blkFree w1.drew g = blkFree w1 g from fun _ => rfl, blkFree_setCell]; exact HS.out.free, hc.map HS.out.map (fun e => get_not_mapV HS.out.map HS.out.get e.symm)⟩, hc.tr (Chg.of_bel ((Bel.refl _).drew) _)⟩
/-- A book and a promise lie in two blocks. -/
theorem get_ne_book {w : World} {g q : Nat} {b : GBookBook} {x : GPromise} (h1 : get? GBookBook w ⟨g, 0, none⟩ = some b) (h2 : get? GPromise w ⟨q, 0, none⟩ = some x) : ¬ g = q := by
  intro e
  subst e
  have a := (get?_iff.1 h1) 0 _ rfl
  have b2 := (get?_iff.1 h2) 0 _ rfl
  rw [a] at b2
  cases b2
def x0P (i epoch time : Int) : GPromise := ⟨i, epoch, time, ⟨none, 0, 0⟩, default⟩
def keyP (i epoch : Int) (tm : Nat) : GBookSigned := ⟨i, strB (promiseText0 tm (x0P i epoch tm))⟩
set_option maxRecDepth 100000 in
set_option maxHeartbeats 2000000 in
theorem promise0_any (g m gb mb : Nat) (c : GConf) (i epoch last : Int) (tm : Nat) (B : MBook) (w : World) (h : TableIs w g m c i) (hb : BookIs w gb mb B) (he : 0 ≤ epoch) (he1 : epoch ≤ 1048576) (hl : last < (tm : Int)) (ht : tm < 18446744073709551615) (hi : i ≤ 1000000) (hB : B.length ≤ 1000000000) :
    Calls Tryz.prog 124 #[.pointer (some ⟨g, 0, none⟩), .pointer (some ⟨gb, 0, none⟩), .int .i64 epoch, .int .u64 last, .int .u64 (tm : Int)] w fun e w' =>
      e = .returned (.tuple #[GPromise.val ⟨i, epoch, tm, ⟨none, 0, 0⟩, ⟨i, markOf B (keyP i epoch tm)⟩⟩, .int .i64 0]) ∧ BookIs w' gb mb (signB B (keyP i epoch tm)) ∧ Chg (fun k => k = mb) w w' := by
  have HT := Lib.hid h; have HBK := Lib.hid hb
  have h2 : ¬ (tm : Int) ≤ last := by omega
  have h3 : ((tm : Int) == 18446744073709551615) = false := by rw [beq_eq_false_iff_ne]; omega
  have h4 : ¬ (1048576 : Int) < epoch := by omega
  have f0 := GLockTable.at_replica h.get
  simp only [Addr.add_lit, Nat.zero_add] at f0
  have hgl := get?_lt h.get
  have h5 : ¬ epoch < 0 := by omega
  simp only at hgl
  clear h hb
  go_enter Tryz.func124, Tryz.ntmps124
  go_wp2_with fail
  have c10 : get? GPromise ((w.alloc (.cells (GPromise.enc default).toArray 52)).alloc (.cells (GPromise.enc (x0P i epoch tm)).toArray 52)) ⟨w.heap.size, 0, none⟩ = some default := get?_alloc _ (get?_new _ _)
  have c12 : get? GPromise ((w.alloc (.cells (GPromise.enc default).toArray 52)).alloc (.cells (GPromise.enc (x0P i epoch tm)).toArray 52)) ⟨w.heap.size + 1, 0, none⟩ = some (x0P i epoch tm) := by
    have := get?_new (w := w.alloc (.cells (GPromise.enc default).toArray 52)) 52 (x0P i epoch tm)
    rwa [World.size_alloc] at this
  have b10 : blkFree ((w.alloc (.cells (GPromise.enc default).toArray 52)).alloc (.cells (GPromise.enc (x0P i epoch tm)).toArray 52)) w.heap.size = true := by rw [blkFree_past _ _ (by simp)]; exact blkFree_new _ _ rfl
  have b12 : blkFree ((w.alloc (.cells (GPromise.enc default).toArray 52)).alloc (.cells (GPromise.enc (x0P i epoch tm)).toArray 52)) (w.heap.size + 1) = true := blkFree_new _ _ (by simp)
  have HB := Lib.hid (((Bel.refl w).alloc (.cells (GPromise.enc default).toArray 52)).alloc (.cells (GPromise.enc (x0P i epoch tm)).toArray 52))
  obtain ⟨q, hq⟩ : ∃ q, w.heap.size = q := ⟨_, rfl⟩
  have HQ := Lib.hid hq
  rw [hq] at c10 c12 b10 b12 hgl ⊢
  change Calls _ _ _ ((w.alloc (.cells (GPromise.enc default).toArray 52)).alloc (.cells (GPromise.enc (x0P i epoch tm)).toArray 52)) _
  generalize (w.alloc (.cells (GPromise.enc default).toArray 52)).alloc (.cells (GPromise.enc (x0P i epoch tm)).toArray 52) = wb at c10 c12 b10 b12 HB ⊢
  refine (held0_any g m c i wb (HT.out.step HB.out)).mono ?_
  rintro _ w1 ⟨rfl, hb1⟩
  have HB1 := Lib.hid (HB.out.trans hb1)
  have C10 := Lib.hid (GB.get hb1 c10); have C12 := Lib.hid (GB.get hb1 c12)
  have B10 := Lib.hid ((blkFree_keep (Below.block hb1 _ (get?_lt c10))).trans b10); have B12 := Lib.hid ((blkFree_keep (Below.block hb1 _ (get?_lt c12))).trans b12)
  clear hb1 c10 c12 b10 b12 hq f0
  go_wp2_with fail
  go_loopw [43] (fun iv wr => iv = .int .i64 0 ∧ wr = w1) (fun _ _ => 0)
  case atStart => exact ⟨rfl, rfl⟩
  case round =>
    obtain ⟨rfl, rfl⟩ := hrel
    go_wp2_with fail
    have F0 := Lib.hid (show wr.cell? ⟨g, 2, none⟩ = some (.int .i64 i) by
      have := GLockTable.at_replica (HT.out.step HB1.out).get
      simp only [Addr.add_lit, Nat.zero_add] at this
      exact this)
    refine wp_region_G GB [7, 9] GB.rf (by kernel_rfl) ?_
    refine wpG_looks 4 10 [0, 1, 2, 3, 4, 5] rfl GB.rf GB.tr (by kernel_rfl) (fun _ _ _ _ hd h => And.intro (hd ▸ And.left h) (And.right h)) rfl (by kernel_rfl) ?_
    intro ι W hne CW
    have k0 : ∀ z, (W z).cell? ⟨g, 2, none⟩ = some (.int .i64 i) := fun z => GB.cell (CW.out z) F0.out
    have k1 : ∀ z, get? GPromise (W z) ⟨q + 1, 0, none⟩ = some (x0P i epoch tm) := fun z => GB.get (CW.out z) C12.out
    repeat (refine wpLooksG_step (fun K hK => ?_); go_simp; refine hK _ ?_; clear hK K)
    refine wpLooksG_nil ?_
    clear k0 k1 CW hne W ι
    refine wpG_force 6 _ rfl (by kernel_rfl) rfl fun wa hwa K hK => ?_
    go_simp
    refine (promiseText_any (x0P i epoch tm) wa (by show i ≤ _; omega) (by show epoch ≤ _; omega) tm rfl (by omega) rfl).mono ?_
    rintro _ wc ⟨A, cc, rfl, hs, hbc⟩
    refine hK _ _ (fun _ => hbc) ?_
    have HS := Lib.hid hs; have HBC := Lib.hid ((GB.undrew hwa).trans hbc)
    clear hK K hs hbc hwa
    obtain ⟨n, hn⟩ : ∃ n, (promiseText0 tm (x0P i epoch tm)).length = n := ⟨_, rfl⟩
    rw [hn] at HS ⊢
    clear hn
    refine wpG_force 7 _ rfl (by kernel_rfl) rfl fun wd hwd K hK => ?_
    go_simp
    refine (sign_any gb mb B i A n cc _ wd (HBK.out.step ((HB1.out.trans HBC.out).trans hwd)) (HS.out.stepB hwd) hB).mono ?_
    rintro _ we ⟨rfl, hbk, hce⟩
    refine hK _ _ (fun h => absurd (by simp) h) ?_
    have HBK2 := Lib.hid hbk
    have hq1m : q + 1 ≠ mb := by
      have := get_not_mapV (HBK.out.step HB1.out).2 C12.out
      exact this
    have hqm : q ≠ mb := get_not_mapV (HBK.out.step HB1.out).2 C10.out
    have hBD := HBC.out.trans hwd
    have C12e := Lib.hid (hce.get (GB.get hBD C12.out) hq1m)
    have B12e := Lib.hid (hce.free ((blkFree_keep (Below.block hBD _ (get?_lt C12.out))).trans B12.out) (get?_lt (GB.get hBD C12.out)) hq1m)
    have C10e := Lib.hid (hce.get (GB.get hBD C10.out) hqm)
    have B10e := Lib.hid (hce.free ((blkFree_keep (Below.block hBD _ (get?_lt C10.out))).trans B10.out) (get?_lt (GB.get hBD C10.out)) hqm)
    have HCE := Lib.hid (((Chg.of_bel (HB1.out.trans hBD) _).tr hce : Chg (fun k => k = mb) w we))
    clear hK K hbk hce hBD hwd HS HBC C10 C12 B10 B12 F0
    refine wpG_force 8 _ rfl (by kernel_rfl) rfl fun wf hwf K hK => ?_
    go_simp
    refine hK _ _ (fun _ => GB.rf _) ?_
    clear hK K
    refine wpG_force 9 _ rfl (by kernel_rfl) rfl fun wg hwg K hK => ?_
    have hbg := GB.tr _ _ _ hwf hwg
    have s12 := GB.get hbg C12e.out
    have sb12 := (blkFree_keep (Below.block hbg _ (get?_lt C12e.out))).trans B12e.out
    have ssig := GPromise.at_sig s12
    simp only [Addr.add_lit, Nat.zero_add] at ssig
    go_simp
    refine hK _ _ (fun h => absurd (by simp) h) ?_
    obtain ⟨mk, hmk⟩ : ∃ mk, markOf B ⟨i, strB (promiseText0 tm (x0P i epoch tm))⟩ = mk := ⟨_, rfl⟩
    have HMK := Lib.hid (show markOf B (keyP i epoch tm) = mk from hmk)
    rw [hmk]
    have t12 : get? GPromise (World.putCells wg ⟨q + 1, 4, none⟩ (GSig.enc ⟨i, mk⟩)) ⟨q + 1, 0, none⟩ = some ⟨i, epoch, tm, ⟨none, 0, 0⟩, ⟨i, mk⟩⟩ := get?_putSegV s12 (by show 4 + (GSig.enc _).length ≤ 6; rw [GSig.enc_len]; omega) rfl
    have hc9 : Chg (fun k => k = q + 1) wg (World.putCells wg ⟨q + 1, 4, none⟩ (GSig.enc ⟨i, mk⟩)) := chg_put (S := fun k => k = q + 1) rfl _
    have t10 := hc9.get (GB.get hbg C10e.out) (by show ¬ q = q + 1; omega)
    have tb10 := hc9.free ((blkFree_keep (Below.block hbg _ (get?_lt C10e.out))).trans B10e.out) (get?_lt (GB.get hbg C10e.out)) (by show ¬ q = q + 1; omega)
    have HBK3 := Lib.hid ((HBK2.out.step hbg).chg hc9 (get_ne_book HBK2.out.1 C12e.out) (fun e => hq1m e.symm))
    have HC9 := Lib.hid ((HCE.out.tr (Chg.of_bel hbg _)).sub (S' := fun k => k = mb ∨ k = q + 1) (fun k e => .inl e) |>.tr (hc9.sub (fun k e => .inr e)))
    generalize World.putCells wg ⟨q + 1, 4, none⟩ (GSig.enc ⟨i, mk⟩) = wh at t12 t10 tb10 HBK3 HC9 ⊢
    clear hK K hmk ssig sb12 s12 hc9 hbg hwg hwf HBK2 HCE C12e B12e C10e B10e
    refine wpG_end (by kernel_rfl) (fun wn hwn => ?_) _
    have u12 := GB.get hwn t12
    have u10 := GB.get hwn t10
    have ub10 := (blkFree_keep (Below.block hwn _ (get?_lt t10))).trans tb10
    have HBK4 := Lib.hid (HBK3.out.step hwn)
    have HC4 := Lib.hid (HC9.out.tr (Chg.of_bel hwn _))
    clear t12 t10 tb10 HBK3 HC9 hwn
    go_wp2_with fail
    have v10 : get? GPromise (World.putCells wn ⟨q, 0, none⟩ (GPromise.enc ⟨i, epoch, tm, ⟨none, 0, 0⟩, ⟨i, mk⟩⟩)) ⟨q, 0, none⟩ = some ⟨i, epoch, tm, ⟨none, 0, 0⟩, ⟨i, mk⟩⟩ := get?_putV _ u10
    have hcl : Chg (fun k => k = q) wn (World.putCells wn ⟨q, 0, none⟩ (GPromise.enc ⟨i, epoch, tm, ⟨none, 0, 0⟩, ⟨i, mk⟩⟩)) := chg_put (S := fun k => k = q) rfl _
    refine bodyPost_ret (results_cell_tmp (x := (⟨i, epoch, tm, ⟨none, 0, 0⟩, ⟨i, mk⟩⟩ : GPromise)) rfl rfl ag52 sz52 v10) rfl ⟨?_, ?_, ?_⟩
    · rw [HMK.out]
      simp only [GPromise.val_eq]
      rfl
    · exact HBK4.out.chg hcl (get_ne_book HBK4.out.1 u10) (fun e => hqm e.symm)
    · exact chg_new ((HC4.out.sub (fun k e => by rcases e with e | e; exact .inl e; right; rw [HQ.out]; omega)).tr (hcl.sub (fun k e => by right; rw [HQ.out]; omega)))
end Go.Proofs.YthkifibmihijaaaGreatDoor
