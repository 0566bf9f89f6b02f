/- A replica started again. Conditions: those named in each theorem. -/
import Derived.Test.YthkifibmihijaaaGreatDoorP5
import Derived.Test.YthkifibmihijaaaGreatDoorP7
import Derived.Test.YthkifibmihijaaaGreatDoorP8
import Derived.Test.YthkifibmihijaaaGreatDoorP6
import Derived.Deep.CutBlock
import Derived.LaidEqlPtr
/- A replica in memory, while nothing was decided. Conditions: those named in each theorem. -/
namespace Go.Proofs.YthkifibmihijaaaGreatDoor
open Go Go.RowKit Go.Gv Go.Proofs

/-- What a replica holds, while its log is empty and no certificate, opening or proposal has come. -/
structure RSt where
  c : GConf
  id : Int
  started : Bool
  now : Int
  floor : Int
  last : Int
  stamps : List (GName × GStamp)
  s : GCoreState
  b1 : Bool
  b2 : Bool
  b3 : Bool
  H : List (GTallyVoter × Bool)
  A : List (GTallyTurn × Int)
  L : List (Int × Int)
  timers : List GReplicaTimer
  asks : Bool
  askRound : Int
  askTime : Int
  promises : List GPromise
  pv : Option (Nat × GVote)
  ho : Hdr
  out : List GMsg
  book : MBook
def ptrV (o : Option (Nat × GVote)) : Option Addr := o.map fun p => ⟨p.1, 0, none⟩
/-- The blocks that are written are unlike all the others. -/
def Apart (B : Nat → Nat) : Prop := ∀ i j, i < 20 → j < 20 → i ≠ j → (i = 0 ∨ i = 2 ∨ i = 3 ∨ i = 11 ∨ i = 12) → B i ≠ B j
def repG (B : Nat → Nat) (x : RSt) (a : Option Addr) : GReplicaReplica :=
  ⟨x.c, x.id, some ⟨B 1, 0, none⟩, x.started, some ⟨B 3, 0, none⟩, some ⟨B 5, 0, none⟩, some ⟨B 7, 0, none⟩, some ⟨B 9, 0, none⟩, a, some ⟨B 11, 0, none⟩, ⟨none, 0, 0⟩, ⟨none, 0, 0⟩, x.ho⟩
def epG (B : Nat → Nat) (x : RSt) (bm : Nat) (ht hp : Hdr) : GReplicaEpoch :=
  ⟨some ⟨B 12, 0, none⟩, some bm, some (B 19), ht, x.asks, x.askRound, x.askTime, hp, none, ptrV x.pv, none⟩
structure Slices (w0 w : World) (B : Nat → Nat) (x : RSt) (ht hp : Hdr) : Prop where
  out : OwnS w w0.heap.size 73 x.ho.val x.out
  timers : OwnS w w0.heap.size 144 ht.val x.timers
  proms : OwnS w w0.heap.size 52 hp.val x.promises
  no : ∀ j < 20, x.ho.val.ownBlock ≠ some (B j)
  nt : ∀ j < 20, ht.val.ownBlock ≠ some (B j)
  np : ∀ j < 20, hp.val.ownBlock ≠ some (B j)
  ot : ∀ k, x.ho.val.ownBlock = some k → ht.val.ownBlock ≠ some k ∧ hp.val.ownBlock ≠ some k
  tp : ∀ k, ht.val.ownBlock = some k → hp.val.ownBlock ≠ some k
  pv : ∀ p, x.pv = some p → get? GVote w ⟨p.1, 0, none⟩ = some p.2 ∧ w0.heap.size ≤ p.1 ∧ (∀ j < 20, p.1 ≠ B j) ∧ x.ho.val.ownBlock ≠ some p.1 ∧ ht.val.ownBlock ≠ some p.1 ∧ hp.val.ownBlock ≠ some p.1
structure RepIs (w0 w : World) (B : Nat → Nat) (x : RSt) : Prop where
  bel : Bel w0 w
  new : ∀ j < 20, w0.heap.size ≤ B j
  lt : ∀ j < 20, B j < w.heap.size
  apart : Apart B
  book : BookIs w (B 1) (B 2) x.book
  st : StampIs w (B 3) (B 4) x.c x.id x.now x.floor x.last x.stamps
  tb : TableIs w (B 5) (B 6) x.c x.id
  led : LedIs w (B 7) (B 8)
  rev : RevIs w (B 9) (B 10) x.c x.id
  core : CoreIs w (B 12) (B 13) (B 14) (B 20) (B 16) (B 17) (B 18) x.c 0 x.id x.s x.b1 x.b2 x.b3 x.H x.A x.L
  pre : mapAt GReplicaVoter GVote w (B 19) = some []
  more : ∃ (a : Option Addr) (bm : Nat) (ht hp : Hdr), get? GReplicaReplica w ⟨B 0, 0, none⟩ = some (repG B x a) ∧ blkFree w (B 0) = true ∧ get? GReplicaEpoch w ⟨B 11, 0, none⟩ = some (epG B x bm ht hp) ∧ blkFree w (B 11) = true ∧ Slices w0 w B x ht hp
section
variable {w0 w w' : World} {B : Nat → Nat} {x : RSt} {ht hp : Hdr}
theorem Slices.chg {S : Nat → Prop} (h : Slices w0 w B x ht hp) (hc : Chg S w w') (h1 : ∀ k, x.ho.val.ownBlock = some k → ¬ S k) (h2 : ∀ k, ht.val.ownBlock = some k → ¬ S k) (h3 : ∀ k, hp.val.ownBlock = some k → ¬ S k) (h4 : ∀ p, x.pv = some p → ¬ S p.1) : Slices w0 w' B x ht hp :=
  ⟨h.out.chg hc h1, h.timers.chg hc h2, h.proms.chg hc h3, h.no, h.nt, h.np, h.ot, h.tp, fun p e => ⟨hc.get (h.pv p e).1 (h4 p e), (h.pv p e).2⟩⟩
theorem Slices.with {y : RSt} (h : Slices w0 w B x ht hp) (e1 : y.out = x.out) (e2 : y.timers = x.timers) (e3 : y.promises = x.promises) (e4 : y.pv = x.pv) (e5 : y.ho = x.ho) : Slices w0 w B y ht hp := by
  obtain ⟨g1, g2, g3, g4, g5, g6, g7, g8, g9⟩ := h
  exact ⟨by rw [e5, e1]; exact g1, e2 ▸ g2, e3 ▸ g3, by rw [e5]; exact g4, g5, g6, by rw [e5]; exact g7, g8, by rw [e5, e4]; exact g9⟩
theorem Slices.one {i : Nat} (h : Slices w0 w B x ht hp) (hc : Chg (fun k => k = B i) w w') (hi : i < 20) : Slices w0 w' B x ht hp :=
  h.chg hc (fun k e he => h.no i hi (by rw [e, he])) (fun k e he => h.nt i hi (by rw [e, he])) (fun k e he => h.np i hi (by rw [e, he])) (fun p e he => (h.pv p e).2.2.1 i hi he)
theorem RepIs.step (h : RepIs w0 w B x) (hb : Bel w w') : RepIs w0 w' B x := by
  obtain ⟨a, bm, ht, hp, h1, h2, h3, h4, h5⟩ := h.more
  have hc : Chg (fun _ => False) w w' := Chg.of_bel hb _
  exact ⟨h.bel.trans hb, h.new, fun j hj => Nat.lt_of_lt_of_le (h.lt j hj) hc.size, h.apart, h.book.step hb, h.st.step hb, h.tb.step hb, h.led.step hb, h.rev.step hb, h.core.step hb, hc.map h.pre id, a, bm, ht, hp, GB.get hb h1, hc.free h2 (get?_lt h1) id, GB.get hb h3, hc.free h4 (get?_lt h3) id, h5.chg hc (fun _ _ h => h) (fun _ _ h => h) (fun _ _ h => h) (fun _ _ h => h)⟩
/-- What one written block's change leaves alone. -/
theorem RepIs.ne (h : RepIs w0 w B x) {i : Nat} (hi : i = 0 ∨ i = 2 ∨ i = 3 ∨ i = 11 ∨ i = 12) (j : Nat) (hj : j < 20) (hne : j ≠ i) : ¬ B j = B i :=
  fun e => h.apart i j (by rcases hi with rfl | rfl | rfl | rfl | rfl <;> omega) hj (fun e => hne e.symm) hi e.symm
theorem RepIs.withBook (h : RepIs w0 w B x) {b : MBook} (hb : BookIs w' (B 1) (B 2) b) (hc : Chg (fun k => k = B 2) w w') : RepIs w0 w' B { x with book := b } := by
  obtain ⟨a, bm, ht, hp, h1, h2, h3, h4, h5⟩ := h.more
  have n := h.ne (i := 2) (by omega)
  exact ⟨Chg.bel2 h.bel hc (fun k e => e ▸ h.new 2 (by omega)), h.new, fun j hj => Nat.lt_of_lt_of_le (h.lt j hj) hc.size, h.apart, hb, h.st.chg hc (n 3 (by omega) (by omega)) (n 4 (by omega) (by omega)), h.tb.chg hc (n 5 (by omega) (by omega)) (n 6 (by omega) (by omega)), h.led.chg hc (n 7 (by omega) (by omega)) (n 8 (by omega) (by omega)),
    h.rev.chg hc (n 9 (by omega) (by omega)) (n 10 (by omega) (by omega)), h.core.chg hc (n 12 (by omega) (by omega)) (n 13 (by omega) (by omega)) (n 18 (by omega) (by omega)) (n 14 (by omega) (by omega)) (n 16 (by omega) (by omega)) (n 17 (by omega) (by omega)), hc.map h.pre (n 19 (by omega) (by omega)),
    a, bm, ht, hp, hc.get h1 (n 0 (by omega) (by omega)), hc.free h2 (get?_lt h1) (n 0 (by omega) (by omega)), hc.get h3 (n 11 (by omega) (by omega)), hc.free h4 (get?_lt h3) (n 11 (by omega) (by omega)), (h5.one hc (by omega)).with rfl rfl rfl rfl rfl⟩
theorem RepIs.withOut (h : RepIs w0 w B x) {ho : Hdr} {l : List GMsg} (hc : Chg (fun k => k = B 0 ∨ x.ho.val.ownBlock = some k) w w') (hg : ∀ a, get? GReplicaReplica w ⟨B 0, 0, none⟩ = some (repG B x a) → get? GReplicaReplica w' ⟨B 0, 0, none⟩ = some (repG B { x with ho := ho } a)) (hf : blkFree w' (B 0) = true) (ho1 : OwnS w' w0.heap.size 73 ho.val l)
    (hb : ho.val.ownBlock = none ∨ ho.val.ownBlock = x.ho.val.ownBlock ∨ ∃ k, ho.val.ownBlock = some k ∧ w.heap.size ≤ k) : RepIs w0 w' B { x with ho := ho, out := l } := by
  obtain ⟨a, bm, ht, hp, h1, h2, h3, h4, h5⟩ := h.more
  have n := fun (j : Nat) (hj : j < 20) (hne : j ≠ 0) => show ¬ (B j = B 0 ∨ x.ho.val.ownBlock = some (B j)) from fun e => e.elim (h.ne (i := 0) (by omega) j hj hne) (h5.no j hj)
  have hnew : ∀ k, (k = B 0 ∨ x.ho.val.ownBlock = some k) → w0.heap.size ≤ k := fun k e => e.elim (fun e => e ▸ h.new 0 (by omega)) (fun e => (h5.out.lt k e).1)
  refine ⟨Chg.bel2 h.bel hc hnew, h.new, fun j hj => Nat.lt_of_lt_of_le (h.lt j hj) hc.size, h.apart, h.book.chg hc (n 1 (by omega) (by omega)) (n 2 (by omega) (by omega)), h.st.chg hc (n 3 (by omega) (by omega)) (n 4 (by omega) (by omega)), h.tb.chg hc (n 5 (by omega) (by omega)) (n 6 (by omega) (by omega)), h.led.chg hc (n 7 (by omega) (by omega)) (n 8 (by omega) (by omega)),
    h.rev.chg hc (n 9 (by omega) (by omega)) (n 10 (by omega) (by omega)), h.core.chg hc (n 12 (by omega) (by omega)) (n 13 (by omega) (by omega)) (n 18 (by omega) (by omega)) (n 14 (by omega) (by omega)) (n 16 (by omega) (by omega)) (n 17 (by omega) (by omega)), hc.map h.pre (n 19 (by omega) (by omega)),
    a, bm, ht, hp, hg a h1, hf, hc.get h3 (n 11 (by omega) (by omega)), hc.free h4 (get?_lt h3) (n 11 (by omega) (by omega)), ?_⟩
  have ot : ∀ k, x.ho.val.ownBlock = some k → ht.val.ownBlock ≠ some k ∧ hp.val.ownBlock ≠ some k := h5.ot
  refine ⟨ho1, h5.timers.chg hc ?_, h5.proms.chg hc ?_, ?_, h5.nt, h5.np, ?_, h5.tp, fun p e => ?_⟩
  · intro k e e2
    rcases e2 with e2 | e2
    · exact h5.nt 0 (by omega) (by rw [e, e2])
    · exact (ot k e2).1 e
  · intro k e e2
    rcases e2 with e2 | e2
    · exact h5.np 0 (by omega) (by rw [e, e2])
    · exact (ot k e2).2 e
  · intro j hj e
    change ho.val.ownBlock = some (B j) at e
    rcases hb with hb | hb | ⟨k, hk, hlt⟩
    · rw [hb] at e; cases e
    · rw [hb] at e; exact h5.no j hj e
    · rw [hk] at e; injection e with e; have := h.lt j hj; omega
  · intro k e
    change ho.val.ownBlock = some k at e
    rcases hb with hb | hb | ⟨k', hk, hlt⟩
    · rw [hb] at e; cases e
    · rw [hb] at e; exact ot k e
    · rw [hk] at e; injection e with e; subst e
      exact ⟨fun e => by have := (h5.timers.lt _ e).2; omega, fun e => by have := (h5.proms.lt _ e).2; omega⟩
  · obtain ⟨p1, p2, p3, p4, p5, p6⟩ := h5.pv p e
    refine ⟨hc.get p1 ?_, p2, p3, ?_, p5, p6⟩
    · rintro (e | e)
      · exact p3 0 (by omega) e
      · exact p4 e
    · intro e
      change ho.val.ownBlock = some p.1 at e
      rcases hb with hb | hb | ⟨k', hk, hlt⟩
      · rw [hb] at e; cases e
      · rw [hb] at e; exact p4 e
      · rw [hk] at e; injection e with e; have := get?_lt p1; simp only at this; omega
theorem RepIs.withStamp (h : RepIs w0 w B x) {now floor last : Int} {l : List (GName × GStamp)} (hs : StampIs w' (B 3) (B 4) x.c x.id now floor last l) (hc : Chg (fun k => k = B 3) w w') : RepIs w0 w' B { x with now := now, floor := floor, last := last, stamps := l } := by
  obtain ⟨a, bm, ht, hp, h1, h2, h3, h4, h5⟩ := h.more
  have n := h.ne (i := 3) (by omega)
  exact ⟨Chg.bel2 h.bel hc (fun k e => e ▸ h.new 3 (by omega)), h.new, fun j hj => Nat.lt_of_lt_of_le (h.lt j hj) hc.size, h.apart, h.book.chg hc (n 1 (by omega) (by omega)) (n 2 (by omega) (by omega)), hs, h.tb.chg hc (n 5 (by omega) (by omega)) (n 6 (by omega) (by omega)), h.led.chg hc (n 7 (by omega) (by omega)) (n 8 (by omega) (by omega)),
    h.rev.chg hc (n 9 (by omega) (by omega)) (n 10 (by omega) (by omega)), h.core.chg hc (n 12 (by omega) (by omega)) (n 13 (by omega) (by omega)) (n 18 (by omega) (by omega)) (n 14 (by omega) (by omega)) (n 16 (by omega) (by omega)) (n 17 (by omega) (by omega)), hc.map h.pre (n 19 (by omega) (by omega)),
    a, bm, ht, hp, hc.get h1 (n 0 (by omega) (by omega)), hc.free h2 (get?_lt h1) (n 0 (by omega) (by omega)), hc.get h3 (n 11 (by omega) (by omega)), hc.free h4 (get?_lt h3) (n 11 (by omega) (by omega)), (h5.one hc (by omega)).with rfl rfl rfl rfl rfl⟩
theorem RepIs.withCore (h : RepIs w0 w B x) {s : GCoreState} {b1 b2 b3 : Bool} {H : List (GTallyVoter × Bool)} {A : List (GTallyTurn × Int)} {L : List (Int × Int)} (hs : CoreIs w' (B 12) (B 13) (B 14) (B 20) (B 16) (B 17) (B 18) x.c 0 x.id s b1 b2 b3 H A L) (hc : Chg (fun k => k = B 12) w w') : RepIs w0 w' B { x with s := s, b1 := b1, b2 := b2, b3 := b3, H := H, A := A, L := L } := by
  obtain ⟨a, bm, ht, hp, h1, h2, h3, h4, h5⟩ := h.more
  have n := h.ne (i := 12) (by omega)
  exact ⟨Chg.bel2 h.bel hc (fun k e => e ▸ h.new 12 (by omega)), h.new, fun j hj => Nat.lt_of_lt_of_le (h.lt j hj) hc.size, h.apart, h.book.chg hc (n 1 (by omega) (by omega)) (n 2 (by omega) (by omega)), h.st.chg hc (n 3 (by omega) (by omega)) (n 4 (by omega) (by omega)), h.tb.chg hc (n 5 (by omega) (by omega)) (n 6 (by omega) (by omega)), h.led.chg hc (n 7 (by omega) (by omega)) (n 8 (by omega) (by omega)),
    h.rev.chg hc (n 9 (by omega) (by omega)) (n 10 (by omega) (by omega)), hs, hc.map h.pre (n 19 (by omega) (by omega)),
    a, bm, ht, hp, hc.get h1 (n 0 (by omega) (by omega)), hc.free h2 (get?_lt h1) (n 0 (by omega) (by omega)), hc.get h3 (n 11 (by omega) (by omega)), hc.free h4 (get?_lt h3) (n 11 (by omega) (by omega)), (h5.one hc (by omega)).with rfl rfl rfl rfl rfl⟩
end
end Go.Proofs.YthkifibmihijaaaGreatDoor
/- A replica's own small functions; what it says. Conditions: those named in each theorem. -/
namespace Go.Proofs.YthkifibmihijaaaGreatDoor
open Go Go.RowKit Go.Gv Go.Proofs

theorem rep_out (x : GReplicaReplica) (h : Hdr) : Enc.enc ({ x with out := h } : GReplicaReplica) = (Enc.enc x).set 13 (.slice h.a h.len h.cap) := by
  show GReplicaReplica.enc _ = (GReplicaReplica.enc _).set _ _
  simp [GReplicaReplica.enc, List.set_append, GConf.enc_len, Hdr.val]
theorem own_sliceV {A : Option Addr} {n c : Nat} : (Value.slice A n c).ownBlock = none ∨ ∃ ad, A = some ad ∧ (Value.slice A n c).ownBlock = some ad.block := by
  cases A with
  | none => exact .inl rfl
  | some ad => exact .inr ⟨ad, rfl, rfl⟩
theorem rep_other {w : World} {B : Nat → Nat} {x : RSt} {w0 : World} (h : RepIs w0 w B x) : blkFree w (B 0) = true ∧ ∃ a, get? GReplicaReplica w ⟨B 0, 0, none⟩ = some (repG B x a) := by
  obtain ⟨a, _, _, _, h1, h2, _⟩ := h.more
  exact ⟨h2, a, h1⟩
theorem rep_own {w : World} {B : Nat → Nat} {x : RSt} {w0 : World} (h : RepIs w0 w B x) : OwnS w w0.heap.size 73 x.ho.val x.out ∧ ∀ j < 20, x.ho.val.ownBlock ≠ some (B j) := by
  obtain ⟨_, _, _, _, _, _, _, _, h5⟩ := h.more
  exact ⟨h5.out, h5.no⟩
set_option maxRecDepth 100000 in
set_option maxHeartbeats 1000000 in
theorem told_any (w0 : World) (B : Nat → Nat) (x : RSt) (w : World) (h : RepIs w0 w B x) : Calls Tryz.prog 25 #[.pointer (some ⟨B 0, 0, none⟩)] w fun e w' =>
    e = .returned (.slice x.ho.a x.ho.len x.ho.cap) ∧ RepIs w0 w' B { x with ho := nilH, out := [] } ∧ OwnS w' w0.heap.size 73 x.ho.val x.out ∧ Chg (fun k => k = B 0) w w' := by
  have HH := Lib.hid h
  obtain ⟨hfr, a, hg⟩ := rep_other h
  have HG := Lib.hid hg; have HF := Lib.hid hfr
  have f0 := GReplicaReplica.at_out hg
  simp only [Addr.add_lit, Nat.zero_add] at f0
  change w.cell? ⟨B 0, 13, none⟩ = some (.slice x.ho.a x.ho.len x.ho.cap) at f0
  have hfz := frozen_of_free (a := ⟨B 0, 13, none⟩) hfr
  clear h hg hfr
  go_enter Tryz.func25, Tryz.ntmps25
  go_wp2_with fail
  go_ret
  have hc : Chg (fun k => k = B 0) w (w.setCell ⟨B 0, 13, none⟩ (.slice none 0 0)) := chg_cell (S := fun k => k = B 0) rfl _
  refine ⟨rfl, ?_, ?_, hc⟩
  · refine HH.out.withOut (ho := nilH) (l := []) (hc.sub (fun k e => .inl e)) (fun a ha => get?_poke ha (rep_out (repG B x a) nilH)) (by rw [blkFree_setCell]; exact HF.out) (OwnS.nil _ _ _) (.inl rfl)
  · exact (rep_own HH.out).1.chg hc (fun k e he => (rep_own HH.out).2 0 (by omega) (by rw [e, he]))
set_option maxRecDepth 100000 in
set_option maxHeartbeats 1000000 in
theorem repNow_any (w0 : World) (B : Nat → Nat) (x : RSt) (w : World) (h : RepIs w0 w B x) : Calls Tryz.prog 9 #[.pointer (some ⟨B 0, 0, none⟩)] w fun e w' =>
    e = .returned (.int .u64 x.now) ∧ w' = w := by
  have HH := Lib.hid h
  obtain ⟨hfr, a, hg⟩ := rep_other h
  have f0 := GReplicaReplica.at_s hg
  simp only [Addr.add_lit, Nat.zero_add] at f0
  change w.cell? ⟨B 0, 5, none⟩ = some (.pointer (some ⟨B 3, 0, none⟩)) at f0
  clear h hg hfr
  go_enter Tryz.func9, Tryz.ntmps9
  go_wp2_with fail
  refine (now_any (B 3) (B 4) x.c x.id x.now x.floor x.last x.stamps w HH.out.st).mono ?_
  rintro _ wa ⟨rfl, rfl⟩
  go_wp2_with fail
  go_ret
  exact ⟨rfl, rfl⟩
theorem ep_get {w : World} {B : Nat → Nat} {x : RSt} {w0 : World} (h : RepIs w0 w B x) : blkFree w (B 11) = true ∧ ∃ bm ht hp, get? GReplicaEpoch w ⟨B 11, 0, none⟩ = some (epG B x bm ht hp) := by
  obtain ⟨_, bm, ht, hp, _, _, h3, h4, _⟩ := h.more
  exact ⟨h4, bm, ht, hp, h3⟩
theorem rep_cells {w0 w : World} {B : Nat → Nat} {x : RSt} (h : RepIs w0 w B x) : w.cell? ⟨B 0, 2, none⟩ = some (.int .i64 x.id) ∧ w.cell? ⟨B 0, 3, none⟩ = some (.pointer (some ⟨B 1, 0, none⟩)) ∧ w.cell? ⟨B 0, 4, none⟩ = some (.bool x.started) ∧
    w.cell? ⟨B 0, 5, none⟩ = some (.pointer (some ⟨B 3, 0, none⟩)) ∧ w.cell? ⟨B 0, 6, none⟩ = some (.pointer (some ⟨B 5, 0, none⟩)) ∧ w.cell? ⟨B 0, 7, none⟩ = some (.pointer (some ⟨B 7, 0, none⟩)) ∧ w.cell? ⟨B 0, 8, none⟩ = some (.pointer (some ⟨B 9, 0, none⟩)) ∧
    w.cell? ⟨B 0, 10, none⟩ = some (.pointer (some ⟨B 11, 0, none⟩)) ∧ w.cell? ⟨B 0, 13, none⟩ = some (.slice x.ho.a x.ho.len x.ho.cap) ∧ get? GConf w ⟨B 0, 0, none⟩ = some x.c := by
  obtain ⟨hfr, a, hg⟩ := rep_other h
  have f0 := GReplicaReplica.at_id hg
  have f1 := GReplicaReplica.at_b hg
  have f2 := GReplicaReplica.at_started hg
  have f3 := GReplicaReplica.at_s hg
  have f4 := GReplicaReplica.at_t hg
  have f5 := GReplicaReplica.at_l hg
  have f6 := GReplicaReplica.at_v hg
  have f7 := GReplicaReplica.at_e hg
  have f8 := GReplicaReplica.at_out hg
  have f9 := GReplicaReplica.at_c hg
  simp only [Addr.add_lit, Nat.zero_add] at f0 f1 f2 f3 f4 f5 f6 f7 f8 f9
  exact ⟨f0, f1, f2, f3, f4, f5, f6, f7, f8, f9⟩
theorem ep_cells {w0 w : World} {B : Nat → Nat} {x : RSt} (h : RepIs w0 w B x) : w.cell? ⟨B 11, 0, none⟩ = some (.pointer (some ⟨B 12, 0, none⟩)) ∧ w.cell? ⟨B 11, 4, none⟩ = some (.bool x.asks) ∧ w.cell? ⟨B 11, 5, none⟩ = some (.int .i64 x.askRound) ∧
    w.cell? ⟨B 11, 6, none⟩ = some (.int .u64 x.askTime) := by
  obtain ⟨hfr, bm, ht, hp, hg⟩ := ep_get h
  have f0 := GReplicaEpoch.at_k hg
  have f1 := GReplicaEpoch.at_asks hg
  have f2 := GReplicaEpoch.at_askRound hg
  have f3 := GReplicaEpoch.at_askTime hg
  simp only [Addr.add_lit, Nat.zero_add] at f0 f1 f2 f3
  exact ⟨f0, f1, f2, f3⟩
set_option maxRecDepth 100000 in
set_option maxHeartbeats 1000000 in
theorem repCore_any (w0 : World) (B : Nat → Nat) (x : RSt) (w : World) (h : RepIs w0 w B x) : Calls Tryz.prog 14 #[.pointer (some ⟨B 0, 0, none⟩)] w fun e w' =>
    e = .returned x.s.val ∧ Bel w w' := by
  have HH := Lib.hid h
  have hb0 := (Bel.refl w).alloc (.cells (GCoreState.enc default).toArray 83)
  have h2 := h.step hb0
  have hgn := get?_new (w := w) 83 (default : GCoreState)
  have hbf : blkFree (w.alloc (.cells (GCoreState.enc default).toArray 83)) w.heap.size = true := blkFree_new _ _ rfl
  go_enter Tryz.func14, Tryz.ntmps14
  go_upto_region 1 with fail
  obtain ⟨q, hq⟩ : ∃ q, w.heap.size = q := ⟨_, rfl⟩
  have HQ := Lib.hid hq
  rw [hq] at hgn hbf ⊢
  generalize w.alloc (.cells (GCoreState.enc default).toArray 83) = wa at hb0 h2 hgn hbf ⊢
  have k0 := (rep_cells h2).2.2.2.2.2.2.2.1
  have k1 := (ep_cells h2).1
  have H2 := Lib.hid h2; have HB0 := Lib.hid hb0; have HGN := Lib.hid hgn; have HBF := Lib.hid hbf
  clear h h2 hb0 hgn hbf hq
  go_wp2_with fail
  refine (state_any (B 12) (B 13) (B 14) (B 20) (B 16) (B 17) (B 18) x.c 0 x.id x.s x.b1 x.b2 x.b3 x.H x.A x.L wa H2.out.core).mono ?_
  rintro _ wb ⟨rfl, hbb⟩
  have g2 := GB.get hbb HGN.out
  have b2 := (blkFree_keep (Below.block hbb _ (get?_lt HGN.out))).trans HBF.out
  have HBB := Lib.hid hbb
  clear hbb
  go_wp2_with fail
  refine bodyPost_ret (results_cell (x := x.s) rfl rfl ag83 sz83 (get?_putV _ g2)) rfl ⟨?_, ?_⟩
  · simp only [GCoreState.val_eq]
  · exact (((Chg.of_bel (HB0.out.trans HBB.out) (fun k => k = q)).tr (chg_put (S := fun k => k = q) rfl _))).bel (fun k e => by rw [HQ.out]; omega)
set_option maxRecDepth 100000 in
set_option maxHeartbeats 1000000 in
theorem round_any (w0 : World) (B : Nat → Nat) (x : RSt) (w : World) (h : RepIs w0 w B x) : Calls Tryz.prog 74 #[.pointer (some ⟨B 0, 0, none⟩)] w fun e w' =>
    e = .returned (.int .i64 x.s.round) ∧ Bel w w' := by
  have HH := Lib.hid h
  have k0 := (rep_cells h).2.2.2.2.2.2.2.1
  have k1 := (ep_cells h).1
  clear h
  go_enter Tryz.func74, Tryz.ntmps74
  go_wp2_with fail
  refine (state_any (B 12) (B 13) (B 14) (B 20) (B 16) (B 17) (B 18) x.c 0 x.id x.s x.b1 x.b2 x.b3 x.H x.A x.L w HH.out.core).mono ?_
  rintro _ wb ⟨rfl, hbb⟩
  have HBB := Lib.hid hbb
  clear hbb
  go_wp2_with fail
  go_ret
  exact ⟨rfl, HBB.out⟩
end Go.Proofs.YthkifibmihijaaaGreatDoor
/- A replica's say: a message to one. Conditions: those named in each theorem. -/
namespace Go.Proofs.YthkifibmihijaaaGreatDoor
open Go Go.RowKit Go.Gv Go.Proofs

theorem msg_from (x : GMsg) (v : Int) : Enc.enc ({ x with from_ := v } : GMsg) = (Enc.enc x).set 1 (.int .i64 v) := rfl
theorem msg_to (x : GMsg) (v : Int) : Enc.enc ({ x with «to» := v } : GMsg) = (Enc.enc x).set 2 (.int .i64 v) := rfl
def sent (id tq : Int) (m : GMsg) : GMsg := { { m with from_ := id } with «to» := tq }
theorem plain_sent {m : GMsg} (h : PlainM m) (id tq : Int) : PlainM (sent id tq m) := ⟨h.c, h.p, h.o, h.b, h.d, h.v⟩
set_option maxRecDepth 100000 in
set_option maxHeartbeats 4000000 in
theorem say_any (w0 : World) (B : Nat → Nat) (x : RSt) (m : GMsg) (tq : Int) (w : World) (h : RepIs w0 w B x) (hm : PlainM m) (hl : x.out.length ≤ 1000000) : Calls Tryz.prog 55 #[.pointer (some ⟨B 0, 0, none⟩), Value.int .i64 tq, m.val] w fun e w' =>
    e = .returned (.tuple #[]) ∧ ∃ ho, RepIs w0 w' B { x with ho := ho, out := x.out ++ [sent x.id tq m] } ∧ Chg (fun k => k = B 0 ∨ x.ho.val.ownBlock = some k) w w' ∧ (ho.val.ownBlock = none ∨ ho.val.ownBlock = x.ho.val.ownBlock ∨ ∃ k, ho.val.ownBlock = some k ∧ w.heap.size ≤ k) := by
  have HH := Lib.hid h; have HM := Lib.hid (plain_sent hm x.id tq); have HL := Lib.hid hl
  have h1 := h.step ((Bel.refl w).alloc (.cells (GMsg.enc m).toArray 73))
  have k0 := (rep_cells h1).1
  have c1 : get? GMsg (w.alloc (.cells (GMsg.enc m).toArray 73)) ⟨w.heap.size, 0, none⟩ = some m := get?_new _ _
  have b1 : blkFree (w.alloc (.cells (GMsg.enc m).toArray 73)) w.heap.size = true := blkFree_new _ _ rfl
  have hz1 := frozen_of_free (a := ⟨w.heap.size, 1, none⟩) b1
  have hz2 := frozen_of_free (a := ⟨w.heap.size, 2, none⟩) b1
  clear h hm hl h1
  go_enter Tryz.func55, Tryz.ntmps55
  go_upto_region 2 with fail
  have ee : (m.enc.set 1 (.int .i64 x.id)).set 2 (.int .i64 tq) = GMsg.enc (sent x.id tq m) := rfl
  rw [ee]
  have c2 : get? GMsg (w.alloc (.cells (GMsg.enc (sent x.id tq m)).toArray 73)) ⟨w.heap.size, 0, none⟩ = some (sent x.id tq m) := get?_new _ _
  have hbe : Bel w (w.alloc (.cells (GMsg.enc (sent x.id tq m)).toArray 73)) := (Bel.refl w).alloc _
  clear ee
  clear k0 c1 b1 hz1 hz2
  obtain ⟨q, hq⟩ : ∃ q, w.heap.size = q := ⟨_, rfl⟩
  have HQ := Lib.hid hq
  rw [hq] at c2 ⊢
  generalize w.alloc (.cells (GMsg.enc (sent x.id tq m)).toArray 73) = wa at c2 hbe ⊢
  have C2 := Lib.hid c2; have HBE := Lib.hid hbe
  clear c2 hbe hq
  obtain ⟨M, hM⟩ : ∃ M, sent x.id tq m = M := ⟨_, rfl⟩
  rw [hM] at C2 HM
  have HMM := Lib.hid hM
  clear hM
  have HR := Lib.hid (HH.out.step HBE.out)
  have hoq : ¬ x.ho.val.ownBlock = some q := fun e => by have := ((rep_own HH.out).1.lt q e).2; have := HQ.out; omega
  have hob : ∀ j < 20, ¬ x.ho.val.ownBlock = some (B j) := (rep_own HH.out).2
  have HOQ := Lib.hid hoq; have HOB := Lib.hid hob
  clear hoq hob
  refine wp_region_H GB (Chg (fun k => x.ho.val.ownBlock = some k)) [8, 11] [11] GB.rf (by kernel_rfl) ?_
  refine wpH_looks 6 12 [0, 1, 2, 3, 4, 5] rfl GB.rf GB.tr (Chg.refl _) (fun _ _ _ => Chg.tr) (fun _ _ h => Chg.of_bel h _) (by kernel_rfl) (fun _ _ _ _ hd h => And.intro (hd ▸ And.left h) (And.right h)) rfl (by kernel_rfl) ?_
  intro ι W hne CW
  have k0 : ∀ z, (W z).cell? ⟨B 0, 13, none⟩ = some (.slice x.ho.a x.ho.len x.ho.cap) := fun z => (CW.out z).cell (rep_cells HR.out).2.2.2.2.2.2.2.2.1 (HOB.out 0 (by omega))
  have k1 : ∀ z, get? GMsg (W z) ⟨q, 0, none⟩ = some M := fun z => (CW.out z).get C2.out HOQ.out
  repeat (refine wpLooksG_step (fun K hK => ?_); go_simp; refine hK _ ?_; clear hK K)
  refine wpLooksG_nil ?_
  clear k0 k1 CW hne W ι
  refine wpH_force 6 _ rfl (by kernel_rfl) rfl fun w6 hw6 K hK => ?_
  go_simp
  refine (copy0_any M w6 HM.out).mono ?_
  rintro _ wc ⟨rfl, hbc⟩
  refine hK _ _ (fun _ => hbc) (fun _ => Chg.of_bel hbc _) ?_
  have HBC := Lib.hid (HBE.out.trans ((GB.undrew hw6).trans hbc))
  clear hK K hbc hw6
  refine wpH_force 7 _ rfl (by kernel_rfl) rfl fun w7 hw7 K hK => ?_
  go_simp
  refine hK _ _ (fun _ => GB.al _ _) (fun _ => Chg.of_bel (GB.al _ _) _) ?_
  clear hK K
  have hs : Sl GMsg (w7.alloc (.cells (Enc.enc M).toArray 73)) (w7.alloc (.cells (Enc.enc M).toArray 73)).heap.size (some ⟨w7.heap.size, 0, none⟩) 1 [M] := Sl.new_ (xs := [M]) (by simp) rfl rfl (by simp)
  have hbf : Bel w (w7.alloc (.cells (Enc.enc M).toArray 73)) := (Bel.trans HBC.out hw7).trans ((Bel.refl w7).alloc (.cells (Enc.enc M).toArray 73))
  obtain ⟨p, hp⟩ : ∃ p, w7.heap.size = p := ⟨_, rfl⟩
  rw [hp] at hs ⊢
  change wpH _ _ _ _ _ _ _ _ _ _ _ (w7.alloc (.cells (Enc.enc M).toArray 73))
  generalize w7.alloc (.cells (Enc.enc M).toArray 73) = wg at hs hbf ⊢
  have HS := Lib.hid hs; have HBF := Lib.hid hbf
  clear hs hbf hp hw7
  refine wpH_force 8 _ rfl (by kernel_rfl) rfl fun w8 hw8 K hK => ?_
  have hr8 := HH.out.step (HBF.out.trans hw8)
  obtain ⟨v', w', hrun, ho, hgr, hob⟩ := gAppend_S (P := Tryz.prog) ei32 (rep_own hr8).1 (HS.out.stepB hw8) (by have := HL.out; unfold maxLen; omega) (by have := HL.out; omega) (by have := HH.out.lt 0 (by omega); have := HH.out.new 0 (by omega); have := Below.size (HBF.out.trans hw8); omega) 32
  change (gAppend #[32, 32] 32 #[.slice x.ho.a x.ho.len x.ho.cap, .slice (some ⟨p, 0, none⟩) 1 1]).run Tryz.prog w8 = .ok v' w' at hrun
  obtain ⟨A', c', rfl, _⟩ := ho.shape
  go_simp
  refine hK _ _ (fun h => absurd (by simp) h) (fun _ => Chg.of_grown hgr (fun k e => e)) ?_
  clear hK K
  have HW8 := Lib.hid (HBF.out.trans hw8); have HO := Lib.hid ho; have HGR := Lib.hid hgr; have HOB2 := Lib.hid hob
  clear ho hgr hob hw8 hr8 hrun
  refine wpH_force 9 _ rfl (by kernel_rfl) rfl fun w9 hw9 K hK => ?_
  go_simp
  refine hK _ _ (fun _ => GB.rf _) (fun _ => Chg.refl _ _) ?_
  clear hK K
  refine wpH_force 10 _ rfl (by kernel_rfl) rfl fun w10 hw10 K hK => ?_
  go_simp
  refine hK _ _ (fun _ => GB.rf _) (fun _ => Chg.refl _ _) ?_
  clear hK K
  refine wpH_force 11 _ rfl (by kernel_rfl) rfl fun w11 hw11 K hK => ?_
  have hb11 := GB.tr _ _ _ (GB.tr _ _ _ hw9 hw10) hw11
  have HC8 : Chg (fun k => x.ho.val.ownBlock = some k) w w' := (Chg.of_bel HW8.out _).tr (Chg.of_grown HGR.out (fun k e => e))
  have HC11 := Lib.hid (HC8.tr (Chg.of_bel hb11 _))
  have HO11 := Lib.hid (OwnS.step HO.out hb11)
  have f13 := HC11.out.cell (rep_cells HH.out).2.2.2.2.2.2.2.2.1 (HOB.out 0 (by omega))
  have z13 : w11.frozen? ⟨B 0, 13, none⟩ = false := frozen_of_free (HC11.out.free (rep_other HH.out).1 (HH.out.lt 0 (by omega)) (HOB.out 0 (by omega)))
  have Z13 := Lib.hid (HC11.out.free (rep_other HH.out).1 (HH.out.lt 0 (by omega)) (HOB.out 0 (by omega)))
  go_simp
  refine hK _ _ (fun h => absurd (by simp) h) (fun h => absurd (by simp) h) ?_
  clear hK K f13 z13 HC8 hb11 hw9 hw10 hw11
  refine wpH_end (by kernel_rfl) (fun wn hwn => ?_) _
  have HC12 : Chg (fun k => k = B 0 ∨ x.ho.val.ownBlock = some k) w (w11.setCell ⟨B 0, 13, none⟩ (.slice A' (x.out ++ [M]).length c')) := (HC11.out.sub (fun k e => .inr e)).tr (chg_cell (S := fun k => k = B 0 ∨ x.ho.val.ownBlock = some k) (.inl rfl) _)
  have hfin := HH.out.withOut (ho := ⟨A', (x.out ++ [M]).length, c'⟩) (l := x.out ++ [M]) HC12 (fun a ha => get?_poke (HC11.out.get ha (HOB.out 0 (by omega))) (rep_out (repG B x a) ⟨A', (x.out ++ [M]).length, c'⟩)) (by rw [blkFree_setCell]; exact Z13.out) (HO11.out.chg (chg_cell (S := fun k => k = B 0) rfl _) (fun k e he => ?_)) ?_
  · have hwn2 : Bel (w11.setCell ⟨B 0, 13, none⟩ (.slice A' (x.out ++ [M]).length c')) wn := by rw [show (x.out ++ [M]).length = x.out.length + 1 by simp]; exact hwn
    have hfin2 := hfin.step hwn2
    refine bodyPost_end (results_none rfl _ _ _) rfl ⟨rfl, ⟨A', (x.out ++ [M]).length, c'⟩, ?_, HC12.tr (Chg.of_bel hwn2 _), ?_⟩
    · rw [HMM.out]; exact hfin2
    · rcases HOB2.out with e | e
      · exact .inr (.inl e)
      · exact .inr (.inr ⟨_, e, Below.size HW8.out⟩)
  · rcases HOB2.out with e2 | e2
    · exact HOB.out 0 (by omega) (by rw [← he, ← e, ← e2])
    · rw [e2] at e; injection e with e; have := HH.out.lt 0 (by omega); have := Below.size HW8.out; omega
  · rcases HOB2.out with e | e
    · exact .inr (.inl e)
    · exact .inr (.inr ⟨_, e, Below.size HW8.out⟩)
end Go.Proofs.YthkifibmihijaaaGreatDoor
/- A replica's all: a message to each other. Conditions: those named in each theorem. -/
namespace Go.Proofs.YthkifibmihijaaaGreatDoor
open Go Go.RowKit Go.Gv Go.Proofs

def others (id : Int) : Nat → List Int
  | 0 => []
  | n + 1 => others id n ++ (if (n : Int) = id then [] else [(n : Int)])
theorem others_len (id : Int) : ∀ n, (others id n).length ≤ n
  | 0 => by simp [others]
  | n + 1 => by
    have := others_len id n
    unfold others
    rw [List.length_append]
    split <;> simp <;> omega
def toAll (id : Int) (m : GMsg) (n : Nat) : List GMsg := (others id n).map fun t => sent id t m
theorem toAll_yes (id : Int) (m : GMsg) (n : Nat) (h : (n : Int) = id) : toAll id m (n + 1) = toAll id m n := by simp [toAll, others, h]
theorem toAll_no (id : Int) (m : GMsg) (n : Nat) (h : ¬ (n : Int) = id) : toAll id m (n + 1) = toAll id m n ++ [sent id n m] := by simp [toAll, others, h]
theorem toAll_len (id : Int) (m : GMsg) (n : Nat) : (toAll id m n).length ≤ n := by simpa [toAll] using others_len id n
def Said (B0 : Nat) (h0 h1 : Hdr) (w w' : World) : Prop := Chg (fun k => k = B0 ∨ h0.val.ownBlock = some k) w w' ∧ (h1.val.ownBlock = none ∨ h1.val.ownBlock = h0.val.ownBlock ∨ ∃ k, h1.val.ownBlock = some k ∧ w.heap.size ≤ k)
theorem Said.rf (B0 : Nat) (h0 : Hdr) (w : World) : Said B0 h0 h0 w w := ⟨Chg.refl _ _, .inr (.inl rfl)⟩
theorem Said.tr {B0 : Nat} {h0 h1 h2 : Hdr} {w w1 w2 : World} (a : Said B0 h0 h1 w w1) (b : Said B0 h1 h2 w1 w2) : Said B0 h0 h2 w w2 := by
  refine ⟨a.1.trans b.1 ?_, ?_⟩
  · rintro k (e | e)
    · exact .inl (.inl e)
    · rcases a.2 with h | h | ⟨k', h, hk⟩
      · rw [h] at e; cases e
      · rw [h] at e; exact .inl (.inr e)
      · rw [h] at e; injection e with e; exact .inr (by omega)
  · rcases b.2 with h | h | ⟨k', h, hk⟩
    · exact .inl h
    · rcases a.2 with g | g | ⟨k2, g, hk2⟩
      · exact .inl (h.trans g)
      · exact .inr (.inl (h.trans g))
      · exact .inr (.inr ⟨k2, h.trans g, hk2⟩)
    · exact .inr (.inr ⟨k', h, Nat.le_trans a.1.size hk⟩)
theorem Said.bel {B0 : Nat} {h0 h1 : Hdr} {w w1 w2 : World} (a : Said B0 h0 h1 w w1) (b : Bel w1 w2) : Said B0 h0 h1 w w2 := ⟨a.1.tr (Chg.of_bel b _), a.2⟩
theorem Said.pre {B0 : Nat} {h0 h1 : Hdr} {w w1 w2 : World} (b : Bel w w1) (a : Said B0 h0 h1 w1 w2) : Said B0 h0 h1 w w2 := by
  refine ⟨(Chg.of_bel b _).tr a.1, ?_⟩
  rcases a.2 with h | h | ⟨k, h, hk⟩
  · exact .inl h
  · exact .inr (.inl h)
  · exact .inr (.inr ⟨k, h, Nat.le_trans (Below.size b) hk⟩)
set_option maxRecDepth 100000 in
set_option maxHeartbeats 4000000 in
theorem repAll_any (w0 : World) (B : Nat → Nat) (x : RSt) (m : GMsg) (f : Nat) (w : World) (h : RepIs w0 w B x) (hm : PlainM m) (hl : x.out.length ≤ 1000) (hf : x.c.f = (f : Int)) (hf1 : f ≤ 21) : Calls Tryz.prog 43 #[.pointer (some ⟨B 0, 0, none⟩), m.val] w fun e w' =>
    e = .returned (.tuple #[]) ∧ ∃ ho, RepIs w0 w' B { x with ho := ho, out := x.out ++ toAll x.id m (3 * f + 1) } ∧ Said (B 0) x.ho ho w w' := by
  have HH := Lib.hid h; have HM := Lib.hid hm; have HL := Lib.hid hl; have HF := Lib.hid hf; have HF1 := Lib.hid hf1
  have h1 := h.step ((Bel.refl w).alloc (.cells (GMsg.enc m).toArray 73))
  have c1 : get? GMsg (w.alloc (.cells (GMsg.enc m).toArray 73)) ⟨w.heap.size, 0, none⟩ = some m := get?_new _ _
  have hba := (Bel.refl w).alloc (.cells (GMsg.enc m).toArray 73)
  have hsz : (w.alloc (.cells (GMsg.enc m).toArray 73)).heap.size = w.heap.size + 1 := World.size_alloc _ _
  clear h hm hl hf hf1
  go_enter Tryz.func43, Tryz.ntmps43
  go_upto_region 1 with fail
  obtain ⟨q, hq⟩ : ∃ q, w.heap.size = q := ⟨_, rfl⟩
  have HQ := Lib.hid hq
  rw [hq] at c1 hsz ⊢
  generalize w.alloc (.cells (GMsg.enc m).toArray 73) = wa at c1 h1 hba hsz ⊢
  have C1 := Lib.hid c1; have H1 := Lib.hid h1; have HBA := Lib.hid hba; have HSZ := Lib.hid hsz
  have k0 := (rep_cells h1).2.2.2.2.2.2.2.2.2
  clear c1 h1 hba hsz hq
  go_wp2_with fail
  refine (n_any x.c wa (by have := HF.out; omega) (by have := HF.out; have := HF1.out; omega)).mono ?_
  rw [HF.out]
  rintro _ wb ⟨rfl, hbb⟩
  have H2 := Lib.hid (H1.out.step hbb); have C2 := Lib.hid (GB.get hbb C1.out)
  have HBB := Lib.hid (HBA.out.trans hbb)
  have HSB := Lib.hid (Below.size hbb)
  clear hbb k0
  go_wp2_with fail
  go_loopw [10] (fun iv wr => ∃ (k : Nat) (ho : Hdr), k ≤ 3 * f + 1 ∧ iv = .int .i64 (k : Int) ∧ Hid (RepIs w0 wr B { x with ho := ho, out := x.out ++ toAll x.id m k }) ∧ Hid (Said (B 0) x.ho ho wb wr)) (fun iv _ => 3 * f + 1 - (intOf iv).toNat)
  case atStart => exact ⟨0, x.ho, by omega, rfl, Lib.hid (by simpa [toAll, others] using H2.out), Lib.hid (Said.rf _ _ _)⟩
  case round =>
    obtain ⟨k, ho, hk, rfl, hr, hs⟩ := hrel
    have hf1 := HF1.out
    have hk64 : k ≤ 64 := by omega
    have hwr : IntKind.i64.wrap ((k : Int) + 1) = (k : Int) + 1 := IntWalk.i64_in _ (by omega)
    by_cases hlt : (k : Int) < 3 * (f : Int) + 1
    · have k1 := (rep_cells hr.out).1
      simp only at k1
      by_cases hid : (k : Int) = x.id
      · have hb : ((k : Int) != x.id) = false := by rw [bne_eq_false_iff_eq]; exact hid
        have HID := Lib.hid hid
        clear hid
        go_wp2_with fail
        go_roundw
        case rel => exact ⟨k + 1, ho, by omega, by go_num, Lib.hid (by rw [toAll_yes _ _ _ HID.out]; exact hr.out), hs⟩
        case measure => simp [intOf] <;> omega
      · have hb : ((k : Int) != x.id) = true := by rw [bne_iff_ne]; exact hid
        have HID := Lib.hid hid
        clear hid
        have c3 : get? GMsg wr ⟨q, 0, none⟩ = some m := hs.out.1.get C2.out (by
          rintro (e | e)
          · have := HH.out.lt 0 (by omega); have := HQ.out; simp only at e; omega
          · have := ((rep_own HH.out).1.lt q e).2; have := HQ.out; omega)
        go_wp2_with fail
        refine (say_any w0 B { x with ho := ho, out := x.out ++ toAll x.id m k } m k wr hr.out HM.out (by have := HL.out; have := toAll_len x.id m k; have := HF1.out; simp only [List.length_append]; omega)).mono ?_
        rintro _ wc ⟨rfl, ho2, hr2, hch, hown⟩
        have HR2 := Lib.hid hr2
        have HS2 := Lib.hid (hs.out.tr (⟨hch, hown⟩ : Said (B 0) ho ho2 wr wc))
        clear hr2 hch hown c3 k1
        go_wp2_with fail
        go_roundw
        case rel => exact ⟨k + 1, ho2, by omega, by go_num, Lib.hid (by rw [toAll_no _ _ _ HID.out]; simpa using HR2.out), HS2⟩
        case measure => simp [intOf] <;> omega
    · have hke := Lib.hid (show k = 3 * f + 1 by omega)
      go_wp2_with fail
      refine bodyPost_end (results_none rfl _ _ _) rfl ⟨rfl, ho, ?_, ?_⟩
      · rw [← hke.out]; exact hr.out
      · exact Said.pre HBB.out hs.out
end Go.Proofs.YthkifibmihijaaaGreatDoor
/- A replica's ask. Conditions: those named in each theorem. -/
namespace Go.Proofs.YthkifibmihijaaaGreatDoor
open Go Go.RowKit Go.Gv Go.Proofs

def closeM (r t : Int) : GMsg := { (default : GMsg) with kind := 5, epoch := 0, round := r, time := t }
theorem closeM_plain (r t : Int) : PlainM (closeM r t) := ⟨rfl, rfl, rfl, ⟨rfl, rfl, rfl⟩, ⟨rfl, rfl, rfl⟩, rfl⟩
set_option maxRecDepth 100000 in
set_option maxHeartbeats 4000000 in
theorem ask_any (w0 : World) (B : Nat → Nat) (x : RSt) (f : Nat) (w : World) (h : RepIs w0 w B x) (hl : x.out.length ≤ 1000) (hf : x.c.f = (f : Int)) (hf1 : f ≤ 21) : Calls Tryz.prog 76 #[.pointer (some ⟨B 0, 0, none⟩)] w fun e w' =>
    e = .returned (.tuple #[]) ∧ ∃ ho, RepIs w0 w' B { x with ho := ho, out := x.out ++ toAll x.id (closeM x.askRound x.askTime) (3 * f + 1) } ∧ Said (B 0) x.ho ho w w' := by
  have HH := Lib.hid h; have HL := Lib.hid hl; have HF := Lib.hid hf; have HF1 := Lib.hid hf1
  clear h hl hf hf1
  go_enter Tryz.func76, Tryz.ntmps76
  refine wp_region_G GB [21] GB.rf (by kernel_rfl) ?_
  refine wpG_looks 3 22 [0, 1, 2, 3, 4, 6, 7, 8, 9, 10, 11, 12, 13, 14, 15, 16, 17, 18, 19] rfl GB.rf GB.tr (by kernel_rfl) (fun _ _ _ _ hd h => And.intro (hd ▸ And.left h) (And.right h)) rfl (by kernel_rfl) ?_
  intro ι W hne CW
  have k0 : ∀ z, (W z).cell? ⟨B 0, 7, none⟩ = some (.pointer (some ⟨B 7, 0, none⟩)) := fun z => GB.cell (GB.undrew (CW.out z)) (rep_cells HH.out).2.2.2.2.2.1
  have k1 : ∀ z, (W z).cell? ⟨B 0, 10, none⟩ = some (.pointer (some ⟨B 11, 0, none⟩)) := fun z => GB.cell (GB.undrew (CW.out z)) (rep_cells HH.out).2.2.2.2.2.2.2.1
  have k2 : ∀ z, (W z).cell? ⟨B 11, 5, none⟩ = some (.int .i64 x.askRound) := fun z => GB.cell (GB.undrew (CW.out z)) (ep_cells HH.out).2.2.1
  have k3 : ∀ z, (W z).cell? ⟨B 11, 6, none⟩ = some (.int .u64 x.askTime) := fun z => GB.cell (GB.undrew (CW.out z)) (ep_cells HH.out).2.2.2
  repeat (refine wpLooksG_step (fun K hK => ?_); go_simp; refine hK _ ?_; clear hK K)
  refine wpLooksG_nil ?_
  clear k0 k1 k2 k3 CW hne W ι
  refine wpG_force 5 _ rfl (by kernel_rfl) rfl fun wa hwa K hK => ?_
  go_simp
  refine (epoch0_any (B 7) (B 8) wa (HH.out.step (GB.undrew hwa)).led).mono ?_
  rintro _ _ ⟨rfl, rfl⟩
  refine hK _ _ (fun _ => GB.rf _) ?_
  clear hK K
  refine wpG_force 20 _ rfl (by kernel_rfl) rfl fun wb hwb K hK => ?_
  go_simp
  refine hK _ _ (fun _ => GB.rf _) ?_
  clear hK K
  refine wpG_force 21 _ rfl (by kernel_rfl) rfl fun wc hwc K hK => ?_
  go_simp
  have hbc := GB.tr _ _ _ (GB.tr _ _ _ (GB.undrew hwa) hwb) hwc
  refine (repAll_any w0 B x (closeM x.askRound x.askTime) f wc (HH.out.step hbc) (closeM_plain _ _) HL.out HF.out HF1.out).mono ?_
  rintro _ wd ⟨rfl, ho, hr, hs⟩
  refine hK _ _ (fun h => absurd (by simp) h) ?_
  clear hK K
  refine wpG_end (by kernel_rfl) (fun wn hwn => ?_) _
  exact bodyPost_end (results_none rfl _ _ _) rfl ⟨rfl, ho, hr.step hwn, (hs.bel hwn).pre hbc⟩
end Go.Proofs.YthkifibmihijaaaGreatDoor
/- A replica's promise. Conditions: those named in each theorem. -/
namespace Go.Proofs.YthkifibmihijaaaGreatDoor
open Go Go.RowKit Go.Gv Go.Proofs

def promG (x : RSt) (tm : Nat) : GPromise := ⟨x.id, 0, tm, ⟨none, 0, 0⟩, ⟨x.id, markOf x.book (keyP x.id 0 tm)⟩⟩
theorem RepIs.withBS {w0 w w' : World} {B : Nat → Nat} {x : RSt} (h : RepIs w0 w B x) {b : MBook} {now floor last : Int} {l : List (GName × GStamp)} (hb : BookIs w' (B 1) (B 2) b) (hs : StampIs w' (B 3) (B 4) x.c x.id now floor last l) (hc : Chg (fun k => k = B 2 ∨ k = B 3) w w') : RepIs w0 w' B { x with book := b, now := now, floor := floor, last := last, stamps := l } := by
  obtain ⟨a, bm, ht, hp, h1, h2, h3, h4, h5⟩ := h.more
  have n : ∀ j < 20, j ≠ 2 → j ≠ 3 → ¬ (B j = B 2 ∨ B j = B 3) := fun j hj n2 n3 e => e.elim (h.ne (i := 2) (by omega) j hj n2) (h.ne (i := 3) (by omega) j hj n3)
  refine ⟨Chg.bel2 h.bel hc (fun k e => by rcases e with e | e; exact e ▸ h.new 2 (by omega); exact e ▸ h.new 3 (by omega)), h.new, fun j hj => Nat.lt_of_lt_of_le (h.lt j hj) hc.size, h.apart, hb, hs, h.tb.chg hc (n 5 (by omega) (by omega) (by omega)) (n 6 (by omega) (by omega) (by omega)), h.led.chg hc (n 7 (by omega) (by omega) (by omega)) (n 8 (by omega) (by omega) (by omega)),
    h.rev.chg hc (n 9 (by omega) (by omega) (by omega)) (n 10 (by omega) (by omega) (by omega)), h.core.chg hc (n 12 (by omega) (by omega) (by omega)) (n 13 (by omega) (by omega) (by omega)) (n 18 (by omega) (by omega) (by omega)) (n 14 (by omega) (by omega) (by omega)) (n 16 (by omega) (by omega) (by omega)) (n 17 (by omega) (by omega) (by omega)), hc.map h.pre (n 19 (by omega) (by omega) (by omega)),
    a, bm, ht, hp, hc.get h1 (n 0 (by omega) (by omega) (by omega)), hc.free h2 (get?_lt h1) (n 0 (by omega) (by omega) (by omega)), hc.get h3 (n 11 (by omega) (by omega) (by omega)), hc.free h4 (get?_lt h3) (n 11 (by omega) (by omega) (by omega)), ?_⟩
  refine (h5.chg hc ?_ ?_ ?_ ?_).with rfl rfl rfl rfl rfl
  · rintro k e (e2 | e2)
    · exact h5.no 2 (by omega) (by rw [e, e2])
    · exact h5.no 3 (by omega) (by rw [e, e2])
  · rintro k e (e2 | e2)
    · exact h5.nt 2 (by omega) (by rw [e, e2])
    · exact h5.nt 3 (by omega) (by rw [e, e2])
  · rintro k e (e2 | e2)
    · exact h5.np 2 (by omega) (by rw [e, e2])
    · exact h5.np 3 (by omega) (by rw [e, e2])
  · rintro p e (e2 | e2)
    · exact (h5.pv p e).2.2.1 2 (by omega) e2
    · exact (h5.pv p e).2.2.1 3 (by omega) e2
set_option maxRecDepth 100000 in
set_option maxHeartbeats 8000000 in
theorem repPromise_any (w0 : World) (B : Nat → Nat) (x : RSt) (tm : Nat) (w : World) (h : RepIs w0 w B x) (h0 : 0 < tm) (ht : tm < 18446744073709551615) (hi : x.id ≤ 1000000) (hB : x.book.length ≤ 1000000000) :
    Calls Tryz.prog 84 #[.pointer (some ⟨B 0, 0, none⟩), .int .u64 (tm : Int)] w fun e w' =>
      e = .returned (.tuple #[GPromise.val (promG x tm), .bool true]) ∧ RepIs w0 w' B { x with book := signB x.book (keyP x.id 0 tm), floor := max x.floor tm } ∧ Chg (fun k => k = B 2 ∨ k = B 3) w w' := by
  have HH := Lib.hid h; have HT0 := Lib.hid h0; have HT := Lib.hid ht; have HI := Lib.hid hi; have HB := Lib.hid hB
  have c4 : get? GPromise (w.alloc (.cells (GPromise.enc default).toArray 52)) ⟨w.heap.size, 0, none⟩ = some default := get?_new _ _
  have b4 : blkFree (w.alloc (.cells (GPromise.enc default).toArray 52)) w.heap.size = true := blkFree_new _ _ rfl
  have hba := (Bel.refl w).alloc (.cells (GPromise.enc default).toArray 52)
  clear h h0 ht hi hB
  go_enter Tryz.func84, Tryz.ntmps84
  go_upto_region 1 with fail
  obtain ⟨q, hq⟩ : ∃ q, w.heap.size = q := ⟨_, rfl⟩
  have HQ := Lib.hid hq
  rw [hq] at c4 b4 ⊢
  generalize w.alloc (.cells (GPromise.enc default).toArray 52) = wa at c4 b4 hba ⊢
  have H1 := Lib.hid (HH.out.step hba); have C4 := Lib.hid c4; have B4 := Lib.hid b4; have HBA := Lib.hid hba
  clear c4 b4 hba hq
  have hq2 : ¬ q = B 2 := fun e => by have := HH.out.lt 2 (by omega); have := HQ.out; omega
  have HQ2 := Lib.hid hq2
  clear hq2
  obtain ⟨pv, hpv⟩ : ∃ pv, promG x tm = pv := ⟨_, rfl⟩
  have HPV := Lib.hid hpv
  clear hpv
  refine wp_region_H GB (Chg (fun k => k = B 2 ∨ wa.heap.size ≤ k)) [19, 24] [] GB.rf (by kernel_rfl) ?_
  refine wpH_looks 7 26 [0, 1, 2, 3, 4, 5, 6, 7, 8, 9, 10, 11, 12, 13, 14, 15, 16, 17, 18] rfl GB.rf GB.tr (Chg.refl _) (fun _ _ _ => Chg.tr) (fun _ _ h => Chg.of_bel h _) (by kernel_rfl) (fun _ _ _ _ hd h => And.intro (hd ▸ And.left h) (And.right h)) rfl (by kernel_rfl) ?_
  intro ι W hne CW
  have n0 : ¬ (B 0 = B 2 ∨ wa.heap.size ≤ B 0) := fun e => e.elim (HH.out.ne (i := 2) (by omega) 0 (by omega) (by omega)) (fun e => by have := H1.out.lt 0 (by omega); omega)
  have n7 : ¬ (B 7 = B 2 ∨ wa.heap.size ≤ B 7) := fun e => e.elim (HH.out.ne (i := 2) (by omega) 7 (by omega) (by omega)) (fun e => by have := H1.out.lt 7 (by omega); omega)
  have n8 : ¬ (B 8 = B 2 ∨ wa.heap.size ≤ B 8) := fun e => e.elim (HH.out.ne (i := 2) (by omega) 8 (by omega) (by omega)) (fun e => by have := H1.out.lt 8 (by omega); omega)
  have CC : ∀ z, Chg (fun k => k = B 2 ∨ wa.heap.size ≤ k) wa (W z) := fun z => (Chg.of_bel ((Bel.refl wa).drew) _).tr (CW.out z)
  have k0 : ∀ z, (W z).cell? ⟨B 0, 6, none⟩ = some (.pointer (some ⟨B 5, 0, none⟩)) := fun z => (CC z).cell (rep_cells H1.out).2.2.2.2.1 n0
  have k1 : ∀ z, (W z).cell? ⟨B 0, 3, none⟩ = some (.pointer (some ⟨B 1, 0, none⟩)) := fun z => (CC z).cell (rep_cells H1.out).2.1 n0
  have k2 : ∀ z, (W z).cell? ⟨B 0, 7, none⟩ = some (.pointer (some ⟨B 7, 0, none⟩)) := fun z => (CC z).cell (rep_cells H1.out).2.2.2.2.2.1 n0
  have HL := Lib.hid (show ∀ z, LedIs (W z) (B 7) (B 8) from fun z => H1.out.led.chg (CC z) n7 n8)
  clear CC n0 n7 n8
  refine wpLooksG_step (fun K hK => ?_); go_simp; refine hK _ ?_; clear hK K
  refine wpLooksG_step (fun K hK => ?_); go_simp; refine hK _ ?_; clear hK K
  refine wpLooksG_step (fun K hK => ?_); go_simp; refine hK _ ?_; clear hK K
  refine wpLooksG_step (fun K hK => ?_); go_simp; refine hK _ ?_; clear hK K
  refine wpLooksG_step (fun K hK => ?_); go_simp; refine hK _ ?_; clear hK K
  refine wpLooksG_step (fun K hK => ?_); go_simp; refine hK _ ?_; clear hK K
  refine wpLooksG_step (fun K hK => ?_); go_simp; refine hK _ ?_; clear hK K
  refine wpLooksG_step (fun K hK => ?_); go_simp; refine hK _ ?_; clear hK K
  refine wpLooksG_step (fun K hK => ?_); go_simp; refine hK _ ?_; clear hK K
  refine wpLooksG_step (fun K hK => ?_); go_simp; refine hK _ ?_; clear hK K
  refine wpLooksG_step (fun K hK => ?_); go_simp; refine hK _ ?_; clear hK K
  refine wpLooksG_step (fun K hK => ?_); go_simp; refine hK _ ?_; clear hK K
  refine wpLooksG_step (fun K hK => ?_)
  go_simp
  refine ⟨_, fun z => quietG (epoch0_any (B 7) (B 8) (W z) (HL.out z)) (fun _ _ h => h), hK _ ?_⟩
  clear hK K
  refine wpLooksG_step (fun K hK => ?_); go_simp; refine hK _ ?_; clear hK K
  refine wpLooksG_step (fun K hK => ?_); go_simp; refine hK _ ?_; clear hK K
  refine wpLooksG_step (fun K hK => ?_); go_simp; refine hK _ ?_; clear hK K
  refine wpLooksG_step (fun K hK => ?_); go_simp; refine hK _ ?_; clear hK K
  refine wpLooksG_step (fun K hK => ?_)
  go_simp
  refine ⟨_, fun z => quietG (last0_any (B 7) (B 8) (W z) (HL.out z)) (fun _ _ h => h), hK _ ?_⟩
  clear hK K
  refine wpLooksG_step (fun K hK => ?_); go_simp; refine hK _ ?_; clear hK K
  refine wpLooksG_nil ?_
  clear k0 k1 k2 HL CW hne W ι
  refine wpH_two 19 23 _ _ rfl rfl (by kernel_rfl) rfl rfl (fun w19 hw19 K hK => ?_) (fun w23 hw23 K hK => ?_)
  · go_simp
    have hb19 : Bel wa w19 := GB.undrew hw19
    have hcall : Calls Tryz.prog 124 #[.pointer (some ⟨B 5, 0, none⟩), .pointer (some ⟨B 1, 0, none⟩), .int .i64 0, .int .u64 0, .int .u64 (tm : Int)] w19 fun e w' => e = .returned (.tuple #[GPromise.val pv, .int .i64 0]) ∧ BookIs w' (B 1) (B 2) (signB x.book (keyP x.id 0 tm)) ∧ Chg (fun k => k = B 2) w19 w' := by
      rw [← HPV.out]
      exact promise0_any (B 5) (B 6) (B 1) (B 2) x.c x.id 0 0 tm x.book w19 (H1.out.step hb19).tb (H1.out.step hb19).book (by omega) (by omega) (by have := HT0.out; omega) HT.out HI.out HB.out
    refine hcall.mono ?_
    rintro _ wp ⟨rfl, hbk, hcp⟩
    refine hK _ _ (fun h => absurd (by simp) h) (fun _ => hcp.sub (fun k e => .inl e)) ?_
    clear hK K hcall
    have HBKP := Lib.hid hbk
    have HCP := Lib.hid ((Chg.of_bel hb19 (fun k => k = B 2)).tr hcp)
    clear hbk
    have C4p := Lib.hid (hcp.get (GB.get hb19 C4.out) HQ2.out); have B4p := Lib.hid (hcp.free ((blkFree_keep (Below.block hb19 _ (get?_lt C4.out))).trans B4.out) (get?_lt (GB.get hb19 C4.out)) HQ2.out)
    clear hcp hb19 hw19
    refine wpH_looks 3 26 [20, 21, 22] rfl GB.rf GB.tr (Chg.refl _) (fun _ _ _ => Chg.tr) (fun _ _ h => Chg.of_bel h _) (by kernel_rfl) (fun _ _ _ _ hd h => And.intro (hd ▸ And.left h) (And.right h)) rfl (by kernel_rfl) ?_
    intro ι W hne CW
    refine wpLooksG_step (fun K hK => ?_); go_simp; refine hK _ ?_; clear hK K
    refine wpLooksG_step (fun K hK => ?_); go_simp; refine hK _ ?_; clear hK K
    refine wpLooksG_step (fun K hK => ?_); go_simp; refine hK _ ?_; clear hK K
    refine wpLooksG_nil ?_
    clear CW hne W ι
    refine wpH_force 23 _ rfl (by kernel_rfl) rfl fun w23 hw23 K hK => ?_
    go_simp
    refine hK _ _ (fun _ => GB.al _ _) (fun _ => Chg.of_bel (GB.al _ _) _) ?_
    clear hK K
    have c6 := get?_new (w := w23) 52 (default : GPromise)
    have b6 : blkFree (w23.alloc (.cells (GPromise.enc default).toArray 52)) w23.heap.size = true := blkFree_new _ _ rfl
    have hb6 := Bel.trans hw23 ((Bel.refl w23).alloc (.cells (GPromise.enc default).toArray 52))
    have hpw : wa.heap.size ≤ w23.heap.size := Nat.le_trans HCP.out.size (Below.size hw23)
    obtain ⟨p, hp⟩ : ∃ p, w23.heap.size = p := ⟨_, rfl⟩
    rw [hp] at c6 b6 hpw ⊢
    change wpH _ _ _ _ _ _ _ _ _ _ _ (w23.alloc (.cells (GPromise.enc default).toArray 52))
    generalize w23.alloc (.cells (GPromise.enc default).toArray 52) = wy at c6 b6 hb6 ⊢
    have HPW := Lib.hid hpw; have C6 := Lib.hid c6; have B6 := Lib.hid b6; have HB6 := Lib.hid hb6
    clear c6 b6 hb6 hpw hp hw23
    refine wpH_force 24 _ rfl (by kernel_rfl) rfl fun w24 hw24 K hK => ?_
    have hb24 : Bel wp w24 := GB.tr _ _ _ HB6.out hw24
    have g6 := GB.get hw24 C6.out
    have f6 := (blkFree_keep (Below.block hw24 _ (get?_lt C6.out))).trans B6.out
    have c4 := GB.get hb24 C4p.out
    have b4 := (blkFree_keep (Below.block hb24 _ (get?_lt C4p.out))).trans B4p.out

    go_simp
    refine hK _ _ (fun h => absurd (by simp) h) (fun _ => chg_put (S := fun k => k = B 2 ∨ wa.heap.size ≤ k) (.inr HPW.out) _) ?_
    clear hK K
    have hput : Chg (fun k => k = p) w24 (World.putCells w24 ⟨p, 0, none⟩ (GPromise.enc pv)) := chg_put (S := fun k => k = p) rfl _
    have hc2 : Chg (fun k => k = B 2) wa (World.putCells w24 ⟨p, 0, none⟩ (GPromise.enc pv)) := chg_new (((HCP.out.tr (Chg.of_bel hb24 _)).sub (fun k e => .inl e)).tr (hput.sub (fun k e => .inr (e ▸ HPW.out))))
    have hr2 := H1.out.withBook ((HBKP.out.step hb24).chg hput (fun e => by have := H1.out.lt 1 (by omega); have := HPW.out; omega) (fun e => by have := H1.out.lt 2 (by omega); have := HPW.out; omega)) hc2
    have G6 := Lib.hid (get?_putV pv g6); have F6 := Lib.hid ((blkFree_put (GPromise.enc pv) (w := w24) (b := p) (o := 0) (n := p)).trans f6)
    have HQW := Lib.hid (show q < wa.heap.size from get?_lt C4.out)
    have C5 := Lib.hid (hput.get c4 (fun e => by have := HPW.out; have := HQW.out; simp only at e; omega)); have B5 := Lib.hid ((blkFree_put (GPromise.enc pv) (w := w24) (b := p) (o := 0) (n := q)).trans b4)
    have HR2 := Lib.hid hr2; have HC2 := Lib.hid hc2
    have NQ3 := Lib.hid (show ¬ p = B 3 ∧ ¬ q = B 3 from ⟨fun e => by have := H1.out.lt 3 (by omega); have := HPW.out; omega, fun e => by have := HH.out.lt 3 (by omega); have := HQ.out; omega⟩)
    change wpH _ _ _ _ _ _ _ _ _ _ _ (World.putCells w24 ⟨p, 0, none⟩ (GPromise.enc pv))
    generalize World.putCells w24 ⟨p, 0, none⟩ (GPromise.enc pv) = w5 at hput hc2 hr2 G6 F6 C5 B5 HR2 HC2 ⊢
    clear hput hc2 hr2 c4 b4 g6 f6 hb24 hw24
    clear C6 B6 HB6 C4p B4p HCP HBKP
    refine wpH_force 25 _ rfl (by kernel_rfl) rfl fun w25 hw25 K hK => ?_
    go_simp
    refine hK _ _ (fun _ => GB.rf _) (fun _ => Chg.refl _ _) ?_
    clear hK K
    refine wpH_end (by kernel_rfl) (fun wn hwn => ?_) _
    have hbn := GB.tr _ _ _ hw25 hwn
    have HN := Lib.hid (HR2.out.step hbn); have GN := Lib.hid (GB.get hbn G6.out); have FN := Lib.hid ((blkFree_keep (Below.block hbn _ (get?_lt G6.out))).trans F6.out)
    have GQ := Lib.hid (GB.get hbn C5.out); have FQ := Lib.hid ((blkFree_keep (Below.block hbn _ (get?_lt C5.out))).trans B5.out)
    have HC := Lib.hid (HC2.out.tr (Chg.of_bel hbn _))
    clear hw25 hwn hbn HR2 G6 F6 C5 B5 HC2
    have k0 := (rep_cells HN.out).2.2.2.1
    go_wp2_with fail

    refine (raise_any (B 3) (B 4) x.c x.id x.now x.floor x.last tm x.stamps wn HN.out.st (by have := HT.out; omega)).mono ?_
    rintro _ wr ⟨rfl, hst, hcr⟩
    have HR5 := Lib.hid (HN.out.withStamp hst hcr)
    have g6 := hcr.get GN.out (fun e => NQ3.out.1 e)
    have g4 := Lib.hid (hcr.get GQ.out (fun e => NQ3.out.2 e))
    have HC5 := Lib.hid ((HC.out.sub (S' := fun k => k = B 2 ∨ k = B 3) (fun k e => .inl e)).tr (hcr.sub (fun k e => .inr e)))
    have FQ5 := Lib.hid (hcr.free FQ.out (get?_lt GQ.out) (fun e => NQ3.out.2 e))
    clear hst hcr k0 HN GN FN GQ FQ HC
    have zq := FQ5.out
    have zg := g4.out
    go_wp2_with fail
    refine bodyPost_ret (results_cell_tmp (x := pv) rfl rfl ag52 sz52 (get?_putV _ g4.out)) rfl ⟨?_, ?_, ?_⟩
    · rw [HPV.out]; simp only [GPromise.val_eq]; rfl
    · have hpu : Chg (fun k => k = q) wr (World.putCells wr ⟨q, 0, none⟩ (GPromise.enc pv)) := chg_put (S := fun k => k = q) rfl _
      have hqs : ∀ j < 20, ¬ B j = q := fun j hj e => by have := HH.out.lt j hj; have := HQ.out; omega
      have hcz : Chg (fun k => k = B 2 ∨ k = B 3) w (World.putCells wr ⟨q, 0, none⟩ (GPromise.enc pv)) := chg_after HBA.out ((HC5.out.sub (S' := fun k => (k = B 2 ∨ k = B 3) ∨ k = q) (fun k e => .inl e)).tr (hpu.sub (fun k e => .inr e))) (fun k e => e.imp id (fun e => by rw [HQ.out]; omega))
      exact HH.out.withBS (HR5.out.book.chg hpu (hqs 1 (by omega)) (hqs 2 (by omega))) (HR5.out.st.chg hpu (hqs 3 (by omega)) (hqs 4 (by omega))) hcz
    · have hpu : Chg (fun k => k = q) wr (World.putCells wr ⟨q, 0, none⟩ (GPromise.enc pv)) := chg_put (S := fun k => k = q) rfl _
      exact chg_after HBA.out ((HC5.out.sub (S' := fun k => (k = B 2 ∨ k = B 3) ∨ k = q) (fun k e => .inl e)).tr (hpu.sub (fun k e => .inr e))) (fun k e => e.imp id (fun e => by rw [HQ.out]; omega))
  · go_simp
    refine hK _ _ (fun _ => GB.al _ _) (fun _ => Chg.of_bel (GB.al _ _) _) ?_
    clear hK K
    have c6 := get?_new (w := w23) 52 (default : GPromise)
    have b6 : blkFree (w23.alloc (.cells (GPromise.enc default).toArray 52)) w23.heap.size = true := blkFree_new _ _ rfl
    have hb6 : Bel wa (w23.alloc (.cells (GPromise.enc default).toArray 52)) := Bel.trans (GB.undrew hw23) ((Bel.refl w23).alloc (.cells (GPromise.enc default).toArray 52))
    have hpw : wa.heap.size ≤ w23.heap.size := Below.size (GB.undrew hw23)
    obtain ⟨p, hp⟩ : ∃ p, w23.heap.size = p := ⟨_, rfl⟩
    rw [hp] at c6 b6 hpw ⊢
    change wpH _ _ _ _ _ _ _ _ _ _ _ (w23.alloc (.cells (GPromise.enc default).toArray 52))
    generalize w23.alloc (.cells (GPromise.enc default).toArray 52) = wy at c6 b6 hb6 ⊢
    have HPW := Lib.hid hpw; have C6 := Lib.hid c6; have B6 := Lib.hid b6; have HB6 := Lib.hid hb6
    clear c6 b6 hb6 hpw hp hw23
    refine wpH_force 19 _ rfl (by kernel_rfl) rfl fun w19 hw19 K hK => ?_
    go_simp
    have hb19 : Bel wa w19 := GB.tr _ _ _ HB6.out hw19
    have c6 := GB.get hw19 C6.out
    have b6 := (blkFree_keep (Below.block hw19 _ (get?_lt C6.out))).trans B6.out
    have hcall : Calls Tryz.prog 124 #[.pointer (some ⟨B 5, 0, none⟩), .pointer (some ⟨B 1, 0, none⟩), .int .i64 0, .int .u64 0, .int .u64 (tm : Int)] w19 fun e w' => e = .returned (.tuple #[GPromise.val pv, .int .i64 0]) ∧ BookIs w' (B 1) (B 2) (signB x.book (keyP x.id 0 tm)) ∧ Chg (fun k => k = B 2) w19 w' := by
      rw [← HPV.out]
      exact promise0_any (B 5) (B 6) (B 1) (B 2) x.c x.id 0 0 tm x.book w19 (H1.out.step hb19).tb (H1.out.step hb19).book (by omega) (by omega) (by have := HT0.out; omega) HT.out HI.out HB.out
    refine hcall.mono ?_
    rintro _ wp ⟨rfl, hbk, hcp⟩
    refine hK _ _ (fun h => absurd (by simp) h) (fun _ => hcp.sub (fun k e => .inl e)) ?_
    clear hK K hcall
    have HBKP := Lib.hid hbk
    have HCP := Lib.hid ((Chg.of_bel hb19 (fun k => k = B 2)).tr hcp)
    clear hbk
    have np2 : ¬ p = B 2 := fun e => by have := H1.out.lt 2 (by omega); have := HPW.out; omega
    have C6p := Lib.hid (hcp.get c6 np2); have B6p := Lib.hid (hcp.free b6 (get?_lt c6) np2)
    have C4p := Lib.hid (hcp.get (GB.get hb19 C4.out) HQ2.out); have B4p := Lib.hid (hcp.free ((blkFree_keep (Below.block hb19 _ (get?_lt C4.out))).trans B4.out) (get?_lt (GB.get hb19 C4.out)) HQ2.out)
    clear hcp hb19 hw19 c6 b6 np2
    refine wpH_looks 2 26 [20, 21, 22] rfl GB.rf GB.tr (Chg.refl _) (fun _ _ _ => Chg.tr) (fun _ _ h => Chg.of_bel h _) (by kernel_rfl) (fun _ _ _ _ hd h => And.intro (hd ▸ And.left h) (And.right h)) rfl (by kernel_rfl) ?_
    intro ι W hne CW
    refine wpLooksG_step (fun K hK => ?_); go_simp; refine hK _ ?_; clear hK K
    refine wpLooksG_step (fun K hK => ?_); go_simp; refine hK _ ?_; clear hK K
    refine wpLooksG_step (fun K hK => ?_); go_simp; refine hK _ ?_; clear hK K
    refine wpLooksG_nil ?_
    clear CW hne W ι
    refine wpH_force 24 _ rfl (by kernel_rfl) rfl fun w24 hw24 K hK => ?_
    have hb24 : Bel wp w24 := hw24
    have g6 := GB.get hb24 C6p.out
    have f6 := (blkFree_keep (Below.block hb24 _ (get?_lt C6p.out))).trans B6p.out
    have c4 := GB.get hb24 C4p.out
    have b4 := (blkFree_keep (Below.block hb24 _ (get?_lt C4p.out))).trans B4p.out
    go_simp
    refine hK _ _ (fun h => absurd (by simp) h) (fun _ => chg_put (S := fun k => k = B 2 ∨ wa.heap.size ≤ k) (.inr HPW.out) _) ?_
    clear hK K
    have hput : Chg (fun k => k = p) w24 (World.putCells w24 ⟨p, 0, none⟩ (GPromise.enc pv)) := chg_put (S := fun k => k = p) rfl _
    have hc2 : Chg (fun k => k = B 2) wa (World.putCells w24 ⟨p, 0, none⟩ (GPromise.enc pv)) := chg_new (((HCP.out.tr (Chg.of_bel hb24 _)).sub (fun k e => .inl e)).tr (hput.sub (fun k e => .inr (e ▸ HPW.out))))
    have hr2 := H1.out.withBook ((HBKP.out.step hb24).chg hput (fun e => by have := H1.out.lt 1 (by omega); have := HPW.out; omega) (fun e => by have := H1.out.lt 2 (by omega); have := HPW.out; omega)) hc2
    have G6 := Lib.hid (get?_putV pv g6); have F6 := Lib.hid ((blkFree_put (GPromise.enc pv) (w := w24) (b := p) (o := 0) (n := p)).trans f6)
    have HQW := Lib.hid (show q < wa.heap.size from get?_lt C4.out)
    have C5 := Lib.hid (hput.get c4 (fun e => by have := HPW.out; have := HQW.out; simp only at e; omega)); have B5 := Lib.hid ((blkFree_put (GPromise.enc pv) (w := w24) (b := p) (o := 0) (n := q)).trans b4)
    have HR2 := Lib.hid hr2; have HC2 := Lib.hid hc2
    have NQ3 := Lib.hid (show ¬ p = B 3 ∧ ¬ q = B 3 from ⟨fun e => by have := H1.out.lt 3 (by omega); have := HPW.out; omega, fun e => by have := HH.out.lt 3 (by omega); have := HQ.out; omega⟩)
    change wpH _ _ _ _ _ _ _ _ _ _ _ (World.putCells w24 ⟨p, 0, none⟩ (GPromise.enc pv))
    generalize World.putCells w24 ⟨p, 0, none⟩ (GPromise.enc pv) = w5 at hput hc2 hr2 G6 F6 C5 B5 HR2 HC2 ⊢
    clear hput hc2 hr2 c4 b4 g6 f6 hb24 hw24
    clear C6 B6 HB6 C6p B6p C4p B4p HCP HBKP
    refine wpH_force 25 _ rfl (by kernel_rfl) rfl fun w25 hw25 K hK => ?_
    go_simp
    refine hK _ _ (fun _ => GB.rf _) (fun _ => Chg.refl _ _) ?_
    clear hK K
    refine wpH_end (by kernel_rfl) (fun wn hwn => ?_) _
    have hbn := GB.tr _ _ _ hw25 hwn
    have HN := Lib.hid (HR2.out.step hbn); have GN := Lib.hid (GB.get hbn G6.out); have FN := Lib.hid ((blkFree_keep (Below.block hbn _ (get?_lt G6.out))).trans F6.out)
    have GQ := Lib.hid (GB.get hbn C5.out); have FQ := Lib.hid ((blkFree_keep (Below.block hbn _ (get?_lt C5.out))).trans B5.out)
    have HC := Lib.hid (HC2.out.tr (Chg.of_bel hbn _))
    clear hw25 hwn hbn HR2 G6 F6 C5 B5 HC2
    have k0 := (rep_cells HN.out).2.2.2.1
    go_wp2_with fail

    refine (raise_any (B 3) (B 4) x.c x.id x.now x.floor x.last tm x.stamps wn HN.out.st (by have := HT.out; omega)).mono ?_
    rintro _ wr ⟨rfl, hst, hcr⟩
    have HR5 := Lib.hid (HN.out.withStamp hst hcr)
    have g6 := hcr.get GN.out (fun e => NQ3.out.1 e)
    have g4 := Lib.hid (hcr.get GQ.out (fun e => NQ3.out.2 e))
    have HC5 := Lib.hid ((HC.out.sub (S' := fun k => k = B 2 ∨ k = B 3) (fun k e => .inl e)).tr (hcr.sub (fun k e => .inr e)))
    have FQ5 := Lib.hid (hcr.free FQ.out (get?_lt GQ.out) (fun e => NQ3.out.2 e))
    clear hst hcr k0 HN GN FN GQ FQ HC
    have zq := FQ5.out
    have zg := g4.out
    go_wp2_with fail
    refine bodyPost_ret (results_cell_tmp (x := pv) rfl rfl ag52 sz52 (get?_putV _ g4.out)) rfl ⟨?_, ?_, ?_⟩
    · rw [HPV.out]; simp only [GPromise.val_eq]; rfl
    · have hpu : Chg (fun k => k = q) wr (World.putCells wr ⟨q, 0, none⟩ (GPromise.enc pv)) := chg_put (S := fun k => k = q) rfl _
      have hqs : ∀ j < 20, ¬ B j = q := fun j hj e => by have := HH.out.lt j hj; have := HQ.out; omega
      have hcz : Chg (fun k => k = B 2 ∨ k = B 3) w (World.putCells wr ⟨q, 0, none⟩ (GPromise.enc pv)) := chg_after HBA.out ((HC5.out.sub (S' := fun k => (k = B 2 ∨ k = B 3) ∨ k = q) (fun k e => .inl e)).tr (hpu.sub (fun k e => .inr e))) (fun k e => e.imp id (fun e => by rw [HQ.out]; omega))
      exact HH.out.withBS (HR5.out.book.chg hpu (hqs 1 (by omega)) (hqs 2 (by omega))) (HR5.out.st.chg hpu (hqs 3 (by omega)) (hqs 4 (by omega))) hcz
    · have hpu : Chg (fun k => k = q) wr (World.putCells wr ⟨q, 0, none⟩ (GPromise.enc pv)) := chg_put (S := fun k => k = q) rfl _
      exact chg_after HBA.out ((HC5.out.sub (S' := fun k => (k = B 2 ∨ k = B 3) ∨ k = q) (fun k e => .inl e)).tr (hpu.sub (fun k e => .inr e))) (fun k e => e.imp id (fun e => by rw [HQ.out]; omega))
end Go.Proofs.YthkifibmihijaaaGreatDoor
/- A replica's keep, of the first promise. Conditions: those named in each theorem. -/
namespace Go.Proofs.YthkifibmihijaaaGreatDoor
open Go Go.RowKit Go.Gv Go.Proofs

theorem ep_proms (x : GReplicaEpoch) (h : Hdr) : Enc.enc ({ x with promises := h } : GReplicaEpoch) = (Enc.enc x).set 7 (.slice h.a h.len h.cap) := by
  show GReplicaEpoch.enc _ = (GReplicaEpoch.enc _).set _ _
  simp [GReplicaEpoch.enc, Hdr.val]
theorem RepIs.withProms {w0 w w' : World} {B : Nat → Nat} {x : RSt} (h : RepIs w0 w B x) {a : Option Addr} {bm : Nat} {ht hp hp' : Hdr} {l : List GPromise} {asq : Bool} {ar at_ : Int} (h1 : get? GReplicaReplica w ⟨B 0, 0, none⟩ = some (repG B x a)) (h2 : blkFree w (B 0) = true) (h5 : Slices w0 w B x ht hp)
    (hc : Chg (fun k => k = B 11 ∨ hp.val.ownBlock = some k) w w') (hg : get? GReplicaEpoch w' ⟨B 11, 0, none⟩ = some (epG B { x with promises := l, asks := asq, askRound := ar, askTime := at_ } bm ht hp')) (hf : blkFree w' (B 11) = true) (ho1 : OwnS w' w0.heap.size 52 hp'.val l)
    (hb : hp'.val.ownBlock = none ∨ hp'.val.ownBlock = hp.val.ownBlock ∨ ∃ k, hp'.val.ownBlock = some k ∧ w.heap.size ≤ k) : RepIs w0 w' B { x with promises := l, asks := asq, askRound := ar, askTime := at_ } := by
  have n := fun (j : Nat) (hj : j < 20) (hne : j ≠ 11) => show ¬ (B j = B 11 ∨ hp.val.ownBlock = some (B j)) from fun e => e.elim (h.ne (i := 11) (by omega) j hj hne) (h5.np j hj)
  have hnew : ∀ k, (k = B 11 ∨ hp.val.ownBlock = some k) → w0.heap.size ≤ k := fun k e => e.elim (fun e => e ▸ h.new 11 (by omega)) (fun e => (h5.proms.lt k e).1)
  refine ⟨Chg.bel2 h.bel hc hnew, h.new, fun j hj => Nat.lt_of_lt_of_le (h.lt j hj) hc.size, h.apart, h.book.chg hc (n 1 (by omega) (by omega)) (n 2 (by omega) (by omega)), h.st.chg hc (n 3 (by omega) (by omega)) (n 4 (by omega) (by omega)), h.tb.chg hc (n 5 (by omega) (by omega)) (n 6 (by omega) (by omega)), h.led.chg hc (n 7 (by omega) (by omega)) (n 8 (by omega) (by omega)),
    h.rev.chg hc (n 9 (by omega) (by omega)) (n 10 (by omega) (by omega)), h.core.chg hc (n 12 (by omega) (by omega)) (n 13 (by omega) (by omega)) (n 18 (by omega) (by omega)) (n 14 (by omega) (by omega)) (n 16 (by omega) (by omega)) (n 17 (by omega) (by omega)), hc.map h.pre (n 19 (by omega) (by omega)),
    a, bm, ht, hp', hc.get h1 (n 0 (by omega) (by omega)), hc.free h2 (get?_lt h1) (n 0 (by omega) (by omega)), hg, hf, ?_⟩
  refine ⟨h5.out.chg hc ?_, h5.timers.chg hc ?_, ho1, h5.no, h5.nt, ?_, ?_, ?_, fun p e => ?_⟩
  · intro k e e2
    rcases e2 with e2 | e2
    · exact h5.no 11 (by omega) (by rw [e, e2])
    · exact (h5.ot k e).2 e2
  · intro k e e2
    rcases e2 with e2 | e2
    · exact h5.nt 11 (by omega) (by rw [e, e2])
    · exact h5.tp k e e2
  · intro j hj e
    rcases hb with hb | hb | ⟨k, hk, hlt⟩
    · rw [hb] at e; cases e
    · rw [hb] at e; exact h5.np j hj e
    · rw [hk] at e; injection e with e; have := h.lt j hj; omega
  · intro k e
    refine ⟨(h5.ot k e).1, fun e2 => ?_⟩
    rcases hb with hb | hb | ⟨k', hk, hlt⟩
    · rw [hb] at e2; cases e2
    · rw [hb] at e2; exact (h5.ot k e).2 e2
    · rw [hk] at e2; injection e2 with e2; have := (h5.out.lt k e).2; omega
  · intro k e e2
    rcases hb with hb | hb | ⟨k', hk, hlt⟩
    · rw [hb] at e2; cases e2
    · rw [hb] at e2; exact h5.tp k e e2
    · rw [hk] at e2; injection e2 with e2; have := (h5.timers.lt k e).2; omega
  · obtain ⟨p1, p2, p3, p4, p5, p6⟩ := h5.pv p e
    refine ⟨hc.get p1 ?_, p2, p3, p4, p5, ?_⟩
    · rintro (e | e)
      · exact p3 11 (by omega) e
      · exact p6 e
    · intro e
      rcases hb with hb | hb | ⟨k', hk, hlt⟩
      · rw [hb] at e; cases e
      · rw [hb] at e; exact p6 e
      · rw [hk] at e; injection e with e; have := get?_lt p1; simp only at this; omega
set_option maxRecDepth 100000 in
set_option maxHeartbeats 1000000 in
theorem index0P_any (A : Option Addr) (c : Nat) (fv : Value) (w : World) : Calls Tryz.prog 178 #[.slice A 0 c, fv] w fun e w' => e = .returned (.int .i64 (-1)) ∧ Bel w w' := by
  go_enter Tryz.func178, Tryz.ntmps178
  go_wp2_with fail
  go_loopw [8] (fun iv wr => iv = .int .i64 0 ∧ wr = w) (fun _ _ => 0)
  case atStart => exact ⟨rfl, rfl⟩
  case round =>
    obtain ⟨rfl, rfl⟩ := hrel
    go_wp2_with fail
    go_ret
    exact ⟨rfl, Bel.refl _⟩
set_option maxRecDepth 100000 in
set_option maxHeartbeats 1000000 in
theorem contains0P_any (A : Option Addr) (c : Nat) (fv : Value) (w : World) : Calls Tryz.prog 129 #[.slice A 0 c, fv] w fun e w' => e = .returned (.bool false) ∧ Bel w w' := by
  go_enter Tryz.func129, Tryz.ntmps129
  go_wp2_with fail
  refine (index0P_any A c fv w).mono ?_
  rintro _ wa ⟨rfl, hb⟩
  have HB := Lib.hid hb
  clear hb
  go_wp2_with fail
  go_ret
  exact ⟨rfl, HB.out⟩
set_option maxRecDepth 100000 in
set_option maxHeartbeats 4000000 in
theorem keep_any (w0 : World) (B : Nat → Nat) (x : RSt) (pr : GPromise) (f : Nat) (w : World) (h : RepIs w0 w B x) (hx : x.promises = []) (hf : x.c.f = (f : Int)) (hf0 : 1 ≤ f) (hf1 : f ≤ 21) : Calls Tryz.prog 86 #[.pointer (some ⟨B 0, 0, none⟩), pr.val] w fun e w' =>
    e = .returned (.tuple #[]) ∧ RepIs w0 w' B { x with promises := [pr] } := by
  have HX := Lib.hid hx; have HF := Lib.hid hf; have HF0 := Lib.hid hf0; have HF1 := Lib.hid hf1
  have h1 := h.step ((Bel.refl w).alloc (.cells (GPromise.enc pr).toArray 52))
  have c1 : get? GPromise (w.alloc (.cells (GPromise.enc pr).toArray 52)) ⟨w.heap.size, 0, none⟩ = some pr := get?_new _ _
  have hsz : w0.heap.size ≤ w.heap.size := Below.size h.bel
  have hlt : ∀ j < 20, B j < w.heap.size := h.lt
  obtain ⟨a, bm, ht, hp, g1, g2, g3, g4, g5⟩ := h.more
  have hba := (Bel.refl w).alloc (.cells (GPromise.enc pr).toArray 52)
  have hpq := fun k e => (g5.proms.lt k e).2
  replace g2 := (blkFree_keep (Below.block hba _ (get?_lt g1))).trans g2
  replace g4 := (blkFree_keep (Below.block hba _ (get?_lt g3))).trans g4
  replace g1 := GB.get hba g1
  replace g3 := GB.get hba g3
  replace g5 := g5.chg (Chg.of_bel hba (fun _ => False)) (fun _ _ h => h) (fun _ _ h => h) (fun _ _ h => h) (fun _ _ h => h)
  clear hba
  clear hx hf hf0 hf1
  go_enter Tryz.func86, Tryz.ntmps86
  go_upto_region 2 with fail
  obtain ⟨q, hq⟩ : ∃ q, w.heap.size = q := ⟨_, rfl⟩
  have HQ := Lib.hid hq
  rw [hq] at c1 hlt hsz hpq ⊢
  generalize w.alloc (.cells (GPromise.enc pr).toArray 52) = wa at c1 h1 g1 g2 g3 g4 g5 ⊢
  have H1 := Lib.hid h1; have HPQ := Lib.hid hpq; have C1 := Lib.hid c1; have HLT := Lib.hid hlt; have G1 := Lib.hid g1; have G2 := Lib.hid g2; have G3 := Lib.hid g3; have G4 := Lib.hid g4; have G5 := Lib.hid g5; have HSZ := Lib.hid hsz
  have hps := g5.proms
  rw [HX.out] at hps
  obtain ⟨A, c, hpe, _⟩ := hps.shape
  have HPE := Lib.hid hpe
  have k1 := (ep_get h1)
  clear k1
  have k0 := (rep_cells h1).2.2.2.2.2.2.2.1
  have k1 := GReplicaEpoch.at_promises g3
  simp only [Addr.add_lit, Nat.zero_add] at k1
  change wa.cell? ⟨B 11, 7, none⟩ = some hp.val at k1
  rw [hpe] at k1
  simp only [List.length_nil] at k1
  clear h h1 c1 hlt g1 g2 g3 g4 g5 hps hpe hq hsz hpq
  go_wp2_with fail
  refine (contains0P_any A c _ wa).mono ?_
  rintro _ wb ⟨rfl, hbb⟩
  have HB1 := Lib.hid hbb
  clear hbb k0 k1
  go_upto_region 3 with fail
  have hob : ∀ j < 20, ¬ hp.val.ownBlock = some (B j) := G5.out.np
  have hoq : ¬ hp.val.ownBlock = some q := fun e => by have := HPQ.out q e; omega
  have HOB := Lib.hid hob; have HOQ := Lib.hid hoq
  clear hob hoq
  refine wp_region_H GB (Chg (fun k => hp.val.ownBlock = some k)) [13, 16] [16] GB.rf (by kernel_rfl) ?_
  refine wpH_looks 5 17 [0, 1, 2, 3, 4, 5, 6, 7, 8, 9, 10, 11] rfl GB.rf GB.tr (Chg.refl _) (fun _ _ _ => Chg.tr) (fun _ _ h => Chg.of_bel h _) (by kernel_rfl) (fun _ _ _ _ hd h => And.intro (hd ▸ And.left h) (And.right h)) rfl (by kernel_rfl) ?_
  intro ι W hne CW
  have CC : ∀ z, Chg (fun k => hp.val.ownBlock = some k) wa (W z) := fun z => (Chg.of_bel (Bel.trans HB1.out ((Bel.refl wb).drew)) _).tr (CW.out z)
  have k0 : ∀ z, (W z).cell? ⟨B 0, 10, none⟩ = some (.pointer (some ⟨B 11, 0, none⟩)) := fun z => (CC z).cell (rep_cells H1.out).2.2.2.2.2.2.2.1 (HOB.out 0 (by omega))
  have k1 : ∀ z, (W z).cell? ⟨B 11, 7, none⟩ = some (.slice A 0 c) := fun z => by
    have := (CC z).cell (GReplicaEpoch.at_promises G3.out) (HOB.out 11 (by omega))
    simp only [Addr.add_lit, Nat.zero_add] at this
    change (W z).cell? ⟨B 11, 7, none⟩ = some hp.val at this
    rw [HPE.out] at this
    exact this
  have k2 : ∀ z, get? GPromise (W z) ⟨q, 0, none⟩ = some pr := fun z => (CC z).get C1.out HOQ.out
  clear CC
  repeat (refine wpLooksG_step (fun K hK => ?_); go_simp; refine hK _ ?_; clear hK K)
  refine wpLooksG_nil ?_
  clear k0 k1 k2 CW hne W ι
  refine wpH_force 12 _ rfl (by kernel_rfl) rfl fun w7 hw7 K hK => ?_
  go_simp
  refine hK _ _ (fun _ => GB.al _ _) (fun _ => Chg.of_bel (GB.al _ _) _) ?_
  clear hK K
  have hs : Sl GPromise (w7.alloc (.cells (Enc.enc pr).toArray 52)) (w7.alloc (.cells (Enc.enc pr).toArray 52)).heap.size (some ⟨w7.heap.size, 0, none⟩) 1 [pr] := Sl.new_ (xs := [pr]) (by simp) rfl rfl (by simp)
  have hbf : Bel wa (w7.alloc (.cells (Enc.enc pr).toArray 52)) := (Bel.trans HB1.out (GB.undrew hw7)).trans ((Bel.refl w7).alloc (.cells (Enc.enc pr).toArray 52))
  obtain ⟨p, hp2⟩ : ∃ p, w7.heap.size = p := ⟨_, rfl⟩
  rw [hp2] at hs ⊢
  change wpH _ _ _ _ _ _ _ _ _ _ _ (w7.alloc (.cells (Enc.enc pr).toArray 52))
  generalize w7.alloc (.cells (Enc.enc pr).toArray 52) = wg at hs hbf ⊢
  have HS := Lib.hid hs; have HBF := Lib.hid hbf
  clear hs hbf hp2 hw7
  refine wpH_force 13 _ rfl (by kernel_rfl) rfl fun w8 hw8 K hK => ?_
  have hown := OwnS.step G5.out.proms (HBF.out.trans hw8)
  rw [HX.out] at hown
  obtain ⟨v', w', hrun, ho, hgr, hob⟩ := gAppend_S (P := Tryz.prog) ei53 hown (HS.out.stepB hw8) (by unfold maxLen; simp) (by simp) (by have := HSZ.out; have := Below.size (HBF.out.trans hw8); have := get?_lt C1.out; simp only at this; omega) 53
  rw [HPE.out] at hrun
  change (gAppend #[53, 53] 53 #[.slice A 0 c, .slice (some ⟨p, 0, none⟩) 1 1]).run Tryz.prog w8 = .ok v' w' at hrun
  obtain ⟨A', c', rfl, _⟩ := ho.shape
  go_simp
  refine hK _ _ (fun h => absurd (by simp) h) (fun _ => Chg.of_grown hgr (fun k e => e)) ?_
  clear hK K
  have HW8 := Lib.hid (HBF.out.trans hw8); have HO := Lib.hid ho; have HGR := Lib.hid hgr; have HOB2 := Lib.hid hob
  clear ho hgr hob hw8 hrun hown
  refine wpH_force 14 _ rfl (by kernel_rfl) rfl fun w9 hw9 K hK => ?_
  go_simp
  refine hK _ _ (fun _ => GB.rf _) (fun _ => Chg.refl _ _) ?_
  clear hK K
  refine wpH_force 15 _ rfl (by kernel_rfl) rfl fun w10 hw10 K hK => ?_
  go_simp
  refine hK _ _ (fun _ => GB.rf _) (fun _ => Chg.refl _ _) ?_
  clear hK K
  refine wpH_force 16 _ rfl (by kernel_rfl) rfl fun w11 hw11 K hK => ?_
  have hb11 := GB.tr _ _ _ (GB.tr _ _ _ hw9 hw10) hw11
  have HC11 := Lib.hid (((Chg.of_bel HW8.out _).tr (Chg.of_grown HGR.out (fun k e => e)) : Chg (fun k => hp.val.ownBlock = some k) wa w').tr (Chg.of_bel hb11 _))
  have HO11 := Lib.hid (OwnS.step HO.out hb11)
  have g11 := HC11.out.get G3.out (HOB.out 11 (by omega))
  have f11 := HC11.out.free G4.out (get?_lt G3.out) (HOB.out 11 (by omega))
  have k7 := GReplicaEpoch.at_promises g11
  simp only [Addr.add_lit, Nat.zero_add] at k7
  change w11.cell? ⟨B 11, 7, none⟩ = some hp.val at k7
  rw [HPE.out] at k7
  have z7 : w11.frozen? ⟨B 11, 7, none⟩ = false := frozen_of_free f11
  have G11 := Lib.hid g11; have F11 := Lib.hid f11
  clear g11 f11
  go_simp
  refine hK _ _ (fun h => absurd (by simp) h) (fun h => absurd (by simp) h) ?_
  clear hK K k7 z7 hb11 hw9 hw10 hw11
  have hc12 : Chg (fun k => k = B 11 ∨ hp.val.ownBlock = some k) wa (w11.setCell ⟨B 11, 7, none⟩ (.slice A' ([] ++ [pr] : List GPromise).length c')) := (HC11.out.sub (fun k e => .inr e)).tr (chg_cell (S := fun k => k = B 11 ∨ hp.val.ownBlock = some k) (.inl rfl) _)
  have hg12 : get? GReplicaEpoch (w11.setCell ⟨B 11, 7, none⟩ (.slice A' ([] ++ [pr] : List GPromise).length c')) ⟨B 11, 0, none⟩ = some (epG B { x with promises := [pr] } bm ht ⟨A', 1, c'⟩) := get?_poke G11.out (ep_proms (epG B x bm ht hp) ⟨A', 1, c'⟩)
  have hr12 : RepIs w0 (w11.setCell ⟨B 11, 7, none⟩ (.slice A' ([] ++ [pr] : List GPromise).length c')) B { x with promises := [pr] } := by
    refine H1.out.withProms (asq := x.asks) (ar := x.askRound) (at_ := x.askTime) (l := [pr]) G1.out G2.out G5.out hc12 hg12 (by rw [blkFree_setCell]; exact F11.out) (HO11.out.chg (chg_cell (S := fun k => k = B 11) rfl _) (fun k e he => ?_)) ?_
    · rcases HOB2.out with e2 | e2
      · exact HOB.out 11 (by omega) (by rw [← he, ← e, ← e2])
      · rw [e2] at e; injection e with e; have := H1.out.lt 11 (by omega); have := Below.size HW8.out; omega
    · rcases HOB2.out with e | e
      · exact .inr (.inl e)
      · exact .inr (.inr ⟨_, e, Below.size HW8.out⟩)
  have k12 := GReplicaEpoch.at_promises hg12
  simp only [Addr.add_lit, Nat.zero_add] at k12
  change (w11.setCell ⟨B 11, 7, none⟩ (.slice A' 1 c')).cell? ⟨B 11, 7, none⟩ = some (.slice A' 1 c') at k12
  change RepIs w0 (w11.setCell ⟨B 11, 7, none⟩ (.slice A' 1 c')) B { x with promises := [pr] } at hr12
  change wpH _ _ _ _ _ _ _ _ _ _ _ (w11.setCell ⟨B 11, 7, none⟩ (.slice A' 1 c'))
  generalize w11.setCell ⟨B 11, 7, none⟩ (.slice A' 1 c') = w5 at k12 hr12 ⊢
  have HR5 := Lib.hid hr12; have K12 := Lib.hid k12
  clear k12 hr12 hg12 hc12
  refine wpH_end (by kernel_rfl) (fun wn hwn => ?_) _
  have HRN := Lib.hid (HR5.out.step hwn); have KN := Lib.hid (GB.cell hwn K12.out)
  clear hwn HR5 K12 HO11 HC11 G11 F11 HO HGR HOB2 HW8 HBF HS HB1
  go_upto_region 4 with fail
  refine wp_region_G GB [] GB.rf (by kernel_rfl) ?_
  refine wpG_looks 2 14 [0, 1, 2, 3, 4, 5, 6, 7, 8, 9, 10, 11] rfl GB.rf GB.tr (by kernel_rfl) (fun _ _ _ _ hd h => And.intro (hd ▸ And.left h) (And.right h)) rfl (by kernel_rfl) ?_
  intro ι W hne CW
  have k0 : ∀ z, (W z).cell? ⟨B 0, 10, none⟩ = some (.pointer (some ⟨B 11, 0, none⟩)) := fun z => GB.cell (GB.undrew (CW.out z)) (rep_cells HRN.out).2.2.2.2.2.2.2.1
  have k1 : ∀ z, (W z).cell? ⟨B 11, 7, none⟩ = some (.slice A' 1 c') := fun z => GB.cell (GB.undrew (CW.out z)) KN.out
  have k2 : ∀ z, get? GConf (W z) ⟨B 0, 0, none⟩ = some x.c := fun z => GB.get (GB.undrew (CW.out z)) (rep_cells HRN.out).2.2.2.2.2.2.2.2.2
  repeat (refine wpLooksG_step (fun K hK => ?_); go_simp; refine hK _ ?_; clear hK K)
  refine wpLooksG_nil ?_
  clear k0 k1 k2 CW hne W ι
  have hq3 : (1 : Int) < 2 * (f : Int) + 1 := by have := HF0.out; omega
  refine wpG_force 12 _ rfl (by kernel_rfl) rfl fun wx hwx K hK => ?_
  go_simp
  refine (q_any x.c wx (by have := HF.out; omega) (by have := HF.out; have := HF1.out; omega)).mono ?_
  rw [HF.out]
  rintro _ wy ⟨rfl, hby⟩
  refine hK _ _ (fun _ => hby) ?_
  clear hK K
  refine wpG_force 13 _ rfl (by kernel_rfl) rfl fun wz hwz K hK => ?_
  go_simp
  refine hK _ _ (fun _ => GB.rf _) ?_
  clear hK K
  have hbz := Bel.trans (GB.undrew hwx) (Bel.trans hby hwz)
  refine wpG_end (by kernel_rfl) (fun we hwe => ?_) _
  have HRE := Lib.hid ((HRN.out.step hbz).step hwe)
  clear hbz hwz hby hwx hwe HRN KN
  go_wp2_with fail
  refine bodyPost_ret (results_none rfl _ _ _) rfl ?_
  exact ⟨rfl, HRE.out⟩
end Go.Proofs.YthkifibmihijaaaGreatDoor
/- A replica's own proposal, asked for at time 0. Conditions: those named in each theorem. -/
namespace Go.Proofs.YthkifibmihijaaaGreatDoor
open Go Go.RowKit Go.Gv Go.Proofs

theorem ep_asks (x : GReplicaEpoch) (v : Bool) : Enc.enc ({ x with asks := v } : GReplicaEpoch) = (Enc.enc x).set 4 (.bool v) := by
  show GReplicaEpoch.enc _ = (GReplicaEpoch.enc _).set _ _
  simp [GReplicaEpoch.enc]
theorem ep_askRound (x : GReplicaEpoch) (v : Int) : Enc.enc ({ x with askRound := v } : GReplicaEpoch) = (Enc.enc x).set 5 (.int .i64 v) := by
  show GReplicaEpoch.enc _ = (GReplicaEpoch.enc _).set _ _
  simp [GReplicaEpoch.enc]
theorem ep_askTime (x : GReplicaEpoch) (v : Int) : Enc.enc ({ x with askTime := v } : GReplicaEpoch) = (Enc.enc x).set 6 (.int .u64 v) := by
  show GReplicaEpoch.enc _ = (GReplicaEpoch.enc _).set _ _
  simp [GReplicaEpoch.enc]
set_option maxRecDepth 100000 in
set_option maxHeartbeats 4000000 in
theorem wantPropose_any (w0 : World) (B : Nat → Nat) (x : RSt) (ac : GCoreAct) (f : Nat) (w : World) (h : RepIs w0 w B x) (hac : ac.hash = default) (hn : x.now = 0) (hl : x.out.length ≤ 1000) (hi : x.id ≤ 1000000) (hB : x.book.length ≤ 1000000000) (hf : x.c.f = (f : Int)) (hf0 : 1 ≤ f) (hf1 : f ≤ 21) :
    Calls Tryz.prog 59 #[.pointer (some ⟨B 0, 0, none⟩), ac.val] w fun e w' =>
    e = .returned (.tuple #[]) ∧ ∃ ho, RepIs w0 w' B { x with book := signB x.book (keyP x.id 0 1), floor := max x.floor 1, promises := [promG x 1], asks := true, askRound := ac.round, askTime := 1, ho := ho, out := x.out ++ toAll x.id (closeM ac.round 1) (3 * f + 1) } := by
  have HH := Lib.hid h; have HL := Lib.hid hl; have HI := Lib.hid hi; have HB := Lib.hid hB; have HF := Lib.hid hf; have HF0 := Lib.hid hf0; have HF1 := Lib.hid hf1; have HN := Lib.hid hn
  have h1 := h.step ((Bel.refl w).alloc (.cells (GCoreAct.enc ac).toArray 160))
  have c1 : get? GCoreAct (w.alloc (.cells (GCoreAct.enc ac).toArray 160)) ⟨w.heap.size, 0, none⟩ = some ac := get?_new _ _
  have hlt : ∀ j < 20, B j < w.heap.size := h.lt
  clear hl hi hB hf hf0 hf1 hn
  go_enter Tryz.func59, Tryz.ntmps59
  go_upto_region 1 with fail
  obtain ⟨q, hq⟩ : ∃ q, w.heap.size = q := ⟨_, rfl⟩
  have HQ := Lib.hid hq
  rw [hq] at c1 hlt ⊢
  generalize w.alloc (.cells (GCoreAct.enc ac).toArray 160) = wa at c1 h1 ⊢
  have H1 := Lib.hid h1; have C1 := Lib.hid c1; have HLT := Lib.hid hlt
  have k0 := GCoreAct.at_hash c1
  simp only [Addr.add_lit, Nat.zero_add] at k0
  rw [hac] at k0
  have k1 := (rep_cells h1).2.2.2.1
  have k2 := (rep_cells h1).2.2.2.2.2.1
  clear h h1 c1 hlt hq hac
  go_upto_region 5 with fail
  have hnow : Calls Tryz.prog 26 #[.pointer (some ⟨B 3, 0, none⟩)] wa fun e w' => e = .returned (.int .u64 0) ∧ w' = wa := by
    have := now_any (B 3) (B 4) x.c x.id x.now x.floor x.last x.stamps wa H1.out.st
    rw [HN.out] at this
    exact this
  go_wp2_with fail
  refine hnow.mono ?_
  rintro _ w1 ⟨rfl, hw1⟩
  obtain rfl : wa = w1 := hw1.symm
  clear hnow hw1
  go_wp2_with fail
  refine (last0_any (B 7) (B 8) wa H1.out.led).mono ?_
  rintro _ w1 ⟨rfl, hw1⟩
  obtain rfl : wa = w1 := hw1.symm
  clear hw1
  go_wp2_with fail
  refine (repPromise_any w0 B x 1 wa H1.out (by omega) (by omega) HI.out HB.out).mono ?_
  rintro _ wb ⟨rfl, hr, hch⟩
  obtain ⟨pr, hpr⟩ : ∃ pr, promG x 1 = pr := ⟨_, rfl⟩
  have HPR := Lib.hid hpr
  rw [hpr]
  have HRB := Lib.hid hr
  have CB := Lib.hid (hch.get C1.out (by rintro (e | e); exact absurd e (by have := HLT.out 2 (by omega); simp only; omega); exact absurd e (by have := HLT.out 3 (by omega); simp only; omega)))
  have HSB := Lib.hid (hch.size)
  clear hch hr hpr k0 k1 k2
  go_upto_region 9 with fail
  have g8 : get? GPromise (wb.alloc (.cells (GPromise.enc pr).toArray 52)) ⟨wb.heap.size, 0, none⟩ = some pr := get?_new _ _
  have hbc := (Bel.refl wb).alloc (.cells (GPromise.enc pr).toArray 52)
  obtain ⟨q8, hq8⟩ : ∃ q8, wb.heap.size = q8 := ⟨_, rfl⟩
  have hown8 : ∀ k, x.ho.val.ownBlock = some k → k < q8 := fun k e => by have := ((rep_own HRB.out).1.lt k e).2; omega
  have hlt8 : ∀ j < 20, B j < q8 := fun j hj => by have := HRB.out.lt j hj; omega
  rw [hq8] at g8 ⊢
  change Code.wp _ _ _ _ (wb.alloc (.cells (GPromise.enc pr).toArray 52))
  generalize wb.alloc (.cells (GPromise.enc pr).toArray 52) = wc at g8 hbc ⊢
  have G8 := Lib.hid g8; have OWN8 := Lib.hid hown8; have LT8 := Lib.hid hlt8
  have HRC := Lib.hid (HRB.out.step hbc); have CC1 := Lib.hid (GB.get hbc CB.out)
  clear g8 hown8 hlt8 hbc hq8 HRB CB
  go_upto_region 10 with fail
  obtain ⟨y, hy⟩ : ∃ y : RSt, ({ x with book := signB x.book (keyP x.id 0 1), floor := max x.floor ((1 : Nat) : Int) } : RSt) = y := ⟨_, rfl⟩
  have HY := Lib.hid hy
  rw [hy] at HRC
  clear hy
  obtain ⟨a, bm, ht, hp, g1, g2, g3, g4, g5⟩ := HRC.out.more
  have G1 := Lib.hid g1; have G2 := Lib.hid g2; have G3 := Lib.hid g3; have G4 := Lib.hid g4; have G5 := Lib.hid g5
  clear g1 g2 g3 g4 g5
  refine wp_region_H GB (Chg (fun k => k = B 11)) [21, 24, 27, 30] [] GB.rf (by kernel_rfl) ?_
  refine wpH_looks 12 31 [0, 1, 2, 3, 4, 5, 6, 7, 8, 9, 10, 11, 12, 13, 14, 15, 16, 17, 18] rfl GB.rf GB.tr (Chg.refl _) (fun _ _ _ => Chg.tr) (fun _ _ h => Chg.of_bel h _) (by kernel_rfl) (fun _ _ _ _ hd h => And.intro (hd ▸ And.left h) (And.right h)) rfl (by kernel_rfl) ?_
  intro ι W hne CW
  have CX : ∀ z, Chg (fun k => k = B 11) wc (W z) := fun z => (Chg.of_bel ((Bel.refl wc).drew) _).tr (CW.out z)
  have k0 : ∀ z, (W z).cell? ⟨B 0, 10, none⟩ = some (.pointer (some ⟨B 11, 0, none⟩)) := fun z => (CX z).cell (rep_cells HRC.out).2.2.2.2.2.2.2.1 (HRC.out.ne (i := 11) (by omega) 0 (by omega) (by omega))
  have k1 : ∀ z, (W z).cell? ⟨q, 1, none⟩ = some (.int .i64 ac.round) := fun z => by
    have := GCoreAct.at_round ((CX z).get CC1.out (fun e => by have := HLT.out 11 (by omega); simp only at e; omega))
    simpa only [Addr.add_lit, Nat.zero_add] using this
  clear CX
  repeat (refine wpLooksG_step (fun K hK => ?_); go_simp; refine hK _ ?_; clear hK K)
  refine wpLooksG_nil ?_
  clear k0 k1 CW hne W ι
  have HCH0 := Lib.hid (Chg.refl (fun k => k = B 11) wc)
  refine wpH_force 19 _ rfl (by kernel_rfl) rfl fun v19 hv19 K hK => ?_
  go_simp
  refine hK _ _ (fun _ => GB.rf _) (fun _ => Chg.refl _ _) ?_
  clear hK K
  refine wpH_force 20 _ rfl (by kernel_rfl) rfl fun v20 hv20 K hK => ?_
  go_simp
  refine hK _ _ (fun _ => GB.rf _) (fun _ => Chg.refl _ _) ?_
  clear hK K
  refine wpH_force 21 _ rfl (by kernel_rfl) rfl fun v21 hv21 K hK => ?_
  have hb0 := GB.tr _ _ _ (GB.tr _ _ _ (GB.undrew hv19) hv20) hv21
  have e0 : get? GReplicaEpoch v21 ⟨B 11, 0, none⟩ = some (epG B y bm ht hp) := GB.get hb0 G3.out
  have f0 := (blkFree_keep (Below.block hb0 _ (get?_lt G3.out))).trans G4.out
  have j0 := GReplicaEpoch.at_asks e0
  simp only [Addr.add_lit, Nat.zero_add] at j0
  change v21.cell? ⟨B 11, 4, none⟩ = some (.bool y.asks) at j0
  have z0 : v21.frozen? ⟨B 11, 4, none⟩ = false := frozen_of_free f0
  have EE0 := Lib.hid (show get? GReplicaEpoch (v21.setCell ⟨B 11, 4, none⟩ (.bool true)) ⟨B 11, 0, none⟩ = some ({ epG B y bm ht hp with asks := true }) from get?_poke e0 (ep_asks (epG B y bm ht hp) true)); have FF0 := Lib.hid (show blkFree (v21.setCell ⟨B 11, 4, none⟩ (.bool true)) (B 11) = true by rw [blkFree_setCell]; exact f0)
  have HCH1 := Lib.hid ((HCH0.out.tr (Chg.of_bel hb0 _)).tr (chg_cell (S := fun k => k = B 11) rfl (.bool true) (w := v21) (o := 4)))
  clear e0 f0
  go_simp
  refine hK _ _ (fun h => absurd (by simp) h) (fun _ => chg_cell (S := fun k => k = B 11) rfl _) ?_
  clear hK K j0 z0 hb0 hv19 hv20 hv21 HCH0
  change wpH _ _ _ _ _ _ _ _ _ _ _ (v21.setCell ⟨B 11, 4, none⟩ (.bool true))
  generalize v21.setCell ⟨B 11, 4, none⟩ (.bool true) = u0 at EE0 FF0 HCH1 ⊢
  refine wpH_force 22 _ rfl (by kernel_rfl) rfl fun v22 hv22 K hK => ?_
  go_simp
  refine hK _ _ (fun _ => GB.rf _) (fun _ => Chg.refl _ _) ?_
  clear hK K
  refine wpH_force 23 _ rfl (by kernel_rfl) rfl fun v23 hv23 K hK => ?_
  go_simp
  refine hK _ _ (fun _ => GB.rf _) (fun _ => Chg.refl _ _) ?_
  clear hK K
  refine wpH_force 24 _ rfl (by kernel_rfl) rfl fun v24 hv24 K hK => ?_
  have hb1 := GB.tr _ _ _ (GB.tr _ _ _ hv22 hv23) hv24
  have e1 : get? GReplicaEpoch v24 ⟨B 11, 0, none⟩ = some ({ epG B y bm ht hp with asks := true }) := GB.get hb1 EE0.out
  have f1 := (blkFree_keep (Below.block hb1 _ (get?_lt EE0.out))).trans FF0.out
  have j1 := GReplicaEpoch.at_askRound e1
  simp only [Addr.add_lit, Nat.zero_add] at j1
  change v24.cell? ⟨B 11, 5, none⟩ = some (.int .i64 y.askRound) at j1
  have z1 : v24.frozen? ⟨B 11, 5, none⟩ = false := frozen_of_free f1
  have EE1 := Lib.hid (show get? GReplicaEpoch (v24.setCell ⟨B 11, 5, none⟩ (.int .i64 ac.round)) ⟨B 11, 0, none⟩ = some ({ epG B y bm ht hp with asks := true, askRound := ac.round }) from get?_poke e1 (ep_askRound ({ epG B y bm ht hp with asks := true }) ac.round)); have FF1 := Lib.hid (show blkFree (v24.setCell ⟨B 11, 5, none⟩ (.int .i64 ac.round)) (B 11) = true by rw [blkFree_setCell]; exact f1)
  have HCH2 := Lib.hid ((HCH1.out.tr (Chg.of_bel hb1 _)).tr (chg_cell (S := fun k => k = B 11) rfl (.int .i64 ac.round) (w := v24) (o := 5)))
  clear e1 f1
  go_simp
  refine hK _ _ (fun h => absurd (by simp) h) (fun _ => chg_cell (S := fun k => k = B 11) rfl _) ?_
  clear hK K j1 z1 hb1 hv22 hv23 hv24 HCH1
  change wpH _ _ _ _ _ _ _ _ _ _ _ (v24.setCell ⟨B 11, 5, none⟩ (.int .i64 ac.round))
  generalize v24.setCell ⟨B 11, 5, none⟩ (.int .i64 ac.round) = u1 at EE1 FF1 HCH2 ⊢
  refine wpH_force 25 _ rfl (by kernel_rfl) rfl fun v25 hv25 K hK => ?_
  go_simp
  refine hK _ _ (fun _ => GB.rf _) (fun _ => Chg.refl _ _) ?_
  clear hK K
  refine wpH_force 26 _ rfl (by kernel_rfl) rfl fun v26 hv26 K hK => ?_
  go_simp
  refine hK _ _ (fun _ => GB.rf _) (fun _ => Chg.refl _ _) ?_
  clear hK K
  refine wpH_force 27 _ rfl (by kernel_rfl) rfl fun v27 hv27 K hK => ?_
  have hb2 := GB.tr _ _ _ (GB.tr _ _ _ hv25 hv26) hv27
  have e2 : get? GReplicaEpoch v27 ⟨B 11, 0, none⟩ = some ({ epG B y bm ht hp with asks := true, askRound := ac.round }) := GB.get hb2 EE1.out
  have f2 := (blkFree_keep (Below.block hb2 _ (get?_lt EE1.out))).trans FF1.out
  have j2 := GReplicaEpoch.at_askTime e2
  simp only [Addr.add_lit, Nat.zero_add] at j2
  change v27.cell? ⟨B 11, 6, none⟩ = some (.int .u64 y.askTime) at j2
  have z2 : v27.frozen? ⟨B 11, 6, none⟩ = false := frozen_of_free f2
  have EE2 := Lib.hid (show get? GReplicaEpoch (v27.setCell ⟨B 11, 6, none⟩ (.int .u64 1)) ⟨B 11, 0, none⟩ = some ({ epG B y bm ht hp with asks := true, askRound := ac.round, askTime := 1 }) from get?_poke e2 (ep_askTime ({ epG B y bm ht hp with asks := true, askRound := ac.round }) 1)); have FF2 := Lib.hid (show blkFree (v27.setCell ⟨B 11, 6, none⟩ (.int .u64 1)) (B 11) = true by rw [blkFree_setCell]; exact f2)
  have HCH3 := Lib.hid ((HCH2.out.tr (Chg.of_bel hb2 _)).tr (chg_cell (S := fun k => k = B 11) rfl (.int .u64 1) (w := v27) (o := 6)))
  clear e2 f2
  go_simp
  refine hK _ _ (fun h => absurd (by simp) h) (fun _ => chg_cell (S := fun k => k = B 11) rfl _) ?_
  clear hK K j2 z2 hb2 hv25 hv26 hv27 HCH2
  change wpH _ _ _ _ _ _ _ _ _ _ _ (v27.setCell ⟨B 11, 6, none⟩ (.int .u64 1))
  generalize v27.setCell ⟨B 11, 6, none⟩ (.int .u64 1) = u2 at EE2 FF2 HCH3 ⊢
  refine wpH_force 28 _ rfl (by kernel_rfl) rfl fun v28 hv28 K hK => ?_
  go_simp
  refine hK _ _ (fun _ => GB.rf _) (fun _ => Chg.refl _ _) ?_
  clear hK K
  refine wpH_force 29 _ rfl (by kernel_rfl) rfl fun v29 hv29 K hK => ?_
  go_simp
  refine hK _ _ (fun _ => GB.rf _) (fun _ => Chg.refl _ _) ?_
  clear hK K
  refine wpH_force 30 _ rfl (by kernel_rfl) rfl fun v30 hv30 K hK => ?_
  have hb3 := GB.tr _ _ _ (GB.tr _ _ _ hv28 hv29) hv30
  have e3 : get? GReplicaEpoch v30 ⟨B 11, 0, none⟩ = some ({ epG B y bm ht hp with asks := true, askRound := ac.round, askTime := 1 }) := GB.get hb3 EE2.out
  have f3 := (blkFree_keep (Below.block hb3 _ (get?_lt EE2.out))).trans FF2.out
  have j3 := GReplicaEpoch.at_promises e3
  simp only [Addr.add_lit, Nat.zero_add] at j3
  change v30.cell? ⟨B 11, 7, none⟩ = some (.slice hp.a hp.len hp.cap) at j3
  have z3 : v30.frozen? ⟨B 11, 7, none⟩ = false := frozen_of_free f3
  have EE3 := Lib.hid (show get? GReplicaEpoch (v30.setCell ⟨B 11, 7, none⟩ (.slice none 0 0)) ⟨B 11, 0, none⟩ = some ({ epG B y bm ht hp with asks := true, askRound := ac.round, askTime := 1, promises := nilH }) from get?_poke e3 (ep_proms ({ epG B y bm ht hp with asks := true, askRound := ac.round, askTime := 1 }) nilH)); have FF3 := Lib.hid (show blkFree (v30.setCell ⟨B 11, 7, none⟩ (.slice none 0 0)) (B 11) = true by rw [blkFree_setCell]; exact f3)
  have HCH4 := Lib.hid ((HCH3.out.tr (Chg.of_bel hb3 _)).tr (chg_cell (S := fun k => k = B 11) rfl (.slice none 0 0) (w := v30) (o := 7)))
  clear e3 f3
  go_simp
  refine hK _ _ (fun h => absurd (by simp) h) (fun _ => chg_cell (S := fun k => k = B 11) rfl _) ?_
  clear hK K j3 z3 hb3 hv28 hv29 hv30 HCH3
  change wpH _ _ _ _ _ _ _ _ _ _ _ (v30.setCell ⟨B 11, 7, none⟩ (.slice none 0 0))
  generalize v30.setCell ⟨B 11, 7, none⟩ (.slice none 0 0) = u3 at EE3 FF3 HCH4 ⊢
  have HR10 := Lib.hid (show RepIs w0 u3 B { y with promises := [], asks := true, askRound := ac.round, askTime := 1 } from
    HRC.out.withProms (asq := true) (ar := ac.round) (at_ := 1) (l := []) (hp' := nilH) G1.out G2.out G5.out (HCH4.out.sub (fun k e => .inl e)) EE3.out FF3.out (OwnS.nil _ _ _) (.inl rfl))
  have G8a := Lib.hid (HCH4.out.get G8.out (fun e => by have := LT8.out 11 (by omega); simp only at e; omega))
  clear EE0 EE1 EE2 EE3 FF0 FF1 FF2 FF3 HCH4 G1 G2 G3 G4 G5 G8 HRC CC1
  refine wpH_end (by kernel_rfl) (fun wn hwn => ?_) _
  have HRN := Lib.hid (HR10.out.step hwn); have G8n := Lib.hid (GB.get hwn G8a.out)
  clear hwn HR10 G8a
  go_wp2_with fail
  refine (ask_any w0 B _ f wn HRN.out (by rw [← HY.out]; exact HL.out) (by rw [← HY.out]; exact HF.out) HF1.out).mono ?_
  rintro _ wk ⟨rfl, ho, hr, hs⟩
  have g9 := hs.1.get G8n.out (by
    rw [← HY.out]
    rintro (e | e)
    · have := LT8.out 0 (by omega); simp only at e; omega
    · have := OWN8.out _ e; simp only at this; omega)
  have HRK := Lib.hid hr
  clear hr hs HRN G8n
  go_wp2_with fail
  refine (keep_any w0 B _ pr f wk HRK.out rfl (by rw [← HY.out]; exact HF.out) HF0.out HF1.out).mono ?_
  rintro _ we ⟨rfl, hr⟩
  have HRE := Lib.hid hr
  clear hr g9
  go_wp2_with fail
  refine bodyPost_end (results_none rfl _ _ _) rfl ⟨rfl, ho, ?_⟩
  have := HRE.out
  rw [← HY.out] at this
  rw [← HPR.out] at this
  exact this
end Go.Proofs.YthkifibmihijaaaGreatDoor
/- What the core wants is done: nothing, or a proposal. Conditions: those named in each theorem. -/
namespace Go.Proofs.YthkifibmihijaaaGreatDoor
open Go Go.RowKit Go.Gv Go.Proofs

set_option maxRecDepth 100000 in
set_option maxHeartbeats 4000000 in
theorem want0_any (w0 : World) (B : Nat → Nat) (x : RSt) (w : World) (h : RepIs w0 w B x) : Calls Tryz.prog 27 #[.pointer (some ⟨B 0, 0, none⟩), .slice none 0 0] w fun e w' => e = .returned (.tuple #[]) ∧ w' = w := by
  have HH := Lib.hid h
  have k0 := (rep_cells h).2.2.2.2.2.2.2.1
  clear h
  go_enter Tryz.func27, Tryz.ntmps27
  go_wp2_with fail
  go_loopw [14] (fun iv wr => iv = .int .i64 0 ∧ wr = w) (fun _ _ => 0)
  case atStart => exact ⟨rfl, rfl⟩
  case round =>
    obtain ⟨rfl, rfl⟩ := hrel
    go_wp2_with fail
    exact bodyPost_end (results_none rfl _ _ _) rfl ⟨rfl, rfl⟩
theorem neq_ep (a : Addr) (w : World) : (binOp .neq 99 (.pointer (some a)) (.pointer (some a))).run Tryz.prog w = .ok (.bool false) w := by
  have hp : Tryz.prog.underlying 99 = some (.pointer 116) := by kernel_rfl
  obtain ⟨j, hj⟩ := Option.isSome_iff_exists.1 (show (Tryz.prog.info? 116).isSome = true by kernel_rfl)
  have h : ∀ d : Nat, (Op.equalIn (d + 1) 99 (.pointer (some a)) (.pointer (some a))).run Tryz.prog w = .ok true w := fun d => by
    simp [Op.equalIn, run_underlying hp, sizeOf, typeInfo, hj, run_sameAddr_same]
  simp only [binOp]
  simp [Op.equal, Op.maxDepth, h 9999]
def proposed (x : RSt) (r : Int) (f : Nat) : RSt := { x with book := signB x.book (keyP x.id 0 1), floor := max x.floor 1, promises := [promG x 1], asks := true, askRound := r, askTime := 1, out := x.out ++ toAll x.id (closeM r 1) (3 * f + 1) }
set_option maxRecDepth 100000 in
set_option maxHeartbeats 4000000 in
theorem want1_any (w0 : World) (B : Nat → Nat) (x : RSt) (ac : GCoreAct) (A : Option Addr) (f : Nat) (w : World) (h : RepIs w0 w B x) (hs : Sl GCoreAct w w.heap.size A 1 [ac]) (hk : ac.kind = 1) (hac : ac.hash = default) (hn : x.now = 0) (hl : x.out.length ≤ 1000) (hi : x.id ≤ 1000000) (hB : x.book.length ≤ 1000000000) (hf : x.c.f = (f : Int)) (hf0 : 1 ≤ f) (hf1 : f ≤ 21) :
    Calls Tryz.prog 27 #[.pointer (some ⟨B 0, 0, none⟩), .slice A 1 1] w fun e w' => e = .returned (.tuple #[]) ∧ ∃ ho, RepIs w0 w' B { proposed x ac.round f with ho := ho } := by
  have HH := Lib.hid h; have HS := Lib.hid hs
  have k0 := (rep_cells h).2.2.2.2.2.2.2.1
  have HW := Lib.hid (fun (w2 : World) (h2 : RepIs w0 w2 B x) => wantPropose_any w0 B x ac f w2 h2 hac hn hl hi hB hf hf0 hf1)
  have HK := Lib.hid hk
  clear h hs hac hn hl hi hB hf hf0 hf1 hk
  go_enter Tryz.func27, Tryz.ntmps27
  go_wp2_with fail
  go_loopw [14] (fun iv wr => (iv = .int .i64 0 ∧ wr = w) ∨ (iv = .int .i64 1 ∧ ∃ ho, Hid (RepIs w0 wr B { proposed x ac.round f with ho := ho }))) (fun iv _ => 1 - (intOf iv).toNat)
  case atStart => exact .inl ⟨rfl, rfl⟩
  case round =>
    rcases hrel with ⟨rfl, rfl⟩ | ⟨rfl, ho, hr⟩
    · obtain ⟨ad, y, hA, hab, hy, g0⟩ := HS.out.at_ (k := 0) (by omega)
      simp only [List.getElem?_cons_zero, Option.some.injEq] at hy
      subst hy hA
      rw [Nat.zero_mul] at g0
      have hadd : ad.add 0 = ad := by simp [Addr.add]
      rw [hadd] at g0
      have hba := (Bel.refl wr).alloc (.cells (GCoreAct.enc ac).toArray 160)
      have h1 := HH.out.step hba
      have H1 := Lib.hid h1
      have k1 := (rep_cells h1).2.2.2.2.2.2.2.1
      have c1 : get? GCoreAct (wr.alloc (.cells (GCoreAct.enc ac).toArray 160)) ⟨wr.heap.size, 0, none⟩ = some ac := get?_new _ _
      have kk := GCoreAct.at_kind c1
      simp only [Addr.add_lit, Nat.zero_add] at kk
      rw [HK.out] at kk
      have hne := neq_ep ⟨B 11, 0, none⟩ (wr.alloc (.cells (GCoreAct.enc ac).toArray 160))
      clear hba h1
      go_wp2_with fail
      refine (HW.out _ H1.out).mono ?_
      rintro _ w2 ⟨rfl, ho, hr⟩
      have HR := Lib.hid hr
      clear hr H1 k1 c1 kk g0 hadd hab
      go_wp2_with fail
      go_roundw
      case rel => exact .inr ⟨rfl, ho, HR⟩
      case measure => simp [intOf]
    · go_wp2_with fail
      exact bodyPost_end (results_none rfl _ _ _) rfl ⟨rfl, ho, hr.out⟩
set_option maxRecDepth 100000 in
set_option maxHeartbeats 4000000 in
theorem do0_any (w0 : World) (B : Nat → Nat) (x : RSt) (e : GReplicaEvent) (w : World) (h : RepIs w0 w B x) (hst : x.started = false) : Calls Tryz.prog 8 #[.pointer (some ⟨B 0, 0, none⟩), e.val] w fun y w' => y = .returned (.slice none 0 0) ∧ Bel w w' := by
  have hba := (Bel.refl w).alloc (.cells (GReplicaEvent.enc e).toArray 75)
  have k0 := (rep_cells (h.step hba)).2.2.1
  rw [hst] at k0
  have HB := Lib.hid hba
  clear h hba hst
  go_enter Tryz.func8, Tryz.ntmps8
  go_wp2_with fail
  go_ret
  exact ⟨rfl, HB.out⟩
end Go.Proofs.YthkifibmihijaaaGreatDoor
/- What the core wants is done: a timer. Conditions: those named in each theorem. -/
namespace Go.Proofs.YthkifibmihijaaaGreatDoor
open Go Go.RowKit Go.Gv Go.Proofs

theorem ep_timers (x : GReplicaEpoch) (h : Hdr) : Enc.enc ({ x with timers := h } : GReplicaEpoch) = (Enc.enc x).set 3 (.slice h.a h.len h.cap) := by
  show GReplicaEpoch.enc _ = (GReplicaEpoch.enc _).set _ _
  simp [GReplicaEpoch.enc, Hdr.val]
theorem RepIs.withTimers {w0 w w' : World} {B : Nat → Nat} {x : RSt} (h : RepIs w0 w B x) {a : Option Addr} {bm : Nat} {ht hp ht' : Hdr} {l : List GReplicaTimer} (h1 : get? GReplicaReplica w ⟨B 0, 0, none⟩ = some (repG B x a)) (h2 : blkFree w (B 0) = true) (h5 : Slices w0 w B x ht hp)
    (hc : Chg (fun k => k = B 11 ∨ ht.val.ownBlock = some k) w w') (hg : get? GReplicaEpoch w' ⟨B 11, 0, none⟩ = some (epG B { x with timers := l } bm ht' hp)) (hf : blkFree w' (B 11) = true) (ho1 : OwnS w' w0.heap.size 144 ht'.val l)
    (hb : ht'.val.ownBlock = none ∨ ht'.val.ownBlock = ht.val.ownBlock ∨ ∃ k, ht'.val.ownBlock = some k ∧ w.heap.size ≤ k) : RepIs w0 w' B { x with timers := l } := by
  have n := fun (j : Nat) (hj : j < 20) (hne : j ≠ 11) => show ¬ (B j = B 11 ∨ ht.val.ownBlock = some (B j)) from fun e => e.elim (h.ne (i := 11) (by omega) j hj hne) (h5.nt j hj)
  have hnew : ∀ k, (k = B 11 ∨ ht.val.ownBlock = some k) → w0.heap.size ≤ k := fun k e => e.elim (fun e => e ▸ h.new 11 (by omega)) (fun e => (h5.timers.lt k e).1)
  refine ⟨Chg.bel2 h.bel hc hnew, h.new, fun j hj => Nat.lt_of_lt_of_le (h.lt j hj) hc.size, h.apart, h.book.chg hc (n 1 (by omega) (by omega)) (n 2 (by omega) (by omega)), h.st.chg hc (n 3 (by omega) (by omega)) (n 4 (by omega) (by omega)), h.tb.chg hc (n 5 (by omega) (by omega)) (n 6 (by omega) (by omega)), h.led.chg hc (n 7 (by omega) (by omega)) (n 8 (by omega) (by omega)),
    h.rev.chg hc (n 9 (by omega) (by omega)) (n 10 (by omega) (by omega)), h.core.chg hc (n 12 (by omega) (by omega)) (n 13 (by omega) (by omega)) (n 18 (by omega) (by omega)) (n 14 (by omega) (by omega)) (n 16 (by omega) (by omega)) (n 17 (by omega) (by omega)), hc.map h.pre (n 19 (by omega) (by omega)),
    a, bm, ht', hp, hc.get h1 (n 0 (by omega) (by omega)), hc.free h2 (get?_lt h1) (n 0 (by omega) (by omega)), hg, hf, ?_⟩
  refine ⟨h5.out.chg hc ?_, ho1, h5.proms.chg hc ?_, h5.no, ?_, h5.np, ?_, ?_, fun p e => ?_⟩
  · intro k e e2
    rcases e2 with e2 | e2
    · exact h5.no 11 (by omega) (by rw [e, e2])
    · exact (h5.ot k e).1 e2
  · intro k e e2
    rcases e2 with e2 | e2
    · exact h5.np 11 (by omega) (by rw [e, e2])
    · exact h5.tp k e2 e
  · intro j hj e
    rcases hb with hb | hb | ⟨k, hk, hlt⟩
    · rw [hb] at e; cases e
    · rw [hb] at e; exact h5.nt j hj e
    · rw [hk] at e; injection e with e; have := h.lt j hj; omega
  · intro k e
    refine ⟨fun e2 => ?_, (h5.ot k e).2⟩
    rcases hb with hb | hb | ⟨k', hk, hlt⟩
    · rw [hb] at e2; cases e2
    · rw [hb] at e2; exact (h5.ot k e).1 e2
    · rw [hk] at e2; injection e2 with e2; have := (h5.out.lt k e).2; omega
  · intro k e e2
    rcases hb with hb | hb | ⟨k', hk, hlt⟩
    · rw [hb] at e; cases e
    · rw [hb] at e; exact h5.tp k e e2
    · rw [hk] at e; injection e with e; have := (h5.proms.lt k e2).2; omega
  · obtain ⟨p1, p2, p3, p4, p5, p6⟩ := h5.pv p e
    refine ⟨hc.get p1 ?_, p2, p3, p4, ?_, p6⟩
    · rintro (e | e)
      · exact p3 11 (by omega) e
      · exact p5 e
    · intro e
      rcases hb with hb | hb | ⟨k', hk, hlt⟩
      · rw [hb] at e; cases e
      · rw [hb] at e; exact p5 e
      · rw [hk] at e; injection e with e; have := get?_lt p1; simp only at this; omega
def timed (x : RSt) (v : Int) : RSt := { x with timers := x.timers ++ [⟨10, ⟨v, 0⟩⟩] }
set_option maxRecDepth 100000 in
set_option maxHeartbeats 8000000 in
theorem want4_any (w0 : World) (B : Nat → Nat) (x : RSt) (v : Int) (A : Option Addr) (w : World) (h : RepIs w0 w B x) (hs : Sl GCoreAct w w.heap.size A 1 [⟨4, 0, v, default⟩]) (hn : x.now = 0) (hl : x.timers.length ≤ 1000000) :
    Calls Tryz.prog 27 #[.pointer (some ⟨B 0, 0, none⟩), .slice A 1 1] w fun e w' => e = .returned (.tuple #[]) ∧ RepIs w0 w' B (timed x v) := by
  have HH := Lib.hid h; have HS := Lib.hid hs; have HN := Lib.hid hn; have HL := Lib.hid hl
  have k0 := (rep_cells h).2.2.2.2.2.2.2.1
  clear h hs hn hl
  go_enter Tryz.func27, Tryz.ntmps27
  go_wp2_with fail
  go_loopw [14] (fun iv wr => (iv = .int .i64 0 ∧ wr = w) ∨ (iv = .int .i64 1 ∧ Hid (RepIs w0 wr B (timed x v)))) (fun iv _ => 1 - (intOf iv).toNat)
  case atStart => exact .inl ⟨rfl, rfl⟩
  case round =>
    rcases hrel with ⟨rfl, rfl⟩ | ⟨rfl, hr⟩
    · obtain ⟨ad, y, hA, hab, hy, g0⟩ := HS.out.at_ (k := 0) (by omega)
      simp only [List.getElem?_cons_zero, Option.some.injEq] at hy
      subst hy hA
      rw [Nat.zero_mul] at g0
      have hadd : ad.add 0 = ad := by simp [Addr.add]
      rw [hadd] at g0
      obtain ⟨ac, hac⟩ : ∃ ac : GCoreAct, (⟨4, 0, v, default⟩ : GCoreAct) = ac := ⟨_, rfl⟩
      rw [hac] at g0
      have HAC := Lib.hid hac
      have hba := (Bel.refl wr).alloc (.cells (GCoreAct.enc ac).toArray 160)
      have hsz : w0.heap.size ≤ wr.heap.size := Below.size HH.out.bel
      have h1 := HH.out.step hba
      obtain ⟨a, bm, ht, hp, g1, g2, g3, g4, g5⟩ := HH.out.more
      have hpq := fun k e => (g5.timers.lt k e).2
      replace g2 := (blkFree_keep (Below.block hba _ (get?_lt g1))).trans g2
      replace g4 := (blkFree_keep (Below.block hba _ (get?_lt g3))).trans g4
      replace g1 := GB.get hba g1
      replace g3 := GB.get hba g3
      replace g5 := g5.chg (Chg.of_bel hba (fun _ => False)) (fun _ _ h => h) (fun _ _ h => h) (fun _ _ h => h) (fun _ _ h => h)
      have k1 := (rep_cells h1).2.2.2.2.2.2.2.1
      have k2 := (rep_cells h1).2.2.2.1
      have c1 : get? GCoreAct (wr.alloc (.cells (GCoreAct.enc ac).toArray 160)) ⟨wr.heap.size, 0, none⟩ = some ac := get?_new _ _
      have kk := GCoreAct.at_kind c1
      simp only [Addr.add_lit, Nat.zero_add] at kk
      have hk4 : ac.kind = 4 := by rw [← hac]
      rw [hk4] at kk
      have hne := neq_ep ⟨B 11, 0, none⟩ (wr.alloc (.cells (GCoreAct.enc ac).toArray 160))
      have H1 := Lib.hid h1; have C1 := Lib.hid c1; have G1 := Lib.hid g1; have G2 := Lib.hid g2; have G3 := Lib.hid g3; have G4 := Lib.hid g4; have G5 := Lib.hid g5; have HPQ := Lib.hid hpq; have HSZ := Lib.hid hsz
      clear hba h1 hac c1 g1 g2 g3 g4 g5 hpq hsz
      go_upto_region 13 with fail
      refine wp_region_G GB [] GB.rf (by kernel_rfl) ?_
      refine wpG_looks 1 12 [0, 1, 2, 3, 4, 5, 6, 7, 8, 9, 10] rfl GB.rf GB.tr (by kernel_rfl) (fun _ _ _ _ hd h => And.intro (hd ▸ And.left h) (And.right h)) rfl (by kernel_rfl) ?_
      intro ι W hne2 CW
      have j0 : ∀ z, (W z).cell? ⟨B 0, 5, none⟩ = some (.pointer (some ⟨B 3, 0, none⟩)) := fun z => GB.cell (GB.undrew (CW.out z)) k2
      have j1 : ∀ z, (W z).cell? ⟨wr.heap.size, 1, none⟩ = some (.int .i64 0) := fun z => by
        have := GCoreAct.at_round (GB.get (GB.undrew (CW.out z)) C1.out)
        simp only [Addr.add_lit, Nat.zero_add] at this
        rw [← HAC.out] at this
        exact this
      have HNW := Lib.hid (show ∀ z, Calls Tryz.prog 26 #[.pointer (some ⟨B 3, 0, none⟩)] (W z) fun e w' => e = .returned (.int .u64 0) ∧ w' = W z from fun z => by
        have := now_any (B 3) (B 4) x.c x.id x.now x.floor x.last x.stamps (W z) (H1.out.st.step (GB.undrew (CW.out z)))
        rw [HN.out] at this
        exact this)
      refine wpLooksG_step (fun K hK => ?_); go_simp; refine hK _ ?_; clear hK K
      refine wpLooksG_step (fun K hK => ?_); go_simp; refine hK _ ?_; clear hK K
      refine wpLooksG_step (fun K hK => ?_); go_simp; refine hK _ ?_; clear hK K
      refine wpLooksG_step (fun K hK => ?_); go_simp; refine hK _ ?_; clear hK K
      refine wpLooksG_step (fun K hK => ?_)
      go_simp
      refine ⟨_, fun z => quietG (HNW.out z) (fun _ _ h => h), hK _ ?_⟩
      clear hK K
      refine wpLooksG_step (fun K hK => ?_); go_simp; refine hK _ ?_; clear hK K
      refine wpLooksG_step (fun K hK => ?_); go_simp; refine hK _ ?_; clear hK K
      refine wpLooksG_step (fun K hK => ?_); go_simp; refine hK _ ?_; clear hK K
      refine wpLooksG_step (fun K hK => ?_); go_simp; refine hK _ ?_; clear hK K
      refine wpLooksG_step (fun K hK => ?_); go_simp; refine hK _ ?_; clear hK K
      refine wpLooksG_step (fun K hK => ?_); go_simp; refine hK _ ?_; clear hK K
      refine wpLooksG_nil ?_
      clear j0 j1 HNW CW hne2 W ι
      refine wpG_force 11 _ rfl (by kernel_rfl) rfl fun wx hwx K hK => ?_
      go_simp
      refine hK _ _ (fun _ => GB.rf _) ?_
      clear hK K
      refine wpG_end (by kernel_rfl) (fun wb hwb => ?_) _
      have HB1 := Lib.hid (Bel.trans (GB.undrew hwx) hwb)
      clear hwx hwb k0 k1 k2 kk hk4 hne g0 hadd hab
      go_upto_region 14 with fail
      obtain ⟨q, hq⟩ : ∃ q, wr.heap.size = q := ⟨_, rfl⟩
      rw [hq] at C1 HPQ HSZ ⊢
      generalize wr.alloc (.cells (GCoreAct.enc ac).toArray 160) = wa at H1 C1 G1 G2 G3 G4 G5 HB1
      clear hq
      have hob : ∀ j < 20, ¬ ht.val.ownBlock = some (B j) := G5.out.nt
      have hoq : ¬ ht.val.ownBlock = some q := fun e => by have := HPQ.out q e; omega
      have HOB := Lib.hid hob; have HOQ := Lib.hid hoq
      clear hob hoq
      obtain ⟨A0, c0, hpe, _⟩ := G5.out.timers.shape
      have HPE := Lib.hid hpe
      clear hpe
      obtain ⟨m, hm⟩ : ∃ m, x.timers.length = m := ⟨_, rfl⟩
      rw [hm] at HPE HL
      have HMM := Lib.hid hm
      clear hm
      refine wp_region_H GB (Chg (fun k => ht.val.ownBlock = some k)) [19, 22] [22] GB.rf (by kernel_rfl) ?_
      refine wpH_looks 5 23 [0, 1, 2, 3, 4, 5, 6, 7, 8, 9, 10, 11, 12, 13, 14, 15, 16, 17] rfl GB.rf GB.tr (Chg.refl _) (fun _ _ _ => Chg.tr) (fun _ _ h => Chg.of_bel h _) (by kernel_rfl) (fun _ _ _ _ hd h => And.intro (hd ▸ And.left h) (And.right h)) rfl (by kernel_rfl) ?_
      intro ι W hne2 CW
      have CC : ∀ z, Chg (fun k => ht.val.ownBlock = some k) wa (W z) := fun z => (Chg.of_bel (Bel.trans HB1.out ((Bel.refl wb).drew)) _).tr (CW.out z)
      have k0 : ∀ z, (W z).cell? ⟨B 0, 10, none⟩ = some (.pointer (some ⟨B 11, 0, none⟩)) := fun z => (CC z).cell (rep_cells H1.out).2.2.2.2.2.2.2.1 (HOB.out 0 (by omega))
      have k1 : ∀ z, (W z).cell? ⟨B 11, 3, none⟩ = some (.slice A0 m c0) := fun z => by
        have := (CC z).cell (GReplicaEpoch.at_timers G3.out) (HOB.out 11 (by omega))
        simp only [Addr.add_lit, Nat.zero_add] at this
        change (W z).cell? ⟨B 11, 3, none⟩ = some ht.val at this
        rw [HPE.out] at this
        exact this
      have k2 : ∀ z, (W z).cell? ⟨q, 1, none⟩ = some (.int .i64 0) := fun z => by
        have := GCoreAct.at_round ((CC z).get C1.out HOQ.out)
        simp only [Addr.add_lit, Nat.zero_add] at this
        rw [← HAC.out] at this
        exact this
      have k3 : ∀ z, (W z).cell? ⟨q, 2, none⟩ = some (.int .i64 v) := fun z => by
        have := GCoreAct.at_valid ((CC z).get C1.out HOQ.out)
        simp only [Addr.add_lit, Nat.zero_add] at this
        rw [← HAC.out] at this
        exact this
      clear CC
      repeat (refine wpLooksG_step (fun K hK => ?_); go_simp; refine hK _ ?_; clear hK K)
      refine wpLooksG_nil ?_
      clear k0 k1 k2 k3 CW hne2 W ι
      refine wpH_force 18 _ rfl (by kernel_rfl) rfl fun w7 hw7 K hK => ?_
      go_simp
      refine hK _ _ (fun _ => GB.al _ _) (fun _ => Chg.of_bel (GB.al _ _) _) ?_
      clear hK K
      obtain ⟨tm, htm⟩ : ∃ tm : GReplicaTimer, (⟨10, ⟨v, 0⟩⟩ : GReplicaTimer) = tm := ⟨_, rfl⟩
      have HTM := Lib.hid htm
      have hs : Sl GReplicaTimer (w7.alloc (.cells (Enc.enc tm).toArray 144)) (w7.alloc (.cells (Enc.enc tm).toArray 144)).heap.size (some ⟨w7.heap.size, 0, none⟩) 1 [tm] := Sl.new_ (xs := [tm]) (by simp) rfl rfl (by simp)
      have hbf : Bel wa (w7.alloc (.cells (Enc.enc tm).toArray 144)) := (Bel.trans HB1.out (GB.undrew hw7)).trans ((Bel.refl w7).alloc (.cells (Enc.enc tm).toArray 144))
      obtain ⟨p, hp2⟩ : ∃ p, w7.heap.size = p := ⟨_, rfl⟩
      rw [hp2] at hs ⊢
      rw [← htm] at hs hbf
      change wpH _ _ _ _ _ _ _ _ _ _ _ (w7.alloc (.cells (Enc.enc (⟨10, ⟨v, 0⟩⟩ : GReplicaTimer)).toArray 144))
      generalize w7.alloc (.cells (Enc.enc (⟨10, ⟨v, 0⟩⟩ : GReplicaTimer)).toArray 144) = wg at hs hbf ⊢
      rw [htm] at hs
      have HS2 := Lib.hid hs; have HBF := Lib.hid hbf
      clear hs hbf hp2 hw7 htm
      refine wpH_force 19 _ rfl (by kernel_rfl) rfl fun w8 hw8 K hK => ?_
      have hown := OwnS.step G5.out.timers (HBF.out.trans hw8)
      obtain ⟨v', w', hrun, ho, hgr, hob⟩ := gAppend_S (P := Tryz.prog) ei112 hown (HS2.out.stepB hw8) (by have := HL.out; have := HMM.out; unfold maxLen; omega) (by have := HL.out; have := HMM.out; omega) (by have := HSZ.out; have := Below.size (HBF.out.trans hw8); have := get?_lt C1.out; simp only at this; omega) 112
      rw [HPE.out] at hrun
      change (gAppend #[112, 112] 112 #[.slice A0 m c0, .slice (some ⟨p, 0, none⟩) 1 1]).run Tryz.prog w8 = .ok v' w' at hrun
      obtain ⟨A', c', rfl, _⟩ := ho.shape
      obtain ⟨m2, hm2⟩ : ∃ m2, (x.timers ++ [tm]).length = m2 := ⟨_, rfl⟩
      rw [hm2] at hrun ho hob
      have HM2 := Lib.hid hm2
      clear hm2
      go_simp
      refine hK _ _ (fun h => absurd (by simp) h) (fun _ => Chg.of_grown hgr (fun k e => e)) ?_
      clear hK K
      have HW8 := Lib.hid (HBF.out.trans hw8); have HO := Lib.hid ho; have HGR := Lib.hid hgr; have HOB2 := Lib.hid hob
      clear ho hgr hob hw8 hrun hown
      refine wpH_force 20 _ rfl (by kernel_rfl) rfl fun w9 hw9 K hK => ?_
      go_simp
      refine hK _ _ (fun _ => GB.rf _) (fun _ => Chg.refl _ _) ?_
      clear hK K
      refine wpH_force 21 _ rfl (by kernel_rfl) rfl fun w10 hw10 K hK => ?_
      go_simp
      refine hK _ _ (fun _ => GB.rf _) (fun _ => Chg.refl _ _) ?_
      clear hK K
      refine wpH_force 22 _ rfl (by kernel_rfl) rfl fun w11 hw11 K hK => ?_
      have hb11 := GB.tr _ _ _ (GB.tr _ _ _ hw9 hw10) hw11
      have HC11 := Lib.hid (((Chg.of_bel HW8.out _).tr (Chg.of_grown HGR.out (fun k e => e)) : Chg (fun k => ht.val.ownBlock = some k) wa w').tr (Chg.of_bel hb11 _))
      have HO11 := Lib.hid (OwnS.step HO.out hb11)
      have g11 := HC11.out.get G3.out (HOB.out 11 (by omega))
      have f11 := HC11.out.free G4.out (get?_lt G3.out) (HOB.out 11 (by omega))
      have k7 := GReplicaEpoch.at_timers g11
      simp only [Addr.add_lit, Nat.zero_add] at k7
      change w11.cell? ⟨B 11, 3, none⟩ = some ht.val at k7
      rw [HPE.out] at k7
      have z7 : w11.frozen? ⟨B 11, 3, none⟩ = false := frozen_of_free f11
      have G11 := Lib.hid g11; have F11 := Lib.hid f11
      clear g11 f11
      go_simp
      refine hK _ _ (fun h => absurd (by simp) h) (fun h => absurd (by simp) h) ?_
      clear hK K k7 z7 hb11 hw9 hw10 hw11
      have hc12 : Chg (fun k => k = B 11 ∨ ht.val.ownBlock = some k) wa (w11.setCell ⟨B 11, 3, none⟩ (.slice A' m2 c')) := (HC11.out.sub (fun k e => .inr e)).tr (chg_cell (S := fun k => k = B 11 ∨ ht.val.ownBlock = some k) (.inl rfl) _)
      have hg12 : get? GReplicaEpoch (w11.setCell ⟨B 11, 3, none⟩ (.slice A' m2 c')) ⟨B 11, 0, none⟩ = some (epG B { x with timers := x.timers ++ [tm] } bm ⟨A', m2, c'⟩ hp) := get?_poke G11.out (ep_timers (epG B x bm ht hp) ⟨A', m2, c'⟩)
      have hr12 : RepIs w0 (w11.setCell ⟨B 11, 3, none⟩ (.slice A' m2 c')) B { x with timers := x.timers ++ [tm] } := by
        refine H1.out.withTimers (l := x.timers ++ [tm]) G1.out G2.out G5.out hc12 hg12 (by rw [blkFree_setCell]; exact F11.out) (HO11.out.chg (chg_cell (S := fun k => k = B 11) rfl _) (fun k e he => ?_)) ?_
        · rcases HOB2.out with e2 | e2
          · exact HOB.out 11 (by omega) (by rw [← he, ← e, ← e2])
          · rw [e2] at e; injection e with e; have := H1.out.lt 11 (by omega); have := Below.size HW8.out; omega
        · rcases HOB2.out with e | e
          · exact .inr (.inl e)
          · exact .inr (.inr ⟨_, e, Below.size HW8.out⟩)
      have HR12 := Lib.hid hr12
      clear hr12 hg12 hc12
      refine wpH_end (by kernel_rfl) (fun wn hwn => ?_) _
      have HRN := Lib.hid (HR12.out.step hwn)
      clear hwn HR12 HO11 HC11 G11 F11 HO HGR HOB2 HW8 HBF HS2 HB1
      go_wp2_with fail
      go_roundw
      case rel => exact .inr ⟨rfl, Lib.hid (by rw [show timed x v = { x with timers := x.timers ++ [tm] } by rw [← HTM.out]; rfl]; exact HRN.out)⟩
      case measure => simp [intOf]
    · go_wp2_with fail
      exact bodyPost_end (results_none rfl _ _ _) rfl ⟨rfl, hr.out⟩
end Go.Proofs.YthkifibmihijaaaGreatDoor
/- A replica's Start. Conditions: those named in each theorem. -/
namespace Go.Proofs.YthkifibmihijaaaGreatDoor
open Go Go.RowKit Go.Gv Go.Proofs

theorem rep_started (x : GReplicaReplica) (v : Bool) : Enc.enc ({ x with started := v } : GReplicaReplica) = (Enc.enc x).set 4 (.bool v) := by
  show GReplicaReplica.enc _ = (GReplicaReplica.enc _).set _ _
  simp [GReplicaReplica.enc, GConf.enc_len]
theorem RepIs.withStarted {w0 w w' : World} {B : Nat → Nat} {x : RSt} (h : RepIs w0 w B x) (v : Bool) (hc : Chg (fun k => k = B 0) w w') (hg : ∀ a, get? GReplicaReplica w ⟨B 0, 0, none⟩ = some (repG B x a) → get? GReplicaReplica w' ⟨B 0, 0, none⟩ = some (repG B { x with started := v } a)) (hf : blkFree w' (B 0) = true) : RepIs w0 w' B { x with started := v } := by
  obtain ⟨a, bm, ht, hp, h1, h2, h3, h4, h5⟩ := h.more
  have n := h.ne (i := 0) (by omega)
  exact ⟨Chg.bel2 h.bel hc (fun k e => e ▸ h.new 0 (by omega)), h.new, fun j hj => Nat.lt_of_lt_of_le (h.lt j hj) hc.size, h.apart, h.book.chg hc (n 1 (by omega) (by omega)) (n 2 (by omega) (by omega)), h.st.chg hc (n 3 (by omega) (by omega)) (n 4 (by omega) (by omega)), h.tb.chg hc (n 5 (by omega) (by omega)) (n 6 (by omega) (by omega)), h.led.chg hc (n 7 (by omega) (by omega)) (n 8 (by omega) (by omega)),
    h.rev.chg hc (n 9 (by omega) (by omega)) (n 10 (by omega) (by omega)), h.core.chg hc (n 12 (by omega) (by omega)) (n 13 (by omega) (by omega)) (n 18 (by omega) (by omega)) (n 14 (by omega) (by omega)) (n 16 (by omega) (by omega)) (n 17 (by omega) (by omega)), hc.map h.pre (n 19 (by omega) (by omega)),
    a, bm, ht, hp, hg a h1, hf, hc.get h3 (n 11 (by omega) (by omega)), hc.free h4 (get?_lt h3) (n 11 (by omega) (by omega)), (h5.one hc (by omega)).with rfl rfl rfl rfl rfl⟩
theorem others0_len : ∀ n, (others 0 (n + 1)).length = n
  | 0 => by simp [others]
  | n + 1 => by
    unfold others
    rw [List.length_append, others0_len n, if_neg (by omega)]
    rfl
def core0 : GCoreState := ⟨0, 0, -1, -1, default, default, false, default⟩
def startMsgs (id : Int) (f : Nat) : List GMsg := if id = 0 then toAll 0 (closeM 0 1) (3 * f + 1) else []
set_option maxRecDepth 100000 in
set_option maxHeartbeats 4000000 in
theorem repStart_any (w0 : World) (B : Nat → Nat) (x : RSt) (f : Nat) (w : World) (h : RepIs w0 w B x) (hs : x.s = core0) (hA : x.A = []) (hLq : x.L = []) (hn : x.now = 0) (ho : x.out = []) (ht : x.timers = []) (hi : x.id ≤ 1000000) (hB : x.book.length ≤ 1000000000) (hf : x.c.f = (f : Int)) (hf0 : 1 ≤ f) (hf1 : f ≤ 21) :
    Calls Tryz.prog 10 #[.pointer (some ⟨B 0, 0, none⟩)] w fun e w' => ∃ (l : Hdr) (y : RSt), e = .returned (.slice l.a l.len l.cap) ∧ OwnS w' w0.heap.size 73 l.val (startMsgs x.id f) ∧ RepIs w0 w' B y ∧ y.c = x.c ∧ y.id = x.id ∧ y.s = entered core0 0 ∧ y.out = [] ∧ y.ho = nilH := by
  obtain ⟨hfr, a, hg⟩ := rep_other h
  have hfz := frozen_of_free (a := ⟨B 0, 4, none⟩) hfr
  have kst := (rep_cells h).2.2.1
  have hc : Chg (fun k => k = B 0) w (w.setCell ⟨B 0, 4, none⟩ (.bool true)) := chg_cell (S := fun k => k = B 0) rfl _
  have h1 := h.withStarted true hc (fun a ha => get?_poke ha (rep_started (repG B x a) true)) (by rw [blkFree_setCell]; exact hfr)
  clear hg hc h
  go_enter Tryz.func10, Tryz.ntmps10
  go_upto_region 2 with fail
  obtain ⟨x1, hx1⟩ : ∃ x1 : RSt, { x with started := true } = x1 := ⟨_, rfl⟩
  have hs : x1.s = core0 := by rw [← hx1]; exact hs
  have hA : x1.A = [] := by rw [← hx1]; exact hA
  have hLq : x1.L = [] := by rw [← hx1]; exact hLq
  have hn : x1.now = 0 := by rw [← hx1]; exact hn
  have ho : x1.out = [] := by rw [← hx1]; exact ho
  have ht : x1.timers = [] := by rw [← hx1]; exact ht
  have hi2 : x1.id ≤ 1000000 := by rw [← hx1]; exact hi
  have hB : x1.book.length ≤ 1000000000 := by rw [← hx1]; exact hB
  have hf : x1.c.f = (f : Int) := by rw [← hx1]; exact hf
  have hcc : x1.c = x.c := by rw [← hx1]
  have hii : x1.id = x.id := by rw [← hx1]
  rw [hx1] at h1
  generalize w.setCell ⟨B 0, 4, none⟩ (.bool true) = wa at h1 ⊢
  have H1 := Lib.hid h1
  have k0 := (rep_cells h1).2.2.2.2.2.2.2.1
  have k1 := (ep_cells h1).1
  have hcore : Calls Tryz.prog 28 #[.pointer (some ⟨B 12, 0, none⟩)] wa fun e w' => ∃ A2 : Option Addr, e = .returned (.slice A2 1 1) ∧ Sl GCoreAct w' w'.heap.size A2 1 [enterAct core0 x1.id 0 0] ∧ RepIs w0 w' B { x1 with s := entered core0 0, b1 := false, b2 := false, b3 := false } := by
    have hh := startC_any (B 12) (B 13) (B 14) (B 20) (B 16) (B 17) (B 18) x1.c 0 x1.id x1.s x1.b1 x1.b2 x1.b3 x1.H x1.A x1.L wa h1.core f 0 hf hf0 hf1 rfl (by omega) (h1.apart 12 13 (by omega) (by omega) (by omega) (by omega)) (by rw [hs]; rfl) (by rw [hs]; rfl) (by rw [hLq]; intro p hp; cases hp) (by rw [hA, hf]; simp [allOf, mget_nil]; omega)
    refine hh.mono ?_
    rintro e w' ⟨A2, rfl, hsl, hco, hch⟩
    refine ⟨A2, rfl, ?_, ?_⟩
    · rw [hs] at hsl
      simpa using hsl
    · rw [hs] at hco
      exact h1.withCore hco hch
  have HC := Lib.hid hcore
  have HX1 := Lib.hid hx1
  obtain ⟨x2, hx2⟩ : ∃ x2 : RSt, ({ x1 with s := entered core0 0, b1 := false, b2 := false, b3 := false } : RSt) = x2 := ⟨_, rfl⟩
  have e1 := Lib.hid (show x2.now = 0 by rw [← hx2]; exact hn)
  have e2 := Lib.hid (show x2.out = [] by rw [← hx2]; exact ho)
  have e3 := Lib.hid (show x2.timers = [] by rw [← hx2]; exact ht)
  have e4 := Lib.hid (show x2.id = x1.id by rw [← hx2])
  have e5 := Lib.hid (show x2.c = x.c by rw [← hx2]; exact hcc)
  have e6 := Lib.hid (show x2.s = entered core0 0 by rw [← hx2])
  have e7 := Lib.hid (show x2.book.length ≤ 1000000000 by rw [← hx2]; exact hB)
  have e8 := Lib.hid (show x2.c.f = (f : Int) by rw [← hx2]; exact hf)
  have HI2 := Lib.hid hi2; have HII := Lib.hid hii; have HF0 := Lib.hid hf0; have HF1 := Lib.hid hf1
  rw [hx2] at HC
  clear hcore hx1 hx2 hs hA hLq hn ho ht hi2 hB hf hcc hii h1 hi hfr hfz kst hf0 hf1
  go_wp2_with fail
  refine HC.out.mono ?_
  rintro _ w2 ⟨A2, rfl, hsl, hr⟩
  have HR := Lib.hid hr
  have HSL := Lib.hid hsl
  clear hsl hr k0 k1
  go_wp2_with fail
  have hfin : ∀ (w3 : World), (∃ y : RSt, RepIs w0 w3 B y ∧ y.out = startMsgs x.id f ∧ y.c = x.c ∧ y.id = x.id ∧ y.s = entered core0 0) → Calls Tryz.prog 25 #[.pointer (some ⟨B 0, 0, none⟩)] w3 fun e w' => ∃ (l : Hdr) (y : RSt), e = .returned (.slice l.a l.len l.cap) ∧ OwnS w' w0.heap.size 73 l.val (startMsgs x.id f) ∧ RepIs w0 w' B y ∧ y.c = x.c ∧ y.id = x.id ∧ y.s = entered core0 0 ∧ y.out = [] ∧ y.ho = nilH := by
    rintro w3 ⟨y, hy, ho, hc, hi, hs⟩
    refine (told_any w0 B y w3 hy).mono ?_
    rintro e w' ⟨rfl, h1, h2, h3⟩
    exact ⟨y.ho, _, rfl, ho ▸ h2, h1, hc, hi, hs, rfl, rfl⟩
  have HFIN := Lib.hid hfin
  clear hfin
  have hwant : Calls Tryz.prog 27 #[.pointer (some ⟨B 0, 0, none⟩), .slice A2 1 1] w2 fun e w' => e = .returned (.tuple #[]) ∧ ∃ y : RSt, RepIs w0 w' B y ∧ y.out = startMsgs x.id f ∧ y.c = x.c ∧ y.id = x.id ∧ y.s = entered core0 0 := by
    have hsl := HSL.out
    by_cases hid : ((0 : Nat) : Int) = x1.id
    · rw [show enterAct core0 x1.id 0 0 = ⟨1, 0, -1, default⟩ by unfold enterAct; rw [if_pos hid]; rfl] at hsl
      refine (want1_any w0 B x2 ⟨1, 0, -1, default⟩ A2 f w2 HR.out hsl rfl rfl e1.out (by rw [e2.out]; simp) (by rw [e4.out]; exact HI2.out) e7.out e8.out HF0.out HF1.out).mono ?_
      rintro e w' ⟨rfl, ho, hr⟩
      refine ⟨rfl, _, hr, ?_, e5.out, e4.out.trans HII.out, e6.out⟩
      show x2.out ++ toAll x2.id (closeM 0 1) (3 * f + 1) = _
      rw [e2.out, e4.out, ← hid, ← HII.out, ← hid]
      simp [startMsgs]
    · rw [show enterAct core0 x1.id 0 0 = ⟨4, 0, 1, default⟩ by unfold enterAct; rw [if_neg hid]] at hsl
      refine (want4_any w0 B x2 1 A2 w2 HR.out hsl e1.out (by rw [e3.out]; simp)).mono ?_
      rintro e w' ⟨rfl, hr⟩
      refine ⟨rfl, _, hr, ?_, e5.out, e4.out.trans HII.out, e6.out⟩
      show x2.out = _
      rw [e2.out]
      unfold startMsgs
      rw [if_neg (fun e => hid (by rw [HII.out, e]; rfl))]
  refine hwant.mono ?_
  rintro _ w3 ⟨rfl, hy⟩
  have HY := Lib.hid hy
  clear hwant hy
  go_wp2_with fail
  refine (HFIN.out w3 HY.out).mono ?_
  rintro _ w4 ⟨l, y, rfl, r1⟩
  have R1 := Lib.hid r1
  clear r1
  go_wp2_with fail
  go_ret
  exact ⟨l, y, rfl, R1.out⟩
end Go.Proofs.YthkifibmihijaaaGreatDoor
/- A replica started again. Conditions: those named in each theorem. -/
namespace Go.Proofs.YthkifibmihijaaaGreatDoor
open Go Go.RowKit Go.Gv Go.Proofs

set_option maxRecDepth 100000 in
set_option maxHeartbeats 4000000 in
theorem repStart2_any (w0 : World) (B : Nat → Nat) (x : RSt) (w : World) (h : RepIs w0 w B x) (hs : 0 < x.s.step) (hh : x.ho = nilH) :
    Calls Tryz.prog 10 #[.pointer (some ⟨B 0, 0, none⟩)] w fun e w' => e = .returned (.slice none 0 0) ∧ RepIs w0 w' B { x with started := true, ho := nilH, out := [] } := by
  obtain ⟨hfr, a, hg⟩ := rep_other h
  have hfz := frozen_of_free (a := ⟨B 0, 4, none⟩) hfr
  have kst := (rep_cells h).2.2.1
  have hc : Chg (fun k => k = B 0) w (w.setCell ⟨B 0, 4, none⟩ (.bool true)) := chg_cell (S := fun k => k = B 0) rfl _
  have h1 := h.withStarted true hc (fun a ha => get?_poke ha (rep_started (repG B x a) true)) (by rw [blkFree_setCell]; exact hfr)
  have HS := Lib.hid hs; have HH := Lib.hid hh
  clear hg hc h hs hh
  go_enter Tryz.func10, Tryz.ntmps10
  go_upto_region 2 with fail
  generalize w.setCell ⟨B 0, 4, none⟩ (.bool true) = wa at h1 ⊢
  have H1 := Lib.hid h1
  have k0 := (rep_cells h1).2.2.2.2.2.2.2.1
  have k1 := (ep_cells h1).1
  clear hfr hfz kst h1
  go_wp2_with fail
  refine (startC2_any (B 12) (B 13) (B 14) (B 20) (B 16) (B 17) (B 18) x.c 0 x.id x.s x.b1 x.b2 x.b3 x.H x.A x.L wa H1.out.core HS.out).mono ?_
  rintro _ w1 ⟨rfl, hw1⟩
  obtain rfl : wa = w1 := hw1.symm
  clear hw1 k0 k1
  go_wp2_with fail
  refine (want0_any w0 B _ wa H1.out).mono ?_
  rintro _ w1 ⟨rfl, hw1⟩
  obtain rfl : wa = w1 := hw1.symm
  clear hw1
  go_wp2_with fail
  refine (told_any w0 B _ wa H1.out).mono ?_
  simp only [HH.out]
  rintro _ w1 ⟨rfl, hr, _, _⟩
  have HR := Lib.hid hr
  clear hr
  go_wp2_with fail
  go_ret
  exact ⟨rfl, HR.out⟩
end Go.Proofs.YthkifibmihijaaaGreatDoor
