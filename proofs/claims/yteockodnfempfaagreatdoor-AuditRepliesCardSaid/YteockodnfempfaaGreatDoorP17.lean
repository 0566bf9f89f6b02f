/- AuditReplies: what an app replies to a log, or that its payloads are too few or many: the walk. Conditions: those named in each theorem. -/
import Derived.Test.YteockodnfempfaaGreatDoorP16
import Derived.Test.YteockodnfempfaaGreatDoorP11
import Derived.Deep.CutBlock
import Derived.Test.YteockodnfempfaaGreatDoorP9
/- The document's app: made, and a place buried; an app beside a list of texts. Conditions: those named in each theorem. -/
namespace Go.Proofs.YteockodnfempfaaGreatDoor
open Go Go.RowKit Go.Gv Go.Sort Go.Proofs

set_option maxRecDepth 100000 in
set_option maxHeartbeats 4000000 in
theorem rbury_any (a h q kk : Nat) (M : MApp) (x : GEntry) (w : World) (hA : RA w a h q M kk) (hkk : kk ≤ 1000) :
    Calls Tryz.prog 21 #[.pointer (some ⟨a, 0, none⟩), x.val] w (RDone w a h q (kk + 2) (sBuried, settleA M x.time)) := by
  have hcn := hA.count
  have hb1 : Bel w (w.alloc (.cells (GEntry.enc x).toArray 35)) := (Bel.refl w).alloc _
  have hA1 := hA.bel hb1
  have hg1 := get?_new (w := w) 35 x
  generalize hW1 : w.alloc (.cells (GEntry.enc x).toArray 35) = w1 at hb1 hA1 hg1
  have at2 := hA1.at2
  have z2 : w1.frozen? ⟨a, 2, none⟩ = false := frozen_of_free (a := ⟨a, 2, none⟩) hA1.free
  have e1 : IntKind.i64.wrap (M.n + 1) = M.n + 1 := IntWalk.i64_in _ (by omega)
  have hal := hA.lt
  have hlh := hA.lth
  have HA2 := Lib.hid hA1.tick
  have HC2 := Lib.hid ((Chg.of_bel hb1 (footR a h q)).tr hA1.ticked)
  have HG2 := Lib.hid (show get? GEntry (w1.setCell ⟨a, 2, none⟩ (.int .i64 (M.n + 1))) ⟨w.heap.size, 0, none⟩ = some x from (get?_setCell _ _ (by show w.heap.size ≠ a; omega)).trans hg1)
  clear hg1 hA hA1 hb1
  go_enter Tryz.func21, Tryz.ntmps21
  go_upto_region 1 with fail
  try rw [hW1]
  go_upto_region 2 with fail
  obtain ⟨be, hbe⟩ : ∃ be, w.heap.size = be := ⟨_, rfl⟩
  rw [hbe] at HG2 hal hlh ⊢
  generalize w1.setCell ⟨a, 2, none⟩ (.int .i64 (M.n + 1)) = w2 at HA2 HC2 HG2 ⊢
  clear hbe at2 z2 e1 hW1
  have at0 := HA2.out.at0
  have ft : w2.cell? ⟨be, 34, none⟩ = some (.int .u64 x.time) := by simpa using cell_off (by omega) (GEntry.at_time HG2.out)
  refine wp_region_G GB [6] GB.rf (by kernel_rfl) ?_
  refine wpG_looks 1 7 [0,1,2,3,4,5] rfl GB.rf GB.tr (by kernel_rfl) (fun _ _ _ _ hd h => And.intro (hd ▸ And.left h) (And.right h)) rfl (by kernel_rfl) ?_
  intro ι W9 hne CW
  have g0 := fun z => GB.cell (CW.out z).undrew at0
  have g1 := fun z => GB.cell (CW.out z).undrew ft
  repeat (refine wpLooksG_step (fun K hK => ?_); go_simp; refine hK _ ?_; clear hK K)
  refine wpLooksG_nil ?_
  clear g0 g1 CW hne W9 ι at0 ft
  refine wpG_force 6 _ rfl (by kernel_rfl) rfl fun wa hwa K hK => ?_
  go_simp
  have hAa := HA2.out.bel hwa.undrew
  obtain ⟨R0, hR0, hT0⟩ := hAa.house
  have hlR : R0.length ≤ 1000000 := by have h1 := hT0.len; have h2 := hAa.good.1; simp only at h1 h2; omega
  refine (rsettle_any h M.house R0 x.time wa hR0 hT0 hlR (fun s hs => by have := (hAa.good.2 _ (mget_in (hT0.get hs))).2; simp only at this; omega)).mono ?_
  rintro _ wb ⟨D, v, rfl, _, _, _, hHb, hgb⟩
  refine hK _ _ (fun h => absurd (by simp) h) ?_
  clear hK K
  refine wpG_end (by kernel_rfl) (fun wn hwn => ?_) _
  have hA3 : RA wn a h q (settleA M x.time) (kk + 1) := (hAa.putHouse (hT0.settle x.time) hHb hgb (hAa.ok.settleH _) (hAa.good.settleH _) (Nat.le_refl _)).bel hwn
  have hC3 : Chg (footR a h q) w wn := ((HC2.out.tr (Chg.of_bel hwa.undrew _)).tr (chg_h hgb)).tr (Chg.of_bel hwn _)
  have HA3 := Lib.hid hA3; have HC3 := Lib.hid hC3
  clear hA3 hC3 hwn hgb hHb hAa hwa HA2 HC2 HG2 hR0 hT0 hlR
  go_wp2_with fail
  go_ret
  exact ⟨rfl, HA3.out.mono (by omega), HC3.out⟩
@[go_sem ↓ high] theorem box_rhouse0 (w : World) : (gBox 84 (.agg #[.slice none 0 0])).run Tryz.prog w = .ok (.pointer (some ⟨w.heap.size, 0, none⟩)) (w.alloc (.cells #[.slice none 0 0] 84)) := run_gBox [.slice none 0 0] w
@[go_sem ↓ high] theorem box_rreg0 (w : World) : (gBox 88 (.agg #[.slice none 0 0])).run Tryz.prog w = .ok (.pointer (some ⟨w.heap.size, 0, none⟩)) (w.alloc (.cells #[.slice none 0 0] 88)) := run_gBox [.slice none 0 0] w
theorem rapp_new (w : World) (w1 w2 w3 : World) (h1 : w1 = w.alloc (.cells #[.slice none 0 0] 84)) (h2 : w2 = w1.alloc (.cells #[.slice none 0 0] 88)) (h3 : w3 = w2.alloc (.cells #[.pointer (some ⟨w.heap.size, 0, none⟩), .pointer (some ⟨w.heap.size + 1, 0, none⟩), .int .i64 0] 90)) :
    RA w3 (w.heap.size + 2) w.heap.size (w.heap.size + 1) M0 0 ∧ Bel w w3 := by
  have z1 : w1.heap.size = w.heap.size + 1 := by rw [h1]; simp
  have z2 : w2.heap.size = w.heap.size + 2 := by rw [h2]; simp [z1]
  have b1 : Bel w w1 := by rw [h1]; exact (Bel.refl _).alloc _
  have b2 : Bel w1 w2 := by rw [h2]; exact (Bel.refl _).alloc _
  have b3 : Bel w2 w3 := by rw [h3]; exact (Bel.refl _).alloc _
  have c1 : w1.heap[w.heap.size]? = some (.cells #[.slice none 0 0] 84 (0, 0)) := by rw [h1]; exact heap_alloc_new w _
  have c2 : w2.heap[w.heap.size + 1]? = some (.cells #[.slice none 0 0] 88 (0, 0)) := by rw [← z1, h2]; exact heap_alloc_new w1 _
  have c3 : w3.heap[w.heap.size + 2]? = some (.cells #[.pointer (some ⟨w.heap.size, 0, none⟩), .pointer (some ⟨w.heap.size + 1, 0, none⟩), .int .i64 0] 90 (0, 0)) := by rw [← z2, h3]; exact heap_alloc_new w2 _
  refine ⟨⟨c3, ⟨[], ⟨⟨none, 0, 0⟩, [], ?_, Sl.nil, Nat.le_refl _, Nat.zero_le _, trivial⟩, Twin.nil⟩, ⟨[], ⟨⟨none, 0, 0⟩, ?_, Sl.nil, Nat.le_refl _, Nat.zero_le _⟩, RTwin.nil⟩, ⟨by omega, by omega, by omega⟩, HouseOk.nil, GoodH.nil 0, RegOk.nil, ⟨Int.le_refl _, Int.le_refl _⟩⟩, (b1.trans b2).trans b3⟩
  · exact (Below.block (b2.trans b3) _ (by omega)).trans c1
  · exact (Below.block b3 _ (by omega)).trans c2
set_option maxRecDepth 100000 in
set_option maxHeartbeats 1000000 in
theorem rnewApp_any (w : World) : Calls Tryz.prog 20 #[] w fun e w' => ∃ a h q : Nat, e = .returned (.pointer (some ⟨a, 0, none⟩)) ∧ RA w' a h q M0 0 ∧ (∀ k, footR a h q k → w.heap.size ≤ k) ∧ Bel w w' := by
  go_enter Tryz.func20, Tryz.ntmps20
  go_wp2_with fail
  go_ret
  have h := rapp_new w _ _ _ rfl rfl rfl
  refine ⟨w.heap.size + 2, w.heap.size, w.heap.size + 1, rfl, h.1, fun k hk => ?_, h.2⟩
  unfold footR at hk
  omega
theorem Texts.hole {w : World} {v : Value} (h : Texts w v) (k : Nat) (hk : v.ownBlock = some k) : Hole w k := by
  obtain ⟨cs, e, f, hh, hc⟩ := h k hk
  have key : ∀ (u : Addr) (x : Value), w.cell? u = some x → u.block = k → ∃ s, x = .string s := by
    intro u x hx eu
    unfold World.cell? at hx
    rw [eu, hh] at hx
    simp only at hx
    split at hx
    · cases hx
    · exact hc _ (by simpa using Array.mem_of_getElem? hx)
  refine ⟨fun u x hx eu => ?_, fun u x hx eu => ?_, fun u x hx eu => ?_⟩
  · obtain ⟨s, e⟩ := key _ _ (cell_zero (GRef15Bid.at_client hx)) eu; cases e
  · obtain ⟨s, e⟩ := key _ _ (GRef15Sale.at_vickrey hx) (by rw [add_block]; exact eu); cases e
  · obtain ⟨s, e⟩ := key _ _ (GRef15Owned.at_client hx) (by rw [add_block]; exact eu); cases e
/-- A document's app, and the replies so far. -/
structure WR (w wr : World) (a h q : Nat) (M : MApp) (kk : Nat) (v : Value) (out : List ByteArray) : Prop where
  app : RA wr a h q M kk
  bel : Bel w wr
  far : ∀ k, footR a h q k → w.heap.size ≤ k
  own : OwnS wr w.heap.size 9 v (out.map StrV.mk)
  sep : ∀ k, v.ownBlock = some k → ¬ footR a h q k
  texts : Texts wr v
section
variable {w wr w' : World} {a h q kk : Nat} {M : MApp} {v : Value} {out : List ByteArray}
theorem WR.step (H : WR w wr a h q M kk v out) (hb : Bel wr w') : WR w w' a h q M kk v out := ⟨H.app.bel hb, H.bel.trans hb, H.far, H.own.step hb, H.sep, H.texts.keep fun k e => Below.block hb k (H.own.lt k e).2⟩
theorem WR.did {M' : MApp} {k2 : Nat} (H : WR w wr a h q M kk v out) (hA : RA w' a h q M' k2) (hc : Chg (footR a h q) wr w') : WR w w' a h q M' k2 v out :=
  ⟨hA, Chg.bel2 H.bel hc H.far, H.far, H.own.chg hc (fun k hk hf => H.sep k hk hf), H.sep, H.texts.keep fun k e => hc.block k (H.own.lt k e).2 (fun hf => H.sep k e hf)⟩
set_option maxRecDepth 100000 in
/-- One reply more. -/
theorem WR.add (H : WR w wr a h q M kk v out) (s : ByteArray) (B : Nat) (hl : out.length ≤ 1000) (hs : Sl StrV wr wr.heap.size (some ⟨B, 0, none⟩) 1 [⟨s⟩]) :
    ∃ v' w', (gAppend #[48, 48] 48 #[v, .slice (some ⟨B, 0, none⟩) 1 1]).run Tryz.prog wr = .ok v' w' ∧ WR w w' a h q M kk v' (out ++ [s]) := by
  have hln : (out.map StrV.mk).length ≤ 1000 := by rw [List.length_map]; exact hl
  obtain ⟨v4, w4, hrun, ho, hg, hv⟩ := gAppend_S (P := Tryz.prog) ei48 (t := 48) H.own (c := 1) (m := 1) (A := some ⟨B, 0, none⟩) hs (by unfold maxLen; omega) (by omega) H.bel.size 48
  have hc : Chg (fun k => v.ownBlock = some k) wr w4 := Chg.of_grown hg fun k e => e
  have hft := H.app.foot
  have hsc : wr.cell? ⟨B, 0, none⟩ = some (.string s) := by
    obtain ⟨ad, x, e, _, hx, hg⟩ := hs.at_ (k := 0) (by omega)
    injection e with e; subst e
    simp at hx; subst hx
    have := get1 rfl hg
    simpa [Addr.add] using this
  refine ⟨v4, w4, hrun, ⟨H.app.hole (fun k hk => H.texts.hole k hk) hc (fun k hf e => H.sep k e hf), Chg.bel2 H.bel hc (fun k hk => (H.own.lt k hk).1), H.far, by rw [List.map_append]; exact ho, fun k hk hf => ?_, append_texts ei48 (z0 := ByteArray.empty) zero_str H.own H.texts hsc hln (ty := 48) (by unfold gAppend at hrun; exact hrun)⟩⟩
  rcases hv with e | e
  · exact H.sep k (e ▸ hk) hf
  · rw [e] at hk
    injection hk with hk
    have := hft k hf
    omega
end
theorem RowsAt.fresh {α : Type} [Enc α] {w : World} {ob : Option Nat} (ho : ∀ k, ob = some k → w.heap.size ≤ k) : ∀ {hs : List Hdr} {ls : List (List α)}, RowsAt w none hs ls → RowsAt w ob hs ls
  | [], [], _ => trivial
  | _ :: _, _ :: _, h => ⟨⟨h.1.1, h.1.2.1, h.1.2.2.1, fun hn ad ha e => by have h1 := ho _ e; have h2 := h.1.1.block_lt hn ha; omega⟩, RowsAt.fresh ho h.2⟩
  | [], _ :: _, h => h.elim
  | _ :: _, [], h => h.elim
theorem PB.withB {w1 wr w2 : World} {pv bv v3 : Value} {H : List Hdr} {Y : List (List U8)} {Z Z2 : List BoolV} (h : PB w1 wr pv bv H Y Z) (hb : Bel wr w2) (ho : OwnS w2 wr.heap.size 4 v3 Z2) : PB w1 w2 pv v3 H Y Z2 :=
  ⟨h.p.step hb, h.r1.step hb, (RowsAt.fresh (fun k e => (ho.lt k e).1) h.r1.plain).step hb, ho.mono h.bel.size, fun j hj e => by have h1 := (h.p.lt j hj).2; have h2 := (ho.lt j e).1; omega, h.bel.trans hb⟩
set_option maxRecDepth 100000 in
theorem copyO_any (A : Option Addr) (n c : Nat) (xs : List BoolV) (w : World) (B : Nat) (hx : Sl BoolV w B A n xs) (hn : n * 1 ≤ 140737488355328) :
    Calls Tryz.prog 45 #[.slice A n c] w fun e w' => ∃ v, e = .returned v ∧ OwnS w' w.heap.size 4 v xs ∧ Below w.heap.size w w' := by
  have H := Lib.hid hx; clear hx
  obtain ⟨v', w', hrun, ho, hg, _⟩ := gAppend_S (P := Tryz.prog) ei44 (OwnS.nil (α := BoolV) w w.heap.size 4) (c := c) H.out (by unfold maxLen; simp; omega) (by simp; omega) (Nat.le_refl _) 44
  have hb := Gv.Below.appS (Below.refl w.heap.size w) hg (OwnS.nil (α := BoolV) w w.heap.size 4) (Nat.le_refl _) (Nat.le_refl _)
  have HO := Lib.hid ho; have HB := Lib.hid hb; clear ho hg hb
  go_enter Tryz.func45, Tryz.ntmps45
  go_wp2
  go_ret
  exact ⟨v', rfl, by have := HO.out; simpa using this, HB.out⟩
set_option maxRecDepth 100000 in
theorem cutO_any (A : Option Addr) (n c q : Nat) (xs : List BoolV) (w : World) (B : Nat) (hx : Sl BoolV w B A n xs) (hn : n ≤ c) (hc : c ≤ maxLen) (hq : q ≤ 1000) :
    Calls Tryz.prog 17 #[.slice A n c, .int .i64 q] w fun e w' => ∃ v, e = .returned v ∧ OwnS w' w.heap.size 4 v (xs.take q) ∧ Below w.heap.size w w' := by
  unfold maxLen at hc
  have H := Lib.hid hx; clear hx
  have e0 : xs.take (min n q) = xs.take q := by
    have := H.out.1
    rw [← List.take_take, List.take_of_length_le (i := n) (by simp; omega)]
  have ht := H.out.take (Nat.min_le_left n q)
  rw [e0] at ht
  have HT := Lib.hid ht
  clear ht
  go_enter Tryz.func17, Tryz.ntmps17
  go_wp2_with fail
  refine (copyO_any A (min n q) c (xs.take q) w B HT.out (by omega)).mono ?_
  rintro _ w2 ⟨v, rfl, ho, hb⟩
  have HO := Lib.hid ho; have HB := Lib.hid hb
  clear ho hb
  go_wp2_with fail
  go_ret
  exact ⟨v, rfl, HO.out, HB.out⟩
end Go.Proofs.YteockodnfempfaaGreatDoor
/- AuditReplies: what an app replies to a log, or that its payloads are too few or many: the walk. Conditions: those named in each theorem. -/
namespace Go.Proofs.YteockodnfempfaaGreatDoor
open Go Go.RowKit Go.Gv Go.Sort Go.Proofs

set_option maxRecDepth 100000 in
set_option maxHeartbeats 1000000 in
theorem replies_no (A B C : Option Addr) (n m l c1 c2 c3 : Nat) (w : World) (h : ¬ m = n ∨ ¬ l = n) :
    Calls Tryz.prog 18 #[.slice A n c1, .slice B m c2, .slice C l c3] w fun e w' => e = .returned (.tuple #[.slice none 0 0, .bool false]) ∧ w' = w := by
  by_cases hm : m = n
  · have hl : ¬ l = n := h.resolve_left (fun e => e hm)
    subst hm
    have h2 : ((l : Int) == (m : Int)) = false := by rw [beq_eq_false_iff_ne]; omega
    have h1 : ((m : Int) == (m : Int)) = true := by simp
    clear h hl
    go_enter Tryz.func18, Tryz.ntmps18
    go_wp2_with fail
    go_ret2
    exact ⟨rfl, rfl⟩
  · have h1 : ((m : Int) == (n : Int)) = false := by rw [beq_eq_false_iff_ne]; omega
    clear h hm
    go_enter Tryz.func18, Tryz.ntmps18
    go_wp2_with fail
    go_ret2
    exact ⟨rfl, rfl⟩
/-- Payloads and marks that are only read. -/
structure PRead (w1 wx : World) (pv bv : Value) (np nb : Nat) (H : List Hdr) (Y : List (List U8)) (Z : List BoolV) : Prop where
  p : ∃ A c, pv = .slice A np c ∧ Sl Hdr wx wx.heap.size A np H ∧ np ≤ c ∧ c ≤ maxLen
  b : ∃ A c, bv = .slice A nb c ∧ Sl BoolV wx wx.heap.size A nb Z ∧ nb ≤ c ∧ c ≤ maxLen
  rows : RowsAt wx none H Y
  bel : Bel w1 wx
  short : ∀ y ∈ Y, y.length ≤ 1000
  np : np ≤ 100
  nb : nb ≤ 100
theorem PB.read {w1 wr : World} {pv bv : Value} {H : List Hdr} {Y : List (List U8)} {Z : List BoolV} (h : PB w1 wr pv bv H Y Z) (hs : ∀ y ∈ Y, y.length ≤ 1000) (h1 : H.length ≤ 100) (h2 : Z.length ≤ 100) : PRead w1 wr pv bv H.length Z.length H Y Z := by
  obtain ⟨A, c, hv, hS, hc, hm, -⟩ := h.p.shape
  obtain ⟨B, d, hv2, hS2, hd, hm2, -⟩ := h.b.shape
  exact ⟨⟨A, c, hv, hS, hc, hm⟩, ⟨B, d, hv2, hS2, hd, hm2⟩, h.r1.plain, h.bel, hs, h1, h2⟩
theorem PRead.step {w1 wx w' : World} {pv bv : Value} {np nb : Nat} {H : List Hdr} {Y : List (List U8)} {Z : List BoolV} (h : PRead w1 wx pv bv np nb H Y Z) (hb : Bel wx w') : PRead w1 w' pv bv np nb H Y Z := by
  obtain ⟨A, c, h1, h2, h3, h4⟩ := h.p
  obtain ⟨B, d, h5, h6, h7, h8⟩ := h.b
  exact ⟨⟨A, c, h1, h2.stepB hb, h3, h4⟩, ⟨B, d, h5, h6.stepB hb, h7, h8⟩, h.rows.step hb, h.bel.trans hb, h.short, h.np, h.nb⟩
def lenV : Value → Nat
  | .slice _ n _ => n
  | _ => 0
def rsvA : List U8 := [⟨114⟩, ⟨101⟩, ⟨115⟩, ⟨101⟩, ⟨114⟩, ⟨118⟩, ⟨101⟩, ⟨32⟩, ⟨97⟩]
set_option maxRecDepth 100000 in
set_option maxHeartbeats 16000000 in
theorem areplies_any (A B C : Option Addr) (n c m d l e0 : Nat) (xs : List GEntry) (hs : List Hdr) (bs : List BoolV) (even : Bool) (w : World) (hL : LibIs w) (hx : Sl GEntry w w.heap.size A n xs) (hox : ∀ x ∈ xs, EntryOk x) (hn : n ≤ maxLen)
    (hh : Sl Hdr w w.heap.size B m hs) (hoh : ∀ h ∈ hs, ∃ ys : List U8, Sl U8 w w.heap.size h.a h.len ys ∧ h.len ≤ h.cap ∧ h.cap ≤ maxLen) (_hm : m ≤ maxLen) (hb : Sl BoolV w w.heap.size C l bs) (hl : l ≤ e0) (he : e0 ≤ maxLen) :
    Calls Tryz.prog 4 #[.slice A n c, .slice B m d, .slice C l e0, .bool even] w fun e w' => e = .returned (.bool true) ∧ Bel w w' := by
  unfold maxLen at _hm he
  have HL := Lib.hid hL; have HH := Lib.hid hh; have HOH := Lib.hid hoh; have HBS := Lib.hid hb
  have HX := Lib.hid hx; have HOX := Lib.hid hox
  clear hL hh hoh hb hx hox
  go_enter Tryz.func4, Tryz.ntmps4
  go_wp2_with fail
  refine (small_any A n c xs w HX.out HOX.out hn).mono ?_
  rintro _ w1 ⟨v1, rfl, ho1, hb1⟩
  obtain ⟨A1, c1, rfl, hx1, hxc, hxm, -⟩ := ho1.shape
  have hn8 : (smallL xs).length ≤ 8 := by unfold smallL; rw [List.length_map, List.length_take]; omega
  generalize hXS : smallL xs = X at *
  obtain ⟨nx, hnx⟩ : ∃ nx, X.length = nx := ⟨_, rfl⟩
  rw [hnx] at hx1 hxc hn8 ⊢
  have HX1 := Lib.hid hx1; have HB1 := Lib.hid (show Bel w w1 from hb1)
  clear ho1 hx1 hb1 HX HOX hXS hxm hnx
  go_upto_block 0 with fail
  go_cut [10, 11] (fun pv _ wx => ∃ H Y, Hid (PB w1 wx pv (.slice none 0 0) H Y []) ∧ H.length ≤ 8 ∧ Hid (∀ y ∈ Y, y.length ≤ 1000))
  case first =>
    go_wp2_with fail
    go_loopw [10, 11] (fun pv iv wr => ∃ (k : Nat) (H : List Hdr) (Y : List (List U8)), k ≤ 8 ∧ k ≤ m ∧ iv = .int .i64 k ∧ Hid (PB w1 wr pv (.slice none 0 0) H Y []) ∧ H.length = k ∧ Hid (∀ y ∈ Y, y.length ≤ 1000)) (fun _ iv _ => 9 - (intOf iv).toNat)
    case atStart => exact ⟨0, [], [], by omega, by omega, rfl, Lib.hid (PB.nil _), rfl, Lib.hid (by simp)⟩
    case round =>
      obtain ⟨k, H, Y, hk8, hkm, rfl, HPB, hHl, HY⟩ := hrel
      by_cases hcont : k < m ∧ k < 8
      · obtain ⟨hlt, hlt8⟩ := hcont
        have hlt2 : (k : Int) < (m : Int) := by omega
        have hlt3 : (k : Int) < 8 := by omega
        have hk0 : (0 : Int) ≤ (k : Int) := by omega
        obtain ⟨bd, hd, rfl, _, hhk, hgh⟩ := (HH.out.stepB (Bel.trans HB1.out HPB.out.bel)).at_ (k := k) hlt
        obtain ⟨ys, hys, hy1, hy2⟩ := HOH.out hd (List.mem_of_getElem? hhk)
        have HYS := Lib.hid (hys.stepB (Bel.trans HB1.out HPB.out.bel))
        have f2 : wr.cell? (bd.add k) = some (.slice hd.a hd.len hd.cap) := by have := get1 rfl hgh; rwa [show k * Enc.n Hdr = k from Nat.mul_one k] at this
        clear hys hhk hgh
        go_wp2_with fail
        refine (cutB_any hd.a hd.len hd.cap 60 ys wr wr.heap.size HYS.out hy1 hy2 (by omega)).mono ?_
        rintro _ w3 ⟨v3, rfl, ho3, hb3⟩
        have h60 : (ys.take 60).length ≤ 60 := by rw [List.length_take]; omega
        generalize ys.take 60 = Y9 at ho3 h60
        obtain ⟨A3, c3, rfl, hs3, hc3, hm3, hown3⟩ := ho3.shape
        obtain ⟨n9, hn9⟩ : ∃ q, Y9.length = q := ⟨_, rfl⟩
        rw [hn9] at hs3 hc3 h60 ⊢
        have h3 := (HPB.out.step hb3).step ((Bel.refl w3).alloc (.cells #[.slice A3 n9 c3] 38))
        have hl3 : ∀ j, u10.ownBlock = some j → j < wr.heap.size := fun j e => (HPB.out.p.lt j e).2
        obtain ⟨v4, w4, hrun4, h4⟩ := h3.addP ⟨A3, n9, c3⟩ Y9 w3.heap.size (hs3.stepB ((Bel.refl _).alloc (.cells #[.slice A3 n9 c3] 38))) ⟨hc3, hm3⟩ (fun ad e => ⟨fun e2 => by have := hl3 _ e2; have := (hown3 ad e).1; omega, fun e2 => nomatch e2⟩) (Sl.new_ (xs := [(⟨A3, n9, c3⟩ : Hdr)]) rfl rfl rfl (by simp)) (by omega)
        have HPB4 := Lib.hid h4
        have HY4 : Hid (∀ q ∈ Y ++ [Y9], q.length ≤ 1000) := Lib.hid (by
          intro q hq
          rcases List.mem_append.1 hq with hq | hq
          · exact HY.out q hq
          · rw [List.mem_singleton.1 hq]; omega)
        clear h3 h4 hl3 hown3 hs3 ho3 hb3 f2
        go_wp2_with fail
        exact ⟨⟨k + 1, _, _, by omega, by omega, by go_num, HPB4, by rw [List.length_append, hHl]; rfl, HY4⟩, by simp [intOf]; omega⟩
      · have hstop : (m : Int) ≤ (k : Int) ∨ ((k : Int) < (m : Int) ∧ 8 ≤ (k : Int)) := by omega
        rcases hstop with hs | ⟨hs, hs2⟩
        all_goals
        go_wp2_with fail
        go_meet
        exact ⟨H, Y, HPB, by omega, HY⟩
  case rest =>
  obtain ⟨H, Y, HPB, hHl, HY⟩ := hcut
  have hbw := Bel.trans HB1.out HPB.out.bel
  have HBW := Lib.hid hbw
  clear hbw
  go_wp2_with fail
  refine (cutO_any C l e0 8 bs _ _ (HBS.out.stepB HBW.out) hl (by unfold maxLen; omega) (by omega)).mono ?_
  rintro _ w3 ⟨v3, rfl, ho3, hb3⟩
  have HPB3 := Lib.hid (HPB.out.withB hb3 ho3)
  have hZ : (bs.take 8).length ≤ 8 := by rw [List.length_take]; omega
  generalize bs.take 8 = Z at HPB3 hZ
  clear ho3 hb3 HPB
  go_upto_if 40 with fail
  go_cut [10, 12] (fun pv bv wx => ∃ np nb H Y Z, Hid (PRead w1 wx pv bv np nb H Y Z))
  case first =>
    cases even
    · go_wp2_with fail
      go_meet
      exact ⟨_, _, _, _, _, Lib.hid (HPB3.out.read HY.out (by omega) (by omega))⟩
    · go_wp2_with fail
      go_loopw [10] (fun pv wr => ∃ (H : List Hdr) (Y : List (List U8)), Hid (PB w1 wr pv v3 H Y Z) ∧ H.length ≤ 8 ∧ Hid (∀ y ∈ Y, y.length ≤ 1000)) (fun pv _ => nx - lenV pv)
      case atStart => exact ⟨H, Y, HPB3, hHl, HY⟩
      case round =>
        clear HPB3 HY hHl
        obtain ⟨H, Y, HPB, hHl, HY⟩ := hrel
        obtain ⟨Ap, cp, hpv, -, -, -, -⟩ := HPB.out.p.shape
        obtain ⟨k, hk⟩ : ∃ k, H.length = k := ⟨_, rfl⟩
        rw [hk] at hpv hHl
        subst hpv
        by_cases hlt : k < nx
        · have hlt2 : (k : Int) < (nx : Int) := by omega
          have hcv := Lib.run_convert_bytes_const (P := Tryz.prog) wr 38 5 #[.int .u8 114, .int .u8 101, .int .u8 115, .int .u8 101, .int .u8 114, .int .u8 118, .int .u8 101, .int .u8 32, .int .u8 97] 9 9 (by kernel_rfl) (by kernel_rfl)
          have hb2 := (Bel.refl wr).alloc (.cells #[.int .u8 114, .int .u8 101, .int .u8 115, .int .u8 101, .int .u8 114, .int .u8 118, .int .u8 101, .int .u8 32, .int .u8 97] 5 (9, 10))
          have hsl : Sl U8 (wr.alloc (.cells #[.int .u8 114, .int .u8 101, .int .u8 115, .int .u8 101, .int .u8 114, .int .u8 118, .int .u8 101, .int .u8 32, .int .u8 97] 5 (9, 10))) (wr.alloc (.cells #[.int .u8 114, .int .u8 101, .int .u8 115, .int .u8 101, .int .u8 114, .int .u8 118, .int .u8 101, .int .u8 32, .int .u8 97] 5 (9, 10))).heap.size (some ⟨wr.heap.size, 0, none⟩) 9 rsvA := Sl.of_row (heap_alloc_new wr _) (by rfl) rfl (by simp)
          have hp1 : ∀ j, (Value.slice Ap k cp).ownBlock = some j → j < wr.heap.size := fun j e => (HPB.out.p.lt j e).2
          have hp2 : ∀ j, v3.ownBlock = some j → j < wr.heap.size := fun j e => (HPB.out.b.lt j e).2
          have h3 := (HPB.out.step hb2).step ((Bel.refl _).alloc (.cells #[.slice (some ⟨wr.heap.size, 0, none⟩) 9 9] 38))
          obtain ⟨v4, w4, hrun4, h4⟩ := h3.addP ⟨some ⟨wr.heap.size, 0, none⟩, 9, 9⟩ rsvA (wr.heap.size + 1) (hsl.stepB ((Bel.refl _).alloc (.cells #[.slice (some ⟨wr.heap.size, 0, none⟩) 9 9] 38))) ⟨Nat.le_refl _, by show 9 ≤ maxLen; unfold maxLen; omega⟩ (fun ad e => by injection e with e; subst e; exact ⟨fun e2 => absurd (hp1 _ e2) (Nat.lt_irrefl _), fun e2 => absurd (hp2 _ e2) (Nat.lt_irrefl _)⟩) (Sl.new_ (xs := [(⟨some ⟨wr.heap.size, 0, none⟩, 9, 9⟩ : Hdr)]) rfl (by simp) (by simp) (by simp)) (by omega)
          have HPB4 := Lib.hid h4
          have HY4 : Hid (∀ q ∈ Y ++ [rsvA], q.length ≤ 1000) := Lib.hid (by
            intro q hq
            rcases List.mem_append.1 hq with hq | hq
            · exact HY.out q hq
            · rw [List.mem_singleton.1 hq]; decide)
          have hlv : lenV v4 = k + 1 := by
            obtain ⟨A9, c9, h9, -, -, -, -⟩ := h4.p.shape
            rw [h9, List.length_append, hk]; rfl
          have HLV := Lib.hid hlv; have HKL := Lib.hid hk
          clear h3 h4 hp1 hp2 hsl hb2 hlv hk
          go_wp2_with fail
          exact ⟨⟨_, _, HPB4, by rw [List.length_append, HKL.out]; show k + 1 ≤ 8; omega, HY4⟩, by rw [HLV.out]; show nx - (k + 1) < nx - k; omega⟩
        · have hlt2 : ¬ (k : Int) < (nx : Int) := by omega
          go_wp2_with fail
          go_loopw [12] (fun bv wr => ∃ (Z : List BoolV), Hid (PB w1 wr (.slice Ap k cp) bv H Y Z) ∧ Z.length ≤ 8) (fun bv _ => nx - lenV bv)
          case atStart => exact ⟨Z, HPB, hZ⟩
          case round =>
            clear HPB hZ
            obtain ⟨Z, HPB, hZ⟩ := hrel
            obtain ⟨Ab, cb, hbv, hbS, hbc, hbm, -⟩ := HPB.out.b.shape
            obtain ⟨Ap2, cp2, hpv2, hpS, hpc, hpm, -⟩ := HPB.out.p.shape
            obtain ⟨j, hj⟩ : ∃ j, Z.length = j := ⟨_, rfl⟩
            rw [hj] at hbv hbS hbc hZ
            rw [hk] at hpv2 hpS hpc
            injection hpv2 with q1 q2 q3
            subst q1; subst q3; clear q2
            subst hbv
            by_cases hltj : j < nx
            · have hltj2 : (j : Int) < (nx : Int) := by omega
              have h5 := HPB.out.step ((Bel.refl wr).alloc (.cells #[.bool false] 4))
              obtain ⟨v6, w6, hrun6, h6⟩ := h5.addB ⟨false⟩ wr.heap.size (Sl.new_ (xs := [(⟨false⟩ : BoolV)]) rfl rfl rfl (by simp)) (by omega)
              have HPB6 := Lib.hid h6
              have hlv : lenV v6 = j + 1 := by
                obtain ⟨A9, c9, h9, -, -, -, -⟩ := h6.b.shape
                rw [h9, List.length_append, hj]; rfl
              have HLV := Lib.hid hlv; have HJL := Lib.hid hj
              clear h5 h6 hbS hpS hlv hj
              go_wp2_with fail
              exact ⟨⟨_, HPB6, by rw [List.length_append, HJL.out]; show j + 1 ≤ 8; omega⟩, by rw [HLV.out]; show nx - (j + 1) < nx - j; omega⟩
            · have hltj2 : ¬ (j : Int) < (nx : Int) := by omega
              have hx0 : (0 : Int) ≤ (nx : Int) := by omega
              have hx1 : (nx : Int) ≤ (cp : Int) := by omega
              have hx2 : (nx : Int) ≤ (cb : Int) := by omega
              have HPS := Lib.hid hpS; have HZS := Lib.hid hbS
              have HR := Lib.hid HPB.out.r1.plain
              have HBB := Lib.hid HPB.out.bel
              clear hpS hbS HPB
              go_wp2_with fail
              refine wp_region_G GB [] GB.rf (by kernel_rfl) ?_
              refine wpG_looks 0 10 [0,1,2,3,4,5,6,7,8,9] rfl GB.rf GB.tr (by kernel_rfl) (fun _ _ _ _ hd h => And.intro (hd ▸ And.left h) (And.right h)) rfl (by kernel_rfl) ?_
              intro ι W9 hne CW
              clear CW
              repeat (refine wpLooksG_step (fun K hK => ?_); go_simp; refine hK _ ?_; clear hK K)
              refine wpLooksG_nil ?_
              clear hne W9 ι
              refine wpG_end (by kernel_rfl) (fun wn hwn => ?_) _
              have HP := Lib.hid (show PRead w1 wn (.slice Ap nx cp) (.slice Ab nx cb) nx nx (H.take nx) (Y.take nx) (Z.take nx) from
                ⟨⟨Ap, cp, rfl, (HPS.out.stepB hwn.undrew).take (by omega), by omega, hpm⟩, ⟨Ab, cb, rfl, (HZS.out.stepB hwn.undrew).take (by omega), by omega, hbm⟩, (HR.out.step hwn.undrew).take nx, HBB.out.trans hwn.undrew, fun y hy => HY.out y (List.mem_of_mem_take hy), by omega, by omega⟩)
              clear hwn
              go_wp2_with fail
              go_meet
              exact ⟨_, _, _, _, _, HP⟩
  case rest =>
  obtain ⟨np, nb, H, Y, Z, HP⟩ := hcut
  obtain ⟨Ap, cp, hpv, hpS, hpc, hpm⟩ := HP.out.p
  obtain ⟨Ab, cb, hbv, hbS, hbc, hbm⟩ := HP.out.b
  have hnp := HP.out.np; have hnb := HP.out.nb
  subst hpv; subst hbv
  have HPS := Lib.hid hpS; have HZS := Lib.hid hbS
  have HBW2 := Lib.hid (Bel.trans HB1.out HP.out.bel)
  clear HPB3 HBW HY hZ hHl hpS hbS hpc hpm hbc hbm
  by_cases hok : np = nx ∧ nb = nx
  · obtain ⟨h1, h2⟩ := hok
    have h1 := h1.symm
    have h2 := h2.symm
    subst h1; subst h2
    have hnn : ((nx : Int) == (nx : Int)) = true := by simp
    go_wp2_with fail
    refine (replies_any A1 Ap Ab nx c1 cp cb X H Y Z _ (HL.out.bel HBW2.out) (HX1.out.stepB HP.out.bel) HPS.out HP.out.rows HP.out.short HZS.out hn8).mono ?_
    rintro _ w5 ⟨v5, rfl, ho5, hb5⟩
    have HO5 := Lib.hid ho5
    have HB5 := Lib.hid (HBW2.out.trans hb5)
    have HX5 := Lib.hid ((HX1.out.stepB HP.out.bel).stepB hb5); have HP5 := Lib.hid (HPS.out.stepB hb5); have HZ5 := Lib.hid (HZS.out.stepB hb5)
    have HR5 := Lib.hid (HP.out.rows.step hb5); have HYS := Lib.hid HP.out.short
    clear ho5 hb5 HPS HZS HX1 HP HBW2
    go_wp2_with fail
    refine (rnewApp_any w5).mono ?_
    rintro _ w6 ⟨a, h, q, rfl, hA6, hF6, hb6⟩
    have HST := Lib.hid (show WR w5 w6 a h q (repAt X Y Z 0).1 (2 * 0) (.slice none 0 0) (repAt X Y Z 0).2 from ⟨hA6, hb6, hF6, OwnS.nil _ _ _, (fun k hk => nomatch hk), (fun k hk => nomatch hk)⟩)
    clear hA6 hF6 hb6
    go_wp2_with fail
    go_loopw [16, 99] (fun ov iv wr => ∃ k : Nat, k ≤ nx ∧ iv = .int .i64 k ∧ Hid (WR w5 wr a h q (repAt X Y Z k).1 (2 * k) ov (repAt X Y Z k).2)) (fun _ iv _ => nx - (intOf iv).toNat)
    case atStart => exact ⟨0, by omega, rfl, HST⟩
    case round =>
      obtain ⟨k, hk, rfl, hst⟩ := hrel
      clear HST
      by_cases hlt : k < nx
      · obtain ⟨ad, x, rfl, _, hxk, hgx⟩ := (HX5.out.stepB hst.out.bel).at_ (k := k) hlt
        change get? GEntry wr (ad.add (k * 35)) = some x at hgx
        have hlt2 : (k : Int) < (nx : Int) := by omega
        have hk0 : (0 : Int) ≤ (k : Int) := by omega
        have HXK := Lib.hid hxk
        clear hxk
        obtain ⟨R, hR⟩ : ∃ R, repAt X Y Z k = R := ⟨_, rfl⟩
        have hlo : (repAt X Y Z k).2.length = k := repAt_len X Y Z k
        rw [hR] at hst hlo
        obtain ⟨M, o⟩ := R
        change o.length = k at hlo
        replace hst : Hid (WR w5 wr a h q M (2 * k) u16 o) := hst
        obtain ⟨bd, hd, rfl, _, hhk, hgh⟩ := (HP5.out.stepB hst.out.bel).at_ (k := k) hlt
        obtain ⟨cd, b, rfl, _, hbk, hgb⟩ := (HZ5.out.stepB hst.out.bel).at_ (k := k) hlt
        obtain ⟨y, hyk⟩ : ∃ y, Y[k]? = some y := ⟨_, List.getElem?_eq_getElem (by rw [← HR5.out.len]; exact (List.getElem?_eq_some_iff.1 hhk).1)⟩
        obtain ⟨hyS, _, _, _⟩ := HR5.out.get k hd y hhk hyk
        have hyb : ∀ ad, hd.a = some ad → 0 < hd.len → ad.block < w5.heap.size := fun ad e h0 => hyS.block_lt h0 e
        have hy9 := HYS.out y (List.mem_of_getElem? hyk)
        have hyl : hd.len ≤ 1000 := by rw [← hyS.1]; exact hy9
        replace hyS := hyS.stepB hst.out.bel
        have hnx2 := repAt_next HXK.out hyk hbk hR
        have f2 : wr.cell? (bd.add k) = some hd.val := by have := get1 rfl hgh; rwa [show k * Enc.n Hdr = k from Nat.mul_one k] at this
        have f3 : wr.cell? (cd.add k) = some (.bool b.v) := by have := get1 rfl hgb; rwa [show k * Enc.n BoolV = k from Nat.mul_one k] at this
        obtain ⟨bb, hbb⟩ : ∃ bb, b.v = bb := ⟨_, rfl⟩
        rw [hbb] at f3 hnx2
        have HYQ := Lib.hid hyS; have HYB := Lib.hid hyb; have HNX := Lib.hid hnx2
        clear hhk hgh hbk hgb hyk hyS hyb hy9 hnx2 hR hbb
        cases bb
        · obtain ⟨S, hS⟩ : ∃ S, stepM M x (bytesB y) false = S := ⟨_, rfl⟩
          have HS := Lib.hid (show execA M x.name.client x.time (bytesB y) = S from hS)
          rw [hS] at HNX
          clear hS
          obtain ⟨ha, hl0, hc0⟩ := hd
          have hyl2 : hl0 ≤ 1000 := hyl
          clear hyl
          have f2' : wr.cell? (bd.add k) = some (.slice ha hl0 hc0) := f2
          clear f2
          go_upto_region 24 with fail
          refine wp_region_G GB [10, 12] GB.rf (by kernel_rfl) ?_
          refine wpG_looks 5 14 [1,2,3,4,5,6,7,8,9] rfl GB.rf GB.tr (by kernel_rfl) (fun _ _ _ _ hd h => And.intro (hd ▸ And.left h) (And.right h)) rfl (by kernel_rfl) ?_
          intro ι W9 hne CW
          have g1 : ∀ z, get? GEntry (W9 z) (ad.add (k * 35)) = some x := fun z => GB.get (CW.out z).undrew hgx
          have g2 := fun z => GB.cell (CW.out z).undrew f2'
          repeat (refine wpLooksG_step (fun K hK => ?_); go_simp; refine hK _ ?_; clear hK K)
          refine wpLooksG_nil ?_
          clear g1 g2 CW hne W9 ι f2' f3 hgx
          refine wpG_move 0 _ _ rfl rfl rfl GB.rf GB.tr (by kernel_rfl) (fun _ _ _ _ hd h => And.intro (hd ▸ And.left h) (And.right h)) (by kernel_rfl) ?_
          refine wpG_force 10 _ rfl (by kernel_rfl) rfl fun wa hwa K hK => ?_
          have hsa := hst.out.step hwa.undrew
          have hya := HYQ.out.stepB hwa.undrew
          go_simp
          refine (rexec_any a h q (2 * k) M x ha hl0 hc0 y wa hsa.app hya (fun h0 ad e hf => by have := HYB.out ad e h0; have := hst.out.far _ hf; omega) (by omega) (by omega)).mono ?_
          rintro _ wb ⟨rfl, hAb, hCb⟩
          rw [HS.out] at hAb ⊢
          have hsb := hsa.did hAb hCb
          refine hK _ _ (fun h => absurd (by simp) h) ?_
          clear hK K hwa hsa hya hAb hCb
          refine wpG_force 11 _ rfl (by kernel_rfl) rfl fun wc' hwc K hK => ?_
          have hsc := hsb.step hwc
          go_simp
          refine hK _ _ (fun _ => GB.al _ _) ?_
          clear hK K
          have hsd := hsc.step ((Bel.refl wc').alloc (.cells #[.string S.1] 9))
          have hsl : Sl StrV (wc'.alloc (.cells #[.string S.1] 9)) (wc'.alloc (.cells #[.string S.1] 9)).heap.size (some ⟨wc'.heap.size, 0, none⟩) 1 [⟨S.1⟩] := Sl.new_ (by rfl) rfl rfl (by simp)
          generalize wc'.alloc (.cells #[.string S.1] 9) = wd' at hsd hsl ⊢
          refine wpG_force 12 _ rfl (by kernel_rfl) rfl fun we hwe K hK => ?_
          obtain ⟨v8, w8, hrun8, hs8⟩ := (hsd.step hwe).add S.1 wc'.heap.size (by omega) (hsl.stepB hwe)
          go_simp
          refine hK _ _ (fun h => absurd (by simp) h) ?_
          clear hK K hrun8
          refine wpG_force 13 _ rfl (by kernel_rfl) rfl fun wf hwf K hK => ?_
          go_simp
          refine hK _ _ (fun _ => GB.rf _) ?_
          clear hK K
          refine wpG_end (by kernel_rfl) (fun wn hwn => ?_) _
          have HW9 := Lib.hid (show WR w5 wn a h q (repAt X Y Z (k + 1)).1 (2 * (k + 1)) v8 (repAt X Y Z (k + 1)).2 by rw [HNX.out]; exact hs8.step (GB.tr _ _ _ hwf hwn))
          clear hs8 hwf hwn hwe hsd hsl hsc hsb hwc
          go_wp2_with fail
          exact ⟨⟨k + 1, by omega, by go_num, HW9⟩, by simp [intOf]; omega⟩
        · obtain ⟨S, hS⟩ : ∃ S, stepM M x (bytesB y) true = S := ⟨_, rfl⟩
          have HS := Lib.hid (show (sBuried, settleA M x.time) = S from hS)
          rw [hS] at HNX
          clear hS f2
          have hgx2 := hgx
          go_wp2_with fail
          refine (rbury_any a h q (2 * k) M x wr hst.out.app (by omega)).mono ?_
          rintro _ wb ⟨rfl, hAb, hCb⟩
          rw [HS.out] at hAb ⊢
          have hsb := hst.out.did hAb hCb
          have hsd := hsb.step ((Bel.refl wb).alloc (.cells #[.string S.1] 9))
          have hsl : Sl StrV (wb.alloc (.cells #[.string S.1] 9)) (wb.alloc (.cells #[.string S.1] 9)).heap.size (some ⟨wb.heap.size, 0, none⟩) 1 [⟨S.1⟩] := Sl.new_ (by rfl) rfl rfl (by simp)
          obtain ⟨v8, w8, hrun8, hs8⟩ := hsd.add S.1 wb.heap.size (by omega) hsl
          have HW9 := Lib.hid (show WR w5 w8 a h q (repAt X Y Z (k + 1)).1 (2 * (k + 1)) v8 (repAt X Y Z (k + 1)).2 by rw [HNX.out]; exact hs8)
          clear hs8 hsd hsl hsb hAb hCb hgx hgx2 f3
          go_wp2_with fail
          go_roundw
          case rel => exact ⟨k + 1, by omega, by go_num, HW9⟩
          case measure => simp [intOf]; omega
      · obtain rfl : k = nx := by omega
        have hn1 : ¬ (k : Int) < (k : Int) := by omega
        have hlo : (repAt X Y Z k).2.length = k := repAt_len X Y Z k
        obtain ⟨A8, c8, hv8, hs8, hc8, -, -⟩ := hst.out.own.shape
        obtain ⟨A9, c9, hv9, hs9, hc9, -, -⟩ := (HO5.out.step hst.out.bel).shape
        rw [List.length_map, hlo] at hv8 hs8 hv9 hs9
        subst hv8; subst hv9
        have HS8 := Lib.hid hs8; have HS9 := Lib.hid hs9
        have HBE := Lib.hid (HB5.out.trans hst.out.bel)
        clear hs8 hs9 hlo hc8 hc9 hst
        go_wp2_with fail
        refine (sameStr_any A9 A8 k c9 c8 _ _ HS9.out HS8.out (by unfold maxLen; omega)).mono ?_
        rintro _ w9 ⟨rfl, hb9⟩
        have HB9 := Lib.hid (HBE.out.trans hb9)
        clear hb9
        go_wp2_with fail
        refine (wakes_any _).mono ?_
        rintro _ w10 ⟨rfl, hb10⟩
        have HB10 := Lib.hid (HB9.out.trans hb10)
        clear hb10
        go_wp2_with fail
        go_ret
        exact ⟨rfl, HB10.out⟩
  · have hno : ¬ np = nx ∨ ¬ nb = nx := by
      by_cases h1 : np = nx
      · exact .inr fun h2 => hok ⟨h1, h2⟩
      · exact .inl h1
    have HRN := Lib.hid (fun wz => replies_no A1 Ap Ab nx np nb c1 cp cb wz hno)
    have hcases : ((np : Int) == (nx : Int)) = false ∨ (np = nx ∧ ((nb : Int) == (nx : Int)) = false) := by
      by_cases h1 : np = nx
      · exact .inr ⟨h1, by rw [beq_eq_false_iff_ne]; intro e; exact hok ⟨h1, by omega⟩⟩
      · exact .inl (by rw [beq_eq_false_iff_ne]; intro e; exact h1 (by omega))
    clear hok hno
    go_wp2_with fail
    refine (HRN.out _).mono ?_
    rintro _ w5 ⟨rfl, h5⟩
    subst h5
    rcases hcases with h1 | ⟨rfl, h1⟩
    all_goals
    go_wp2_with fail
    refine (wakes_any _).mono ?_
    rintro _ w10 ⟨rfl, hb10⟩
    have HB10 := Lib.hid (HBW2.out.trans hb10)
    clear hb10
    go_wp2_with fail
    go_ret
    exact ⟨rfl, HB10.out⟩
end Go.Proofs.YteockodnfempfaaGreatDoor
