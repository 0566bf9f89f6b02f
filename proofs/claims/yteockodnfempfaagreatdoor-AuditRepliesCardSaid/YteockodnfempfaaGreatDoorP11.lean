/- AuditSame: what an app replies to a log it replies to each beginning of it. Conditions: those named in each theorem. -/
import Derived.Test.YteockodnfempfaaGreatDoorP2
import Derived.Test.YteockodnfempfaaGreatDoorP8
import Derived.Test.YteockodnfempfaaGreatDoorP3
/- The struct types of this seat as Lean types, with the runs of single operations over them. Conditions: those named in each theorem. -/
namespace Go.Proofs.YteockodnfempfaaGreatDoor
open Go Go.RowKit Go.Gv
set_option linter.unusedSimpArgs false

/-! ### [][]uint8 -/
theorem ei43 : ElemI Tryz.prog 43 38 Hdr 24 := ⟨by kernel_rfl, by kernel_rfl⟩
/-! ### []bool -/
theorem ei44 : ElemI Tryz.prog 44 4 BoolV 1 := ⟨by kernel_rfl, by kernel_rfl⟩
/-! ### []uint8 -/
theorem ei38 : ElemI Tryz.prog 38 5 U8 1 := ⟨by kernel_rfl, by kernel_rfl⟩

end Go.Proofs.YteockodnfempfaaGreatDoor
/- What the arguments of this seat read as. Conditions: those named in each theorem. -/
namespace Go.Proofs.YteockodnfempfaaGreatDoor
open Go Go.RowKit Go.Gv

theorem cz43 : Tryz.prog.cellsOf 43 = 1 := by kernel_rfl
theorem cz38 : Tryz.prog.cellsOf 38 = 1 := by kernel_rfl
theorem cz5 : Tryz.prog.cellsOf 5 = 1 := by kernel_rfl
theorem op5 (W : World) : Opens Tryz.prog W 5 U8 (fun _ => True) := opens_u8 (by kernel_rfl)
theorem op38 (W : World) : Opens Tryz.prog W 38 Hdr (SlOk W U8 (fun _ => True)) := opens_slice (e := 5) (by kernel_rfl) (cz5.trans rfl) (op5 W)
theorem op43 (W : World) : Opens Tryz.prog W 43 Hdr (SlOk W Hdr (SlOk W U8 (fun _ => True))) := opens_slice (e := 38) (by kernel_rfl) (cz38.trans rfl) (op38 W)
theorem cz44 : Tryz.prog.cellsOf 44 = 1 := by kernel_rfl
theorem op4 (W : World) : Opens Tryz.prog W 4 BoolV (fun _ => True) := opens_bool (by kernel_rfl)
theorem op44 (W : World) : Opens Tryz.prog W 44 Hdr (SlOk W BoolV (fun _ => True)) := opens_slice (e := 4) (by kernel_rfl) (cz4.trans rfl) (op4 W)
end Go.Proofs.YteockodnfempfaaGreatDoor
/- What an app replies to a log (audit.Replies). Conditions: those named in each theorem. -/
namespace Go.Proofs.YteockodnfempfaaGreatDoor
open Go Go.RowKit Go.Gv Go.Sort

/-- One act's reply, and the app behind it. -/
def stepM (M : MApp) (e : GEntry) (pl : ByteArray) (b : Bool) : ByteArray × MApp := if b then (sBuried, settleA M e.time) else execA M e.name.client e.time pl
/-- The app and the replies behind the first k acts. -/
def repAt (xs : List GEntry) (ys : List (List U8)) (bs : List BoolV) : Nat → MApp × List ByteArray
  | 0 => (M0, [])
  | k + 1 => ((stepM (repAt xs ys bs k).1 (xs.getD k default) (bytesB (ys.getD k [])) (bs.getD k ⟨false⟩).v).2, (repAt xs ys bs k).2 ++ [(stepM (repAt xs ys bs k).1 (xs.getD k default) (bytesB (ys.getD k [])) (bs.getD k ⟨false⟩).v).1])
theorem repAt_len (xs : List GEntry) (ys : List (List U8)) (bs : List BoolV) : ∀ k, (repAt xs ys bs k).2.length = k
  | 0 => rfl
  | k + 1 => by unfold repAt; simp [repAt_len xs ys bs k]
theorem repAt_take (xs : List GEntry) (ys : List (List U8)) (bs : List BoolV) (m : Nat) : ∀ k, k ≤ m → repAt (xs.take m) (ys.take m) (bs.take m) k = repAt xs ys bs k
  | 0, _ => rfl
  | k + 1, h => by
    have e1 : (xs.take m).getD k default = xs.getD k default := by simp only [List.getD, List.getElem?_take]; rw [if_pos (by omega)]
    have e2 : (ys.take m).getD k [] = ys.getD k [] := by simp only [List.getD, List.getElem?_take]; rw [if_pos (by omega)]
    have e3 : (bs.take m).getD k ⟨false⟩ = bs.getD k ⟨false⟩ := by simp only [List.getD, List.getElem?_take]; rw [if_pos (by omega)]
    unfold repAt
    rw [repAt_take xs ys bs m k (by omega), e1, e2, e3]
theorem repAt_pre (xs : List GEntry) (ys : List (List U8)) (bs : List BoolV) (m : Nat) : ∀ k, m ≤ k → (repAt xs ys bs k).2.take m = (repAt xs ys bs m).2
  | 0, h => by obtain rfl : m = 0 := by omega
               rfl
  | k + 1, h => by
    by_cases e : m = k + 1
    · subst e; exact List.take_of_length_le (by rw [repAt_len]; exact Nat.le_refl _)
    · conv => lhs; unfold repAt
      rw [List.take_append_of_le_length (by rw [repAt_len]; omega)]
      exact repAt_pre xs ys bs m k (by omega)

/-- The block of the slice holds texts alone. -/
def Texts (w : World) (v : Value) : Prop := ∀ k, v.ownBlock = some k → ∃ cs e f, w.heap[k]? = some (.cells cs e f) ∧ ∀ c ∈ cs.toList, ∃ s, c = Value.string s
theorem Texts.noBid {w : World} {v : Value} (h : Texts w v) (k : Nat) (hk : v.ownBlock = some k) : NoBid w k := by
  obtain ⟨cs, e, f, hh, hc⟩ := h k hk
  intro u x hx eu
  have h0 := cell_zero (GAuctionBid.at_client hx)
  unfold World.cell? at h0
  rw [eu, hh] at h0
  simp only at h0
  split at h0
  · cases h0
  · have := Array.mem_of_getElem? h0
    obtain ⟨s, e⟩ := hc _ (by simpa using this)
    cases e
theorem Texts.keep {w w' : World} {v : Value} (h : Texts w v) (hk : ∀ k, v.ownBlock = some k → w'.heap[k]? = w.heap[k]?) : Texts w' v := fun k e => by
  obtain ⟨cs, t, f, hh, hc⟩ := h k e
  exact ⟨cs, t, f, (hk k e).trans hh, hc⟩
theorem zero_texts (z0 : ByteArray) (n : Nat) : ∀ c ∈ (Builtin.zeroCells #[Value.string z0] n).toList, ∃ s, c = Value.string s := by
  intro c hc
  unfold Builtin.zeroCells at hc
  simp only [Array.toList_map, List.mem_map] at hc
  obtain ⟨i, _, rfl⟩ := hc
  refine ⟨z0, ?_⟩
  have : i % (#[Value.string z0] : Array Value).size = 0 := Nat.mod_one i
  rw [this]; rfl
theorem append_texts {P : Program} {w w' : World} {t e ty : TypeId} {base B : Nat} {v v' : Value} {xs : List StrV} {s z0 : ByteArray} (E : ElemI P t e StrV 16) (hz : (P.info? e).bind (·.zero) = some (.string z0)) (hown : OwnS w base e v xs) (ht : Texts w v)
    (hs : w.cell? ⟨B, 0, none⟩ = some (.string s)) (hx : xs.length ≤ 1000) (hrun : (Builtin.append_ #[t, t] ty #[v, .slice (some ⟨B, 0, none⟩) 1 1]).run P w = .ok v' w') : Texts w' v' := by
  obtain ⟨i, hi, hxx⟩ := Option.map_eq_some_iff.1 E.ex
  simp only [Prod.mk.injEq, Option.map_eq_some_iff] at hxx
  obtain ⟨h1, h2, z, h3, h4⟩ := hxx
  rw [hi] at hz
  have hzz : z = .string z0 := Option.some.inj (h3.symm.trans hz)
  subst hzz
  have e1 : i.size = 1 := h1
  have hl : [Value.string s].length = 1 * i.size := by rw [e1]; rfl
  have hnews : ∀ j u, [Value.string s][j]? = some u → w.cell? ((⟨B, 0, none⟩ : Addr).add j) = some u := by
    intro j u hu
    match j with
    | 0 => simp at hu; subst hu; simpa [Addr.add] using hs
    | j + 1 => simp at hu
  rcases hown.2 with ⟨rfl, h0⟩ | ⟨g, cap, cur, rfl, hb, hg, hnc, hcm, hcs, htake⟩
  · rw [_root_.Go.run_append_nil (P := P) w t ty e i _ E.ht hi h3 ⟨B, 0, none⟩ 1 1 [.string s] hl hnews (by omega) (by omega) (by rw [h2]; omega)] at hrun
    injection hrun with q1 q2
    subst q1; subst q2
    intro k hk
    injection hk with hk
    subst hk
    refine ⟨_, _, _, heap_alloc_new w.drew _, fun c hc => ?_⟩
    simp only [Array.toList_append, List.mem_append, List.mem_singleton] at hc
    rcases hc with rfl | hc
    · exact ⟨s, rfl⟩
    · exact zero_texts z0 _ c hc
  · obtain ⟨cs, te, f, hh, hc0⟩ := ht g rfl
    rw [hg] at hh
    injection hh with hh
    injection hh with q1 q2 q3
    subst q1
    have e3 : Enc.n StrV = 1 := rfl
    rw [e3, Nat.mul_one] at hcs htake
    by_cases hroom : xs.length + 1 ≤ cap
    · rw [run_append_room (P := P) w t ty e i E.ht hi g xs.length cap cur hg ⟨B, 0, none⟩ 1 1 [.string s] hl hnews (by intro u hu; simp at hu; subst hu; rfl) hroom (by rw [e1]; simp; omega)] at hrun
      injection hrun with q1 q2
      subst q1; subst q2
      intro k hk
      injection hk with hk
      subst hk
      refine ⟨_, _, _, setRow_heap w g cur _ e _ hg, fun c hc => ?_⟩
      simp only [List.mem_append, List.mem_singleton] at hc
      rcases hc with (hc | rfl) | hc
      · exact hc0 c (List.mem_of_mem_take hc)
      · exact ⟨s, rfl⟩
      · exact hc0 c (List.mem_of_mem_drop hc)
    · have hcells : ∀ j u, (xs.flatMap Enc.enc)[j]? = some u → w.cell? ((⟨g, 0, none⟩ : Addr).add j) = some u := World.ownsRow.cells (g := g) hown rfl
      rw [run_append_grow (P := P) w t ty e i _ E.ht hi h3 ⟨g, 0, none⟩ xs.length cap (xs.flatMap Enc.enc) (by rw [flat_len, e1]; rfl) hcells ⟨B, 0, none⟩ 1 1 [.string s] hl hnews (by omega) (by omega) (growslice_fits (by omega) (by rw [h2]; omega))] at hrun
      injection hrun with q1 q2
      subst q1; subst q2
      intro k hk
      injection hk with hk
      subst hk
      refine ⟨_, _, _, heap_alloc_new w.drew _, fun c hc => ?_⟩
      simp only [Array.toList_append, List.mem_append, List.mem_singleton] at hc
      rcases hc with (hc | rfl) | hc
      · obtain ⟨x, _, hx⟩ := List.mem_flatMap.1 hc
        exact ⟨x.v, List.mem_singleton.1 hx⟩
      · exact ⟨s, rfl⟩
      · exact zero_texts z0 _ c hc

theorem zero_str : (Tryz.prog.info? 9).bind (·.zero) = some (.string ByteArray.empty) := by kernel_rfl
theorem repAt_next {xs : List GEntry} {ys : List (List U8)} {bs : List BoolV} {k : Nat} {x : GEntry} {y : List U8} {b : BoolV} {M : MApp} {o : List ByteArray} (hx : xs[k]? = some x) (hy : ys[k]? = some y) (hb : bs[k]? = some b) (hr : repAt xs ys bs k = (M, o)) :
    repAt xs ys bs (k + 1) = ((stepM M x (bytesB y) b.v).2, o ++ [(stepM M x (bytesB y) b.v).1]) := by
  unfold repAt
  rw [hr]
  simp only [List.getD, hx, hy, hb, Option.getD_some]
/-- An app behind a world in which the library's variables lie, and the replies so far. -/
structure RepS (w wr : World) (a g r p q : Nat) (M : MApp) (kk : Nat) (v : Value) (out : List ByteArray) : Prop where
  app : AppIs wr a g r p q M kk
  bel : Bel w wr
  far : ∀ k, footA a r q k → w.heap.size ≤ k
  own : OwnS wr w.heap.size 9 v (out.map StrV.mk)
  sep : ∀ k, v.ownBlock = some k → ¬ (footA a r q k ∨ k = g ∨ k = p)
  texts : Texts wr v
section
variable {w wr w' : World} {a g r p q kk : Nat} {M : MApp} {v : Value} {out : List ByteArray}
theorem RepS.step (h : RepS w wr a g r p q M kk v out) (hb : Bel wr w') : RepS w w' a g r p q M kk v out := ⟨h.app.bel hb, h.bel.trans hb, h.far, h.own.step hb, h.sep, h.texts.keep fun k e => Below.block hb k (h.own.lt k e).2⟩
theorem RepS.did {M' : MApp} {k2 : Nat} (h : RepS w wr a g r p q M kk v out) (hA : AppIs w' a g r p q M' k2) (hc : Chg (footA a r q) wr w') : RepS w w' a g r p q M' k2 v out :=
  ⟨hA, Chg.bel2 h.bel hc h.far, h.far, h.own.chg hc (fun k hk hf => h.sep k hk (.inl hf)), h.sep, h.texts.keep fun k e => hc.block k (h.own.lt k e).2 (fun hf => h.sep k e (.inl hf))⟩
theorem RepS.mono {j : Nat} (h : RepS w wr a g r p q M kk v out) (hj : kk ≤ j) : RepS w wr a g r p q M j v out := ⟨h.app.mono hj, h.bel, h.far, h.own, h.sep, h.texts⟩
set_option maxRecDepth 100000 in
/-- One reply more. -/
theorem RepS.add (h : RepS w wr a g r p q M kk v out) (s : ByteArray) (B : Nat) (hl : out.length ≤ 1000) (hs : Sl StrV wr wr.heap.size (some ⟨B, 0, none⟩) 1 [⟨s⟩]) :
    ∃ v' w', (gAppend #[48, 48] 48 #[v, .slice (some ⟨B, 0, none⟩) 1 1]).run Tryz.prog wr = .ok v' w' ∧ RepS w w' a g r p q M kk v' (out ++ [s]) := by
  have hln : (out.map StrV.mk).length ≤ 1000 := by rw [List.length_map]; exact hl
  obtain ⟨v4, w4, hrun, ho, hg, hv⟩ := gAppend_S (P := Tryz.prog) ei48 (t := 48) h.own (c := 1) (m := 1) (A := some ⟨B, 0, none⟩) hs (by unfold maxLen; omega) (by omega) h.bel.size 48
  have hlt := h.app
  have l1 := h.app.lt; have l2 := h.app.house.2.lt; have l3 := h.app.reg.ltr
  have l4 := World.block_lt_of_cell? wr _ h.app.house.1; have l5 := World.block_lt_of_cell? wr _ h.app.reg.1
  simp only at l4 l5
  have hc : Chg (fun k => v.ownBlock = some k) wr w4 := Chg.of_grown hg fun k e => e
  have hsc : wr.cell? ⟨B, 0, none⟩ = some (.string s) := by
    obtain ⟨ad, x, e, _, hx, hg⟩ := hs.at_ (k := 0) (by omega)
    injection e with e; subst e
    simp at hx; subst hx
    have := get1 rfl hg
    simpa [Addr.add] using this
  refine ⟨v4, w4, hrun, ⟨?_, Chg.bel2 h.bel hc (fun k hk => (h.own.lt k hk).1), h.far, by rw [List.map_append]; exact ho, fun k hk => ?_, append_texts ei48 (z0 := ByteArray.empty) zero_str h.own h.texts hsc hln (ty := 48) (by unfold gAppend at hrun; exact hrun)⟩⟩
  · refine h.app.off ?_ hc (fun e => h.sep a e (.inl (.inl rfl))) (fun e => h.sep g e (.inr (.inl rfl))) (fun e => h.sep r e (.inl (.inr (.inl rfl)))) (fun e => h.sep p e (.inr (.inr rfl))) (fun e => h.sep q e (.inl (.inr (.inr rfl))))
    exact fun k hk => h.texts.noBid k hk
  · rcases hv with e | e
    · exact h.sep k (e ▸ hk)
    · rw [e] at hk
      injection hk with hk
      subst hk
      unfold footA
      omega
end
end Go.Proofs.YteockodnfempfaaGreatDoor
/- What an app replies to a log: the walk of audit.Replies. Conditions: those named in each theorem. -/
namespace Go.Proofs.YteockodnfempfaaGreatDoor
open Go Go.RowKit Go.Gv Go.Sort

theorem RowsAt.lenAt {w : World} {hs : List Hdr} {ys : List (List U8)} (h : RowsAt w none hs ys) : hs.length = ys.length := RowsAt.len h
set_option maxRecDepth 100000 in
set_option maxHeartbeats 2000000 in
theorem replies_any (A B C : Option Addr) (n c1 c2 c3 : Nat) (xs : List GEntry) (hs : List Hdr) (ys : List (List U8)) (bs : List BoolV) (w : World) (hL : LibIs w) (hx : Sl GEntry w w.heap.size A n xs) (hh : Sl Hdr w w.heap.size B n hs) (hy : RowsAt w none hs ys) (hys : ∀ y ∈ ys, y.length ≤ 1000) (hb : Sl BoolV w w.heap.size C n bs) (hn : n ≤ 8) :
    Calls Tryz.prog 18 #[.slice A n c1, .slice B n c2, .slice C n c3] w fun e w' => ∃ v, e = .returned (.tuple #[v, .bool true]) ∧ OwnS w' w.heap.size 9 v ((repAt xs ys bs n).2.map StrV.mk) ∧ Bel w w' := by
  have hnx : ((n : Int) != (n : Int)) = false := by simp
  have HL := Lib.hid hL; have HX := Lib.hid hx; have HH := Lib.hid hh; have HY := Lib.hid hy; have HYS := Lib.hid hys; have HBS := Lib.hid hb
  clear hL hx hh hy hys hb
  go_enter Tryz.func18, Tryz.ntmps18
  go_wp2_with fail
  refine (newApp_any w).mono ?_
  rintro _ w1 ⟨a, g, r, p, q, rfl, hA, hF, hb⟩
  have hst : RepS w w1 a g r p q M0 0 (.slice none 0 0) [] := ⟨hA, hb, fun k hk => (hF k).resolve_right (fun e => e (.inl hk)), OwnS.nil _ _ _, (fun k hk => nomatch hk), (fun k hk => nomatch hk)⟩
  have HST := Lib.hid hst
  clear hst hA hF hb
  go_wp2_with fail
  go_loopw [9, 27] (fun vv iv wr => ∃ k : Nat, k ≤ n ∧ iv = .int .i64 k ∧ Hid (RepS w wr a g r p q (repAt xs ys bs k).1 (2 * k) vv (repAt xs ys bs k).2)) (fun _ iv _ => n - (intOf iv).toNat)
  case atStart => exact ⟨0, by omega, rfl, HST⟩
  case round =>
    obtain ⟨k, hk, rfl, hst⟩ := hrel
    by_cases hlt : k < n
    · obtain ⟨ad, x, rfl, _, hxk, hgx⟩ := (HX.out.stepB hst.out.bel).at_ (k := k) hlt
      change get? GEntry wr (ad.add (k * 35)) = some x at hgx
      have hlt2 : (k : Int) < (n : Int) := by omega
      have hk0 : (0 : Int) ≤ (k : Int) := by omega
      have HXK := Lib.hid hxk
      clear hxk HST
      have HG := Lib.hid (get?_new (w := wr) 35 x)
      have HBW := Lib.hid ((Bel.refl wr).alloc (.cells (GEntry.enc x).toArray 35))
      go_upto_region 8 with fail
      change Hid (get? GEntry (wr.alloc (.cells (GEntry.enc x).toArray 35)) ⟨wr.heap.size, 0, none⟩ = some x) at HG
      obtain ⟨ga, hga⟩ : ∃ ga, wr.heap.size = ga := ⟨_, rfl⟩
      rw [hga] at HG ⊢
      generalize wr.alloc (.cells (GEntry.enc x).toArray 35) = wa at HG HBW ⊢
      clear hga hgx
      obtain ⟨R, hR⟩ : ∃ R, repAt xs ys bs k = R := ⟨_, rfl⟩
      have hlo : (repAt xs ys bs k).2.length = k := repAt_len xs ys bs k
      rw [hR] at hst hlo
      obtain ⟨M, o⟩ := R
      replace hst : RepS w wa a g r p q M (2 * k) u9 o := hst.out.step HBW.out
      change o.length = k at hlo
      obtain ⟨bd, hd, rfl, _, hhk, hgh⟩ := (HH.out.stepB hst.bel).at_ (k := k) hlt
      obtain ⟨cd, b, rfl, _, hbk, hgb⟩ := (HBS.out.stepB hst.bel).at_ (k := k) hlt
      obtain ⟨y, hyk⟩ : ∃ y, ys[k]? = some y := ⟨_, List.getElem?_eq_getElem (by rw [← HY.out.len]; exact (List.getElem?_eq_some_iff.1 hhk).1)⟩
      obtain ⟨hyS, _, _, _⟩ := HY.out.get k hd y hhk hyk
      have hyb : ∀ ad, hd.a = some ad → 0 < hd.len → ad.block < w.heap.size := fun ad e h0 => hyS.block_lt h0 e
      have hy9 := HYS.out y (List.mem_of_getElem? hyk)
      have hyl : hd.len ≤ 1000 := by rw [← hyS.1]; exact hy9
      replace hyS := hyS.stepB hst.bel
      have hnx2 := repAt_next HXK.out hyk hbk hR
      have f2 : wa.cell? (bd.add k) = some hd.val := by have := get1 rfl hgh; rwa [show k * Enc.n Hdr = k from Nat.mul_one k] at this
      have f3 : wa.cell? (cd.add k) = some (.bool b.v) := by have := get1 rfl hgb; rwa [show k * Enc.n BoolV = k from Nat.mul_one k] at this
      have g1 := HG.out
      obtain ⟨bb, hbb⟩ : ∃ bb, b.v = bb := ⟨_, rfl⟩
      rw [hbb] at f3 hnx2
      have HNX := Lib.hid hnx2
      have HYSS := Lib.hid hyS
      have HYB := Lib.hid hyb
      have HST := Lib.hid hst
      clear hnx2 hyS hgh hgb hhk hbk hR hbb hyk HG hyb hst hy9
      cases bb
      · obtain ⟨ha, hl0, hc0⟩ := hd
        change wa.cell? (bd.add k) = some (.slice ha hl0 hc0) at f2
        change hl0 ≤ 1000 at hyl
        go_upto_region 10 with fail
        refine wp_region_G GB [7, 9] GB.rf (by kernel_rfl) ?_
        refine wpG_looks 5 11 [1,2,3,4,5,6] rfl GB.rf GB.tr (by kernel_rfl) (fun _ _ _ _ hd h => And.intro (hd ▸ And.left h) (And.right h)) rfl (by kernel_rfl) ?_
        intro ι W hne CW
        have k1 : ∀ z, get? GEntry (W z) ⟨ga, 0, none⟩ = some x := fun z => (CW.out z).get g1
        have k2 : ∀ z, (W z).cell? (bd.add k) = some (.slice ha hl0 hc0) := fun z => (CW.out z).cell f2
        repeat (refine wpLooksG_step (fun K hK => ?_); go_simp; refine hK _ ?_; clear hK K)
        refine wpLooksG_nil ?_
        clear k1 k2 CW hne W ι
        refine wpG_two 0 7 _ _ rfl rfl (by kernel_rfl) rfl rfl ?_ ?_
        · -- 0
          intro q1 hq K hK
          have HST := Lib.hid (HST.out.step hq.undrew)
          have HYSS := Lib.hid (HYSS.out.stepB hq.undrew)
          go_simp
          refine hK _ _ (fun _ => GB.rf _) ?_
          clear hK K hq
          refine wpG_force 7 _ rfl (by kernel_rfl) rfl fun q2 hq K hK => ?_
          have hst := HST.out.step hq
          have hyS := HYSS.out.stepB hq
          go_simp
          refine (exec_any w a g r p q (2 * k) M x ha hl0 hc0 y q2 HL.out hst.bel hst.app hst.far hyS (fun h0 ad e hf => by have h1 := HYB.out ad e h0; have h2 := hst.far _ hf; omega) (by omega) (by omega)).mono ?_
          rintro _ wc ⟨rfl, hA2, hc⟩
          refine hK _ _ (fun h => absurd (by simp) h) ?_
          have HST2 := Lib.hid (hst.did hA2 hc)
          obtain ⟨E, hE⟩ : ∃ E, execA M x.name.client x.time (bytesB y) = E := ⟨_, rfl⟩
          have HNX2 : Hid (repAt xs ys bs (k + 1) = (E.2, o ++ [E.1])) := Lib.hid (by rw [HNX.out, ← hE]; rfl)
          rw [hE] at HST2 ⊢
          clear hK K hA2 hc hst hyS hq HST hE HNX
          refine wpG_force 8 _ rfl (by kernel_rfl) rfl fun q3 hq K hK => ?_
          go_simp
          refine hK _ _ (fun _ => (Bel.refl q3).alloc (.cells #[.string E.1] 9)) ?_
          have h3 := (HST2.out.step hq).step ((Bel.refl q3).alloc (.cells #[.string E.1] 9))
          have hs3 : Sl StrV (q3.alloc (.cells #[.string E.1] 9)) (q3.alloc (.cells #[.string E.1] 9)).heap.size (some ⟨q3.heap.size, 0, none⟩) 1 [⟨E.1⟩] := Sl.new_ (xs := [(⟨E.1⟩ : StrV)]) rfl rfl rfl (by simp)
          obtain ⟨B9, hB9⟩ : ∃ b9, q3.heap.size = b9 := ⟨_, rfl⟩
          rw [hB9] at hs3 ⊢
          generalize q3.alloc (.cells #[.string E.1] 9) = we at h3 hs3 ⊢
          have H3 := Lib.hid h3; have HS3 := Lib.hid hs3
          clear hK K h3 hs3 hq HST2 hB9
          refine wpG_force 9 _ rfl (by kernel_rfl) rfl fun q4 hq K hK => ?_
          obtain ⟨v4, w4, hrun, h4⟩ := (H3.out.step hq).add E.1 B9 (by omega) (HS3.out.stepB hq)
          have H4 := Lib.hid h4
          clear h4 hq H3 HS3
          go_simp
          refine hK _ _ (fun h => absurd (by simp) h) ?_
          clear hK K hrun
          refine wpG_force 10 _ rfl (by kernel_rfl) rfl fun q5 hq K hK => ?_
          go_simp
          refine hK _ _ (fun _ => GB.rf _) ?_
          have H5 := Lib.hid (H4.out.step hq)
          clear hK K hq H4
          refine wpG_end (by kernel_rfl) (fun wn hwn => ?_) _
          have H6 := Lib.hid (H5.out.step hwn)
          clear hwn H5
          go_wp2_with fail
          refine ⟨⟨k + 1, by omega, by go_num, ?_⟩, by simp [intOf]; omega⟩
          rw [HNX2.out]
          exact Lib.hid (H6.out.mono (by omega))
        · -- 7
          intro q6 hq K hK
          have hst := HST.out.step hq.undrew
          have hyS := HYSS.out.stepB hq.undrew
          go_simp
          refine (exec_any w a g r p q (2 * k) M x ha hl0 hc0 y q6 HL.out hst.bel hst.app hst.far hyS (fun h0 ad e hf => by have h1 := HYB.out ad e h0; have h2 := hst.far _ hf; omega) (by omega) (by omega)).mono ?_
          rintro _ wc ⟨rfl, hA2, hc⟩
          refine hK _ _ (fun h => absurd (by simp) h) ?_
          have HST2 := Lib.hid (hst.did hA2 hc)
          obtain ⟨E, hE⟩ : ∃ E, execA M x.name.client x.time (bytesB y) = E := ⟨_, rfl⟩
          have HNX2 : Hid (repAt xs ys bs (k + 1) = (E.2, o ++ [E.1])) := Lib.hid (by rw [HNX.out, ← hE]; rfl)
          rw [hE] at HST2 ⊢
          clear hK K hA2 hc hst hyS hq HST hE HNX
          refine wpG_two 0 8 _ _ rfl rfl (by kernel_rfl) rfl rfl ?_ ?_
          · -- 0
            intro q7 hq K hK
            have HST2 := Lib.hid (HST2.out.step hq)
            go_simp
            refine hK _ _ (fun _ => GB.rf _) ?_
            clear hK K hq
            refine wpG_force 8 _ rfl (by kernel_rfl) rfl fun q8 hq K hK => ?_
            go_simp
            refine hK _ _ (fun _ => (Bel.refl q8).alloc (.cells #[.string E.1] 9)) ?_
            have h3 := (HST2.out.step hq).step ((Bel.refl q8).alloc (.cells #[.string E.1] 9))
            have hs3 : Sl StrV (q8.alloc (.cells #[.string E.1] 9)) (q8.alloc (.cells #[.string E.1] 9)).heap.size (some ⟨q8.heap.size, 0, none⟩) 1 [⟨E.1⟩] := Sl.new_ (xs := [(⟨E.1⟩ : StrV)]) rfl rfl rfl (by simp)
            obtain ⟨B9, hB9⟩ : ∃ b9, q8.heap.size = b9 := ⟨_, rfl⟩
            rw [hB9] at hs3 ⊢
            generalize q8.alloc (.cells #[.string E.1] 9) = we at h3 hs3 ⊢
            have H3 := Lib.hid h3; have HS3 := Lib.hid hs3
            clear hK K h3 hs3 hq HST2 hB9
            refine wpG_force 9 _ rfl (by kernel_rfl) rfl fun q9 hq K hK => ?_
            obtain ⟨v4, w4, hrun, h4⟩ := (H3.out.step hq).add E.1 B9 (by omega) (HS3.out.stepB hq)
            have H4 := Lib.hid h4
            clear h4 hq H3 HS3
            go_simp
            refine hK _ _ (fun h => absurd (by simp) h) ?_
            clear hK K hrun
            refine wpG_force 10 _ rfl (by kernel_rfl) rfl fun q10 hq K hK => ?_
            go_simp
            refine hK _ _ (fun _ => GB.rf _) ?_
            have H5 := Lib.hid (H4.out.step hq)
            clear hK K hq H4
            refine wpG_end (by kernel_rfl) (fun wn hwn => ?_) _
            have H6 := Lib.hid (H5.out.step hwn)
            clear hwn H5
            go_wp2_with fail
            refine ⟨⟨k + 1, by omega, by go_num, ?_⟩, by simp [intOf]; omega⟩
            rw [HNX2.out]
            exact Lib.hid (H6.out.mono (by omega))
          · -- 8
            intro q11 hq K hK
            go_simp
            refine hK _ _ (fun _ => (Bel.refl q11).alloc (.cells #[.string E.1] 9)) ?_
            have h3 := (HST2.out.step hq).step ((Bel.refl q11).alloc (.cells #[.string E.1] 9))
            have hs3 : Sl StrV (q11.alloc (.cells #[.string E.1] 9)) (q11.alloc (.cells #[.string E.1] 9)).heap.size (some ⟨q11.heap.size, 0, none⟩) 1 [⟨E.1⟩] := Sl.new_ (xs := [(⟨E.1⟩ : StrV)]) rfl rfl rfl (by simp)
            obtain ⟨B9, hB9⟩ : ∃ b9, q11.heap.size = b9 := ⟨_, rfl⟩
            rw [hB9] at hs3 ⊢
            generalize q11.alloc (.cells #[.string E.1] 9) = we at h3 hs3 ⊢
            have H3 := Lib.hid h3; have HS3 := Lib.hid hs3
            clear hK K h3 hs3 hq HST2 hB9
            refine wpG_force 0 _ rfl (by kernel_rfl) rfl fun q12 hq K hK => ?_
            have H3 := Lib.hid (H3.out.step hq)
            have HS3 := Lib.hid (HS3.out.stepB hq)
            go_simp
            refine hK _ _ (fun _ => GB.rf _) ?_
            clear hK K hq
            refine wpG_force 9 _ rfl (by kernel_rfl) rfl fun q13 hq K hK => ?_
            obtain ⟨v4, w4, hrun, h4⟩ := (H3.out.step hq).add E.1 B9 (by omega) (HS3.out.stepB hq)
            have H4 := Lib.hid h4
            clear h4 hq H3 HS3
            go_simp
            refine hK _ _ (fun h => absurd (by simp) h) ?_
            clear hK K hrun
            refine wpG_force 10 _ rfl (by kernel_rfl) rfl fun q14 hq K hK => ?_
            go_simp
            refine hK _ _ (fun _ => GB.rf _) ?_
            have H5 := Lib.hid (H4.out.step hq)
            clear hK K hq H4
            refine wpG_end (by kernel_rfl) (fun wn hwn => ?_) _
            have H6 := Lib.hid (H5.out.step hwn)
            clear hwn H5
            go_wp2_with fail
            refine ⟨⟨k + 1, by omega, by go_num, ?_⟩, by simp [intOf]; omega⟩
            rw [HNX2.out]
            exact Lib.hid (H6.out.mono (by omega))
      · go_wp2_with fail
        refine (bury_any a g r p q (2 * k) M x _ HST.out.app (by omega)).mono ?_
        rintro _ wb ⟨rfl, hA2, hc⟩
        have h3 := (HST.out.did hA2 hc).step ((Bel.refl wb).alloc (.cells #[.string sBuried] 9))
        obtain ⟨v4, w4, hrun, h4⟩ := h3.add sBuried wb.heap.size (by omega) (Sl.new_ (xs := [(⟨sBuried⟩ : StrV)]) rfl rfl rfl (by simp))
        have H4 := Lib.hid h4
        clear h3 h4 hA2 hc HST
        go_wp2_with fail
        refine ⟨⟨k + 1, by omega, by go_num, ?_⟩, by simp [intOf]; omega⟩
        rw [HNX.out]
        exact Lib.hid (H4.out.mono (by omega))
    · obtain rfl : k = n := by omega
      clear HST
      have HST := Lib.hid hst
      go_wp2_with fail
      go_ret2
      exact ⟨_, rfl, hst.out.own, hst.out.bel⟩
end Go.Proofs.YteockodnfempfaaGreatDoor
/- Copies of bytes, texts beside texts, bytes of a text. Conditions: those named in each theorem. -/
namespace Go.Proofs.YteockodnfempfaaGreatDoor
open Go Go.RowKit Go.Gv Go.Sort

theorem copyB_any (A : Option Addr) (n c : Nat) (xs : List U8) (w : World) (B : Nat) (hx : Sl U8 w B A n xs) (hn : n * 1 ≤ 140737488355328) :
    Calls Tryz.prog 44 #[.slice A n c] w fun e w' => ∃ v, e = .returned v ∧ OwnS w' w.heap.size 5 v xs ∧ Below w.heap.size w w' := by
  have H := Lib.hid hx; clear hx
  obtain ⟨v', w', hrun, ho, hg, _⟩ := gAppend_S (P := Tryz.prog) ei38 (OwnS.nil (α := U8) w w.heap.size 5) (c := c) H.out (by unfold maxLen; simp; omega) (by simp; omega) (Nat.le_refl _) 38
  have hb := Gv.Below.appS (Below.refl w.heap.size w) hg (OwnS.nil (α := U8) w w.heap.size 5) (Nat.le_refl _) (Nat.le_refl _)
  have HO := Lib.hid ho; have HB := Lib.hid hb; clear ho hg hb
  go_enter Tryz.func44, Tryz.ntmps44
  go_wp2
  go_ret
  exact ⟨v', rfl, by have := HO.out; simpa using this, HB.out⟩

theorem cutB_any (A : Option Addr) (n c : Nat) (q : Nat) (xs : List U8) (w : World) (B : Nat) (hx : Sl U8 w B A n xs) (hn : n ≤ c) (hc : c ≤ maxLen) (hq : q * 1 ≤ 140737488355328) :
    Calls Tryz.prog 16 #[.slice A n c, .int .i64 q] w fun e w' => ∃ v, e = .returned v ∧ OwnS w' w.heap.size 5 v (xs.take q) ∧ Below w.heap.size w w' := by
  unfold maxLen at hc
  have H := Lib.hid hx; clear hx
  have e0 : xs.take (min n q) = xs.take q := by
    have := H.out.1
    rw [← List.take_take, List.take_of_length_le (i := n) (by simp; omega)]
  obtain ⟨v', w', hrun, ho, hg, _⟩ := gAppend_S (P := Tryz.prog) ei38 (OwnS.nil (α := U8) w w.heap.size 5) (c := c) (H.out.take (Nat.min_le_left n q)) (by unfold maxLen; simp; omega) (by simp; omega) (Nat.le_refl _) 38
  have hb := Gv.Below.appS (Below.refl w.heap.size w) hg (OwnS.nil (α := U8) w w.heap.size 5) (Nat.le_refl _) (Nat.le_refl _)
  rw [List.nil_append, e0] at ho
  have HO := Lib.hid ho; have HB := Lib.hid hb; clear ho hg hb e0
  go_enter Tryz.func16, Tryz.ntmps16
  go_wp2
  go_ret
  exact ⟨v', rfl, HO.out, HB.out⟩

set_option maxRecDepth 100000 in
set_option maxHeartbeats 1000000 in
theorem sameStr_any (A B : Option Addr) (n c d : Nat) (xs : List StrV) (w : World) (hx : Sl StrV w w.heap.size A n xs) (hy : Sl StrV w w.heap.size B n xs) (hn : n ≤ maxLen) :
    Calls Tryz.prog 23 #[.slice A n c, .slice B n d] w fun e w' => e = .returned (.bool true) ∧ Bel w w' := by
  unfold maxLen at hn
  have HX := Lib.hid hx; have HY := Lib.hid hy
  clear hx hy
  go_enter Tryz.func23, Tryz.ntmps23
  go_wp2_with fail
  go_loopw [5] (fun i wr => ∃ k : Nat, k ≤ n ∧ i = .int .i64 k ∧ Bel w wr) (fun i _ => n - (intOf i).toNat)
  case atStart => exact ⟨0, Nat.zero_le _, rfl, Bel.refl _⟩
  case round =>
    obtain ⟨k, hk, rfl, hb⟩ := hrel
    have HB := Lib.hid hb
    by_cases hlt : k < n
    · obtain ⟨ad, x, rfl, _, hxk, hg⟩ := (HX.out.stepB hb).at_ (k := k) hlt
      obtain ⟨bd, y, rfl, _, hyk, hg2⟩ := (HY.out.stepB hb).at_ (k := k) hlt
      rw [hxk] at hyk
      injection hyk with hyk
      subst hyk
      simp only [show Enc.n StrV = 1 from rfl, Nat.mul_one] at hg hg2
      have f1 : wr.cell? (ad.add k) = some (.string x.v) := by have := (get?_iff.1 hg) 0 _ rfl; rwa [Addr.add_zero'] at this
      have f2 : wr.cell? (bd.add k) = some (.string x.v) := by have := (get?_iff.1 hg2) 0 _ rfl; rwa [Addr.add_zero'] at this
      have hlt2 : (k : Int) < (n : Int) := by omega
      have hk0 : (0 : Int) ≤ (k : Int) := by omega
      clear hxk hb hg hg2
      go_wp2_with fail
      go_big_quiet (fail)
      go_wp2_with fail
      exact ⟨⟨k + 1, by omega, by go_num, HB.out.drewN _⟩, by simp [intOf]; omega⟩
    · have hn1 : ¬ (k : Int) < (n : Int) := by omega
      clear hb
      go_wp2_with fail
      go_ret
      exact ⟨rfl, HB.out⟩
def bytesO (s : ByteArray) : List U8 := s.data.toList.map U8.mk
theorem bytesB_o (s : ByteArray) : bytesB (bytesO s) = s := by
  unfold bytesB bytesO
  rw [List.map_map]
  have : (U8.v ∘ U8.mk) = id := rfl
  rw [this, List.map_id]
theorem flat_byteO : ∀ (l : List UInt8), (l.map U8.mk).flatMap Enc.enc = l.map fun b => Value.int .u8 b.toNat
  | [] => rfl
  | b :: l => by rw [List.map_cons, List.flatMap_cons, flat_byteO l]; rfl
theorem conv_bytes (w : World) (pl : ByteArray) :
    ∃ (c : Nat) (w' : World), (convert 9 38 (.string pl)).run Tryz.prog w = .ok (.slice (some ⟨w.heap.size, 0, none⟩) pl.size c) w' ∧ Sl U8 w' w'.heap.size (some ⟨w.heap.size, 0, none⟩) pl.size (bytesO pl) ∧ (pl.size ≤ maxLen → pl.size ≤ c ∧ c ≤ maxLen) ∧ Bel w w' := by
  refine ⟨_, _, run_bytes_of_string (P := Tryz.prog) w 9 38 5 pl (by kernel_rfl) (by kernel_rfl) (by kernel_rfl), Sl.of_row (heap_alloc_new w.drew _) ?_ ?_ (by simp), ?_, (Bel.refl w).drew.alloc _⟩
  · unfold bytesRow bytesO
    rw [flat_byteO, Array.toList_append, Array.toList_map]
    rw [show pl.size * Enc.n U8 = (pl.data.toList.map fun b => Value.int .u8 b.toNat).length by simp [show Enc.n U8 = 1 from rfl]]
    rw [List.take_left']
    rfl
  · unfold bytesO
    simp
  · exact fun h => ⟨grownCap_ge w pl.size 0 _, grownCap_le_maxLen w pl.size 0 _ h⟩
end Go.Proofs.YteockodnfempfaaGreatDoor
/- Payloads and marks of burial, both of the call's own, growing side by side. Conditions: those named in each theorem. -/
namespace Go.Proofs.YteockodnfempfaaGreatDoor
open Go Go.RowKit Go.Gv Go.Sort

theorem RowsAt.avoid {α : Type} [Enc α] {w w' : World} {o1 o2 : Option Nat} : ∀ {hs : List Hdr} {ls : List (List α)}, RowsAt w' o1 hs ls → RowsAt w o2 hs ls → RowsAt w' o2 hs ls
  | [], [], _, _ => trivial
  | _ :: _, _ :: _, h1, h2 => ⟨⟨h1.1.1, h1.1.2.1, h1.1.2.2.1, h2.1.2.2.2⟩, RowsAt.avoid h1.2 h2.2⟩
  | [], _ :: _, h, _ => h.elim
  | _ :: _, [], h, _ => h.elim
theorem RowsAt.plain {α : Type} [Enc α] {w : World} {o : Option Nat} : ∀ {hs : List Hdr} {ls : List (List α)}, RowsAt w o hs ls → RowsAt w none hs ls
  | [], [], _ => trivial
  | _ :: _, _ :: _, h => ⟨⟨h.1.1, h.1.2.1, h.1.2.2.1, fun _ _ _ e => nomatch e⟩, RowsAt.plain h.2⟩
  | [], _ :: _, h => h.elim
  | _ :: _, [], h => h.elim

theorem RowsAt.take {α : Type} [Enc α] {w : World} {o : Option Nat} : ∀ {hs : List Hdr} {ls : List (List α)} (z : Nat), RowsAt w o hs ls → RowsAt w o (hs.take z) (ls.take z)
  | [], [], z, _ => by simp only [List.take_nil]; trivial
  | _ :: _, _ :: _, 0, _ => trivial
  | _ :: _, _ :: _, z + 1, h => ⟨h.1, RowsAt.take z h.2⟩
  | [], _ :: _, _, h => h.elim
  | _ :: _, [], _, h => h.elim
structure PB (w1 wr : World) (pv bv : Value) (H : List Hdr) (Y : List (List U8)) (Z : List BoolV) : Prop where
  p : OwnS wr w1.heap.size 38 pv H
  r1 : RowsAt wr pv.ownBlock H Y
  r2 : RowsAt wr bv.ownBlock H Y
  b : OwnS wr w1.heap.size 4 bv Z
  sep : ∀ j, pv.ownBlock = some j → bv.ownBlock ≠ some j
  bel : Bel w1 wr
section
variable {w1 wr w' : World} {pv bv : Value} {H : List Hdr} {Y : List (List U8)} {Z : List BoolV}
theorem PB.nil (w1 : World) : PB w1 w1 (.slice none 0 0) (.slice none 0 0) [] [] [] := ⟨OwnS.nil _ _ _, trivial, trivial, OwnS.nil _ _ _, (fun _ hj => nomatch hj), Bel.refl _⟩
theorem PB.step (h : PB w1 wr pv bv H Y Z) (hb : Bel wr w') : PB w1 w' pv bv H Y Z := ⟨h.p.step hb, h.r1.step hb, h.r2.step hb, h.b.step hb, h.sep, h.bel.trans hb⟩
theorem kept_of {α : Type} [Enc α] {base : Nat} {e : TypeId} {u v : Value} {xs : List α} (h : OwnS wr base e v xs) (hg : wr.grownBy w' u.ownBlock) (hs : ∀ j, u.ownBlock = some j → v.ownBlock ≠ some j) : OwnS w' base e v xs := by
  refine h.kept hg ?_
  cases hv : v.ownBlock with
  | none => exact .inl rfl
  | some j => exact .inr fun e => hs j e.symm hv
set_option maxRecDepth 100000 in
theorem PB.addP (h : PB w1 wr pv bv H Y Z) (hd : Hdr) (y : List U8) (B : Nat) (hS : Sl U8 wr wr.heap.size hd.a hd.len y) (hc : hd.len ≤ hd.cap ∧ hd.cap ≤ maxLen) (ho : ∀ ad, hd.a = some ad → pv.ownBlock ≠ some ad.block ∧ bv.ownBlock ≠ some ad.block) (hs : Sl Hdr wr wr.heap.size (some ⟨B, 0, none⟩) 1 [hd]) (hl : H.length ≤ 1000) :
    ∃ v' w', (gAppend #[43, 43] 43 #[pv, .slice (some ⟨B, 0, none⟩) 1 1]).run Tryz.prog wr = .ok v' w' ∧ PB w1 w' v' bv (H ++ [hd]) (Y ++ [y]) Z := by
  obtain ⟨v4, w4, hrun, ho4, hg, hv⟩ := gAppend_S (P := Tryz.prog) ei43 (t := 43) h.p (c := 1) (m := 1) (A := some ⟨B, 0, none⟩) hs (by unfold maxLen; omega) (by omega) h.bel.size 43
  have s1 := RowsAt.snoc (ob := pv.ownBlock) (h := hd) (l := y) ⟨hS, hc.1, hc.2, fun _ ad e => (ho ad e).1⟩ h.r1
  have s2 := RowsAt.snoc (ob := bv.ownBlock) (h := hd) (l := y) ⟨hS, hc.1, hc.2, fun _ ad e => (ho ad e).2⟩ h.r2
  have g1 := s1.grown hg hv
  refine ⟨v4, w4, hrun, ho4, g1, g1.avoid s2, kept_of h.b hg h.sep, fun j hj e => ?_, Chg.bel2 h.bel (Chg.of_grown (S := fun k => pv.ownBlock = some k) hg fun k e => e) (fun k hk => (h.p.lt k hk).1)⟩
  rcases hv with q | q
  · exact h.sep j (q ▸ hj) e
  · rw [q] at hj
    injection hj with hj
    have := (h.b.lt j e).2
    omega
set_option maxRecDepth 100000 in
theorem PB.addB (h : PB w1 wr pv bv H Y Z) (z : BoolV) (B : Nat) (hs : Sl BoolV wr wr.heap.size (some ⟨B, 0, none⟩) 1 [z]) (hl : Z.length ≤ 1000) :
    ∃ v' w', (gAppend #[44, 44] 44 #[bv, .slice (some ⟨B, 0, none⟩) 1 1]).run Tryz.prog wr = .ok v' w' ∧ PB w1 w' pv v' H Y (Z ++ [z]) := by
  obtain ⟨v4, w4, hrun, ho4, hg, hv⟩ := gAppend_S (P := Tryz.prog) ei44 (t := 44) h.b (c := 1) (m := 1) (A := some ⟨B, 0, none⟩) hs (by unfold maxLen; omega) (by omega) h.bel.size 44
  have g1 := h.r2.grown hg hv
  refine ⟨v4, w4, hrun, kept_of h.p hg (fun j hj e => h.sep j e hj), g1.avoid h.r1, g1, ho4, fun j hj e => ?_, Chg.bel2 h.bel (Chg.of_grown (S := fun k => bv.ownBlock = some k) hg fun k e => e) (fun k hk => (h.b.lt k hk).1)⟩
  rcases hv with q | q
  · exact h.sep j hj (q ▸ e)
  · rw [q] at e
    injection e with e
    have := (h.p.lt j hj).2
    omega
end
end Go.Proofs.YteockodnfempfaaGreatDoor
/- AuditSame: what an app replies to a log it replies to each beginning of it. Conditions: those named in each theorem. -/
namespace Go.Proofs.YteockodnfempfaaGreatDoor
open Go Go.RowKit Go.Gv Go.Sort

theorem letter (k : Nat) : ∃ u : UInt8, Value.int .u8 (97 + (k : Int) % 3) = encU8 u := by
  refine ⟨UInt8.ofNat (97 + k % 3), ?_⟩
  unfold encU8
  rw [UInt8.toNat_ofNat', Nat.mod_eq_of_lt (by omega)]
  push_cast
  rfl
/-- A header of bytes of the call's own. -/
structure FreshB (w0 w : World) (v : Value) (y : List U8) (hd : Hdr) : Prop where
  val : v = hd.val
  sl : Sl U8 w w.heap.size hd.a hd.len y
  cap : hd.len ≤ hd.cap ∧ hd.cap ≤ maxLen
  own : ∀ ad, hd.a = some ad → w0.heap.size ≤ ad.block
set_option maxRecDepth 100000 in
set_option maxHeartbeats 4000000 in
theorem same_any (A B C : Option Addr) (n c m d l e0 : Nat) (xs : List GEntry) (hs : List Hdr) (bs : List BoolV) (cut : Int) (w : World) (hL : LibIs w) (hx : Sl GEntry w w.heap.size A n xs) (hox : ∀ x ∈ xs, EntryOk x) (hn : n ≤ maxLen)
    (hh : Sl Hdr w w.heap.size B m hs) (hoh : ∀ h ∈ hs, ∃ ys : List U8, Sl U8 w w.heap.size h.a h.len ys ∧ h.len ≤ h.cap ∧ h.cap ≤ maxLen) (_hm : m ≤ maxLen) (hb : Sl BoolV w w.heap.size C l bs) (hl : l ≤ maxLen) (hc1 : -9223372036854775808 ≤ cut) (hc2 : cut ≤ 9223372036854775807) :
    Calls Tryz.prog 5 #[.slice A n c, .slice B m d, .slice C l e0, .int .i64 cut] w fun e w' => e = .returned (.bool true) ∧ Bel w w' := by
  unfold maxLen at _hm hl
  have HL := Lib.hid hL; have HH := Lib.hid hh; have HOH := Lib.hid hoh; have HBS := Lib.hid hb
  have HX := Lib.hid hx; have HOX := Lib.hid hox
  clear hL hh hoh hb hx hox
  go_enter Tryz.func5, Tryz.ntmps5
  go_wp2_with fail
  refine (small_any A n c xs w HX.out HOX.out hn).mono ?_
  rintro _ w1 ⟨v1, rfl, ho1, hb1⟩
  obtain ⟨A1, c1, rfl, hx1, hxc, hxm, _⟩ := ho1.shape
  have hn8 : (smallL xs).length ≤ 8 := by unfold smallL; rw [List.length_map, List.length_take]; omega
  generalize hXS : smallL xs = X at *
  obtain ⟨nx, hnx⟩ : ∃ nx, X.length = nx := ⟨_, rfl⟩
  rw [hnx] at hx1 hxc hn8 ⊢
  have HX1 := Lib.hid hx1; have HB1 := Lib.hid (show Bel w w1 from hb1)
  clear ho1 hx1 hb1 HX HOX hXS hxm
  go_wp2_with fail
  go_loopw [10, 11, 23] (fun pv bv iv wr => ∃ (k : Nat) (H : List Hdr) (Y : List (List U8)) (Z : List BoolV), k ≤ nx ∧ iv = .int .i64 k ∧ Hid (PB w1 wr pv bv H Y Z) ∧ H.length = k ∧ Z.length = k ∧ Hid (∀ y ∈ Y, y.length ≤ 1000)) (fun _ _ iv _ => nx - (intOf iv).toNat)
  case atStart => exact ⟨0, [], [], [], by omega, rfl, Lib.hid (PB.nil _), rfl, rfl, Lib.hid (by simp)⟩
  case round =>
    obtain ⟨k, H, Y, Z, hk, rfl, HPB, hHl, hZl, HY⟩ := hrel
    by_cases hlt : k < nx
    · have hlt2 : (k : Int) < (nx : Int) := by omega
      have hk0 : (0 : Int) ≤ (k : Int) := by omega
      obtain ⟨u, hu⟩ := letter k
      have hcv := bytes_conv (w := wr.alloc (.cells #[.int .u8 (97 + (k : Int) % 3)] 5)) (B0 := wr.heap.size + 1) (B := some ⟨wr.heap.size, 0, none⟩) (n := 1) (c := 1) (ys := [⟨u⟩]) (Sl.new_ (by rw [hu]; rfl) rfl rfl (by omega))
      have hS1 : (bytesB [⟨u⟩]).size = 1 := bytesB_size _
      obtain ⟨S, hS⟩ : ∃ S, bytesB [⟨u⟩] = S := ⟨_, rfl⟩
      rw [hS] at hcv hS1
      have hSz : (({ data := #[114, 101, 115, 101, 114, 118, 101, 32] } : ByteArray) ++ S).size = 9 := by rw [ByteArray.size_append, hS1]; rfl
      obtain ⟨cy, w2, hcv2, hsl2, hcap2, hb2⟩ := conv_bytes (wr.alloc (.cells #[.int .u8 (97 + (k : Int) % 3)] 5)) (({ data := #[114, 101, 115, 101, 114, 118, 101, 32] } : ByteArray) ++ S)
      rw [hSz] at hcv2 hsl2 hcap2
      have hF2 : FreshB wr w2 (.slice (some ⟨wr.heap.size + 1, 0, none⟩) 9 cy) (bytesO (({ data := #[114, 101, 115, 101, 114, 118, 101, 32] } : ByteArray) ++ S)) ⟨some ⟨wr.heap.size + 1, 0, none⟩, 9, cy⟩ := ⟨rfl, by simpa using hsl2, hcap2 (by unfold maxLen; omega), by intro ad e; injection e with e; subst e; simp⟩
      have hbw : Bel wr w2 := ((Bel.refl wr).alloc _).trans hb2
      have hl9 : (bytesO (({ data := #[114, 101, 115, 101, 114, 118, 101, 32] } : ByteArray) ++ S)).length ≤ 1000 := by have := hsl2.1; omega
      have HF2 := Lib.hid hF2; have HBW := Lib.hid hbw; have HL9 := Lib.hid hl9
      have hwz : (wr.alloc (.cells #[.int .u8 (97 + (k : Int) % 3)] 5)).heap.size = wr.heap.size + 1 := by simp
      rw [hwz] at hcv2
      clear hF2 hbw hl9 hsl2 hcap2 hb2 hu hwz
      go_upto_region 8 with fail
      obtain ⟨qb, hqb⟩ : ∃ qb : Bool, (decide ((k : Int) < (m : Int)) && ((k : Int) % 2 == 0)) = qb := ⟨_, rfl⟩
      have HQB := Lib.hid hqb
      clear hqb hcv hcv2
      go_cut [42] (fun vx wx => vx = .bool qb ∧ wx = w2)
      case first => as_aux_lemma =>
        by_cases hkm : k < m
        · have hkm2 : (k : Int) < (m : Int) := by omega
          go_wp2_with fail
          go_meet
          exact ⟨by rw [← HQB.out, decide_eq_true hkm2, Bool.true_and], rfl⟩
        · have hkm2 : ¬ (k : Int) < (m : Int) := by omega
          go_wp2_with fail
          go_meet
          exact ⟨by rw [← HQB.out, decide_eq_false (show ¬ (k : Int) < (m : Int) by omega), Bool.false_and], rfl⟩
      case rest =>
      obtain ⟨rfl, rfl⟩ := hcut
      go_upto_if 42 with fail
      go_cut [13] (fun vx wx => ∃ y hd, FreshB wr wx vx y hd ∧ y.length ≤ 1000 ∧ Bel wr wx)
      case first => as_aux_lemma =>
        cases qb
        · go_wp2_with fail
          go_meet
          exact ⟨_, _, HF2.out, HL9.out, HBW.out⟩
        · have hq := HQB.out
          rw [Bool.and_eq_true, decide_eq_true_eq] at hq
          have hkm : k < m := by omega
          have hkm2 : (k : Int) < (m : Int) := by omega
          have hbz : Bel w _ := Bel.trans HB1.out (HPB.out.bel.trans HBW.out)
          obtain ⟨bd, hd, rfl, _, hhk, hgh⟩ := (HH.out.stepB hbz).at_ (k := k) hkm
          obtain ⟨ys, hys, hy1, hy2⟩ := HOH.out hd (List.mem_of_getElem? hhk)
          have HYS := Lib.hid (hys.stepB hbz)
          have f2 : wc.cell? (bd.add k) = some (.slice hd.a hd.len hd.cap) := by have := get1 rfl hgh; rwa [show k * Enc.n Hdr = k from Nat.mul_one k] at this
          clear hys hhk hgh hbz hq
          go_wp2_with fail
          refine (cutB_any hd.a hd.len hd.cap 50 ys wc wc.heap.size HYS.out hy1 hy2 (by omega)).mono ?_
          rintro _ w3 ⟨v3, rfl, ho3, hb3⟩
          have h50 : (ys.take 50).length ≤ 50 := by rw [List.length_take]; omega
          generalize ys.take 50 = Y9 at ho3 h50
          obtain ⟨A3, c3, rfl, hs3, hc3, hm3, hown3⟩ := ho3.shape
          obtain ⟨n9, hn9⟩ : ∃ q, Y9.length = q := ⟨_, rfl⟩
          rw [hn9] at hs3 hc3 h50 ⊢
          have HF3 := Lib.hid (show FreshB wr w3 (.slice A3 n9 c3) Y9 ⟨A3, n9, c3⟩ from ⟨rfl, hs3, ⟨hc3, hm3⟩, fun ad e => Nat.le_trans HBW.out.size (hown3 ad e).1⟩)
          have HB3 := Lib.hid (HBW.out.trans hb3)
          clear ho3 hs3 hown3 hb3 f2
          go_wp2_with fail
          go_meet
          exact ⟨_, _, HF3.out, by omega, HB3.out⟩
      case rest =>
      obtain ⟨y, hd, hF, hyl, hb3⟩ := hcut
      obtain ⟨ha, hl0, hc0⟩ := hd
      have hv3 := hF.val
      subst hv3
      have hsz3 := hb3.size
      have h3 := (HPB.out.step hb3).step ((Bel.refl _).alloc (.cells #[.slice ha hl0 hc0] 38))
      have hown : ∀ ad, ha = some ad → u10.ownBlock ≠ some ad.block ∧ u11.ownBlock ≠ some ad.block := fun ad e => by
        have h1 := hF.own ad e
        refine ⟨fun e2 => ?_, fun e2 => ?_⟩
        · have := (HPB.out.p.lt _ e2).2; omega
        · have := (HPB.out.b.lt _ e2).2; omega
      obtain ⟨v4, w4, hrun4, h4⟩ := h3.addP ⟨ha, hl0, hc0⟩ y wc.heap.size (hF.sl.stepB ((Bel.refl _).alloc (.cells #[.slice ha hl0 hc0] 38))) hF.cap hown (Sl.new_ (xs := [(⟨ha, hl0, hc0⟩ : Hdr)]) rfl rfl rfl (by simp)) (by omega)
      have HPB4 := Lib.hid h4
      have HY4 : Hid (∀ q ∈ Y ++ [y], q.length ≤ 1000) := Lib.hid (by
        intro q hq
        rcases List.mem_append.1 hq with hq | hq
        · exact HY.out q hq
        · rw [List.mem_singleton.1 hq]; exact hyl)
      clear h3 h4 hown hF hb3 hsz3
      by_cases hkl : k < l
      · have hkl2 : (k : Int) < (l : Int) := by omega
        have hbz : Bel w w4 := Bel.trans HB1.out HPB4.out.bel
        obtain ⟨cd, b, rfl, _, hbk, hgb⟩ := (HBS.out.stepB hbz).at_ (k := k) hkl
        have f3 : w4.cell? (cd.add k) = some (.bool b.v) := by have := get1 rfl hgb; rwa [show k * Enc.n BoolV = k from Nat.mul_one k] at this
        obtain ⟨bb, hbb⟩ : ∃ bb, b.v = bb := ⟨_, rfl⟩
        rw [hbb] at f3
        have h5 := HPB4.out.step ((Bel.refl w4).alloc (.cells #[.bool bb] 4))
        obtain ⟨v6, w6, hrun6, h6⟩ := h5.addB ⟨bb⟩ w4.heap.size (Sl.new_ (xs := [(⟨bb⟩ : BoolV)]) rfl rfl rfl (by simp)) (by omega)
        have HPB6 := Lib.hid h6
        clear h5 h6 hbk hgb hbz
        go_wp2_with fail
        exact ⟨⟨k + 1, _, _, _, by omega, by go_num, HPB6, by rw [List.length_append, hHl]; rfl, by rw [List.length_append, hZl]; rfl, HY4⟩, by simp [intOf]; omega⟩
      · have hkl2 : ¬ (k : Int) < (l : Int) := by omega
        have h5 := HPB4.out.step ((Bel.refl w4).alloc (.cells #[.bool false] 4))
        obtain ⟨v6, w6, hrun6, h6⟩ := h5.addB ⟨false⟩ w4.heap.size (Sl.new_ (xs := [(⟨false⟩ : BoolV)]) rfl rfl rfl (by simp)) (by omega)
        have HPB6 := Lib.hid h6
        clear h5 h6
        go_wp2_with fail
        exact ⟨⟨k + 1, _, _, _, by omega, by go_num, HPB6, by rw [List.length_append, hHl]; rfl, by rw [List.length_append, hZl]; rfl, HY4⟩, by simp [intOf]; omega⟩
    · obtain rfl : k = nx := by omega
      obtain ⟨Ap, cp, hpv, hpS, hpc, hpm, _⟩ := HPB.out.p.shape
      obtain ⟨Ab, cb, hbv, hbS, hbc, hbm, _⟩ := HPB.out.b.shape
      rw [hHl] at hpv hpS hpc
      rw [hZl] at hbv hbS hbc
      have HR := Lib.hid HPB.out.r1.plain
      have HBW := Lib.hid HPB.out.bel
      subst hpv
      subst hbv
      have HPS := Lib.hid hpS; have HZS := Lib.hid hbS
      unfold maxLen at hpm hbm
      clear hpS hbS HPB
      obtain ⟨z0, hz, hz0, hz1⟩ : ∃ q, within cut (k + 1) = q ∧ 0 ≤ q ∧ q < (k : Int) + 1 := by
        refine ⟨_, rfl, ?_, ?_⟩ <;> unfold within <;> rw [if_neg (by omega)]
        · exact Int.emod_nonneg _ (by omega)
        · exact Int.emod_lt_of_pos _ (by omega)
      obtain ⟨z, rfl⟩ : ∃ z : Nat, z0 = (z : Int) := ⟨z0.toNat, by omega⟩
      have HZ := Lib.hid hz
      clear hz
      go_wp2_with fail
      refine (within_is cut (k + 1) z _ HZ.out (by omega) hc1 hc2).mono ?_
      rintro _ w3 ⟨rfl, h3⟩
      obtain rfl : wr = w3 := by first | exact h3 | exact h3.symm
      go_wp2_with fail
      refine (replies_any A1 Ap Ab k c1 cp cb X H Y Z _ (HL.out.bel (HB1.out.trans HBW.out)) (HX1.out.stepB HBW.out) HPS.out HR.out HY.out HZS.out (by omega)).mono ?_
      rintro _ w5 ⟨v5, rfl, ho5, hb5⟩
      have HO5 := Lib.hid ho5; have HB5 := Lib.hid hb5
      clear ho5 hb5
      go_upto_region 15 with fail
      have hlR : (repAt X Y Z k).2.length = k := repAt_len X Y Z k
      have hlZ : (repAt X Y Z z).2.length = z := repAt_len X Y Z z
      have hzk : z ≤ k := by omega
      have hzi0 : (0 : Int) ≤ (z : Int) := by omega
      have hzi1 : (z : Int) ≤ (c1 : Int) := by omega
      have hzi2 : (z : Int) ≤ (cp : Int) := by omega
      have hzi3 : (z : Int) ≤ (cb : Int) := by omega
      go_cut [17, 18] (fun sv ov wx => ov = .bool true ∧ Bel w5 wx ∧ OwnS wx w5.heap.size 9 sv ((repAt X Y Z z).2.map StrV.mk))
      case first => as_aux_lemma =>
        refine wp_region_G GB [] GB.rf (by kernel_rfl) ?_
        refine wpG_looks 6 15 [0,1,2,3,4,5,6,7,8] rfl GB.rf GB.tr (by kernel_rfl) (fun _ _ _ _ hd h => And.intro (hd ▸ And.left h) (And.right h)) rfl (by kernel_rfl) ?_
        intro ι W hne CW
        clear CW
        repeat (refine wpLooksG_step (fun K hK => ?_); go_simp; refine hK _ ?_; clear hK K)
        refine wpLooksG_nil ?_
        clear hne W ι
        refine wpG_force 9 _ rfl (by kernel_rfl) rfl fun wa hq K hK => ?_
        have hba : Bel w5 wa := hq.undrew
        have hbr := HB5.out.trans hba
        go_simp
        refine (replies_any A1 Ap Ab z c1 cp cb (X.take z) (H.take z) (Y.take z) (Z.take z) _ (HL.out.bel (Bel.trans HB1.out (HBW.out.trans hbr))) ((HX1.out.stepB (HBW.out.trans hbr)).take hzk) ((HPS.out.stepB hbr).take hzk) ((HR.out.step hbr).take z) (fun y hy => HY.out y (List.mem_of_mem_take hy)) ((HZS.out.stepB hbr).take hzk) (by omega)).mono ?_
        rintro _ w8 ⟨v8, rfl, ho8, hb8⟩
        rw [repAt_take X Y Z z z (Nat.le_refl _)] at ho8
        have HB8 := Lib.hid (hba.trans hb8)
        have HO8 := Lib.hid (ho8.mono hba.size)
        refine hK _ _ (fun _ => hb8) ?_
        clear hK K hq hba hbr ho8 hb8
        refine wpG_force 10 _ rfl (by kernel_rfl) rfl fun m1 hq K hK => ?_
        have HB8 := Lib.hid (HB8.out.trans hq); have HO8 := Lib.hid (HO8.out.step hq)
        go_simp
        refine hK _ _ (fun _ => GB.rf _) ?_
        clear hK K hq
        refine wpG_two 11 12 _ _ rfl rfl (by kernel_rfl) rfl rfl ?_ ?_
        · intro m2 hq K hK
          have HB8 := Lib.hid (HB8.out.trans hq); have HO8 := Lib.hid (HO8.out.step hq)
          go_simp
          refine hK _ _ (fun _ => GB.rf _) ?_
          clear hK K hq
          refine wpG_two 12 13 _ _ rfl rfl (by kernel_rfl) rfl rfl ?_ ?_
          · intro m3 hq K hK
            have HB8 := Lib.hid (HB8.out.trans hq); have HO8 := Lib.hid (HO8.out.step hq)
            go_simp
            refine hK _ _ (fun _ => GB.rf _) ?_
            clear hK K hq
            refine wpG_force 13 _ rfl (by kernel_rfl) rfl fun m4 hq K hK => ?_
            have HB8 := Lib.hid (HB8.out.trans hq); have HO8 := Lib.hid (HO8.out.step hq)
            go_simp
            refine hK _ _ (fun _ => GB.rf _) ?_
            clear hK K hq
            refine wpG_force 14 _ rfl (by kernel_rfl) rfl fun m5 hq K hK => ?_
            have HB8 := Lib.hid (HB8.out.trans hq); have HO8 := Lib.hid (HO8.out.step hq)
            go_simp
            refine hK _ _ (fun _ => GB.rf _) ?_
            clear hK K hq
            refine wpG_end (by kernel_rfl) (fun wn hwn => ?_) _
            have HB9 := Lib.hid (HB8.out.trans hwn); have HO9 := Lib.hid (HO8.out.step hwn)
            clear hwn
            go_wp2_with fail
            go_meet
            exact ⟨rfl, HB9.out, HO9.out⟩
          · intro m3 hq K hK
            have HB8 := Lib.hid (HB8.out.trans hq); have HO8 := Lib.hid (HO8.out.step hq)
            go_simp
            refine hK _ _ (fun _ => GB.rf _) ?_
            clear hK K hq
            refine wpG_force 12 _ rfl (by kernel_rfl) rfl fun m4 hq K hK => ?_
            have HB8 := Lib.hid (HB8.out.trans hq); have HO8 := Lib.hid (HO8.out.step hq)
            go_simp
            refine hK _ _ (fun _ => GB.rf _) ?_
            clear hK K hq
            refine wpG_force 14 _ rfl (by kernel_rfl) rfl fun m5 hq K hK => ?_
            have HB8 := Lib.hid (HB8.out.trans hq); have HO8 := Lib.hid (HO8.out.step hq)
            go_simp
            refine hK _ _ (fun _ => GB.rf _) ?_
            clear hK K hq
            refine wpG_end (by kernel_rfl) (fun wn hwn => ?_) _
            have HB9 := Lib.hid (HB8.out.trans hwn); have HO9 := Lib.hid (HO8.out.step hwn)
            clear hwn
            go_wp2_with fail
            go_meet
            exact ⟨rfl, HB9.out, HO9.out⟩
        · intro m2 hq K hK
          have HB8 := Lib.hid (HB8.out.trans hq); have HO8 := Lib.hid (HO8.out.step hq)
          go_simp
          refine hK _ _ (fun _ => GB.rf _) ?_
          clear hK K hq
          refine wpG_force 11 _ rfl (by kernel_rfl) rfl fun m3 hq K hK => ?_
          have HB8 := Lib.hid (HB8.out.trans hq); have HO8 := Lib.hid (HO8.out.step hq)
          go_simp
          refine hK _ _ (fun _ => GB.rf _) ?_
          clear hK K hq
          refine wpG_force 13 _ rfl (by kernel_rfl) rfl fun m4 hq K hK => ?_
          have HB8 := Lib.hid (HB8.out.trans hq); have HO8 := Lib.hid (HO8.out.step hq)
          go_simp
          refine hK _ _ (fun _ => GB.rf _) ?_
          clear hK K hq
          refine wpG_force 14 _ rfl (by kernel_rfl) rfl fun m5 hq K hK => ?_
          have HB8 := Lib.hid (HB8.out.trans hq); have HO8 := Lib.hid (HO8.out.step hq)
          go_simp
          refine hK _ _ (fun _ => GB.rf _) ?_
          clear hK K hq
          refine wpG_end (by kernel_rfl) (fun wn hwn => ?_) _
          have HB9 := Lib.hid (HB8.out.trans hwn); have HO9 := Lib.hid (HO8.out.step hwn)
          clear hwn
          go_wp2_with fail
          go_meet
          exact ⟨rfl, HB9.out, HO9.out⟩
      case rest =>
      obtain ⟨rfl, hb8, ho8⟩ := hcut
      have ho5 := HO5.out.step hb8
      obtain ⟨A5, c5, rfl, hs5, hc5, _, _⟩ := ho5.shape
      obtain ⟨A8, c8, hv8, hs8, hc8, _, _⟩ := ho8.shape
      subst hv8
      rw [List.length_map, hlR] at hs5 hc5 ⊢
      rw [List.length_map, hlZ] at hs8 hc8 ⊢
      have hs5z := hs5.take hzk
      rw [← List.map_take, repAt_pre X Y Z z k hzk] at hs5z
      have HS5 := Lib.hid hs5z; have HS8 := Lib.hid hs8
      have HB8 : Hid (Bel w _) := Lib.hid (Bel.trans HB1.out (HBW.out.trans (HB5.out.trans hb8)))
      have hkk : ((k : Int) == (k : Int)) = true := by simp
      have hzz : ((z : Int) == (z : Int)) = true := by simp
      have hzi4 : (z : Int) ≤ (c5 : Int) := by omega
      clear hs5z hs5 hs8 ho5 ho8 hb8 HO5
      go_wp2_with fail
      refine (sameStr_any A5 A8 z c5 c8 _ _ HS5.out HS8.out (by unfold maxLen; omega)).mono ?_
      rintro _ w9 ⟨rfl, hb9⟩
      have HB9 := Lib.hid (HB8.out.trans hb9)
      clear hb9
      go_wp2_with fail
      refine (wakes_any _).mono ?_
      rintro _ w10 ⟨rfl, hb10⟩
      have HB10 := Lib.hid (HB9.out.trans hb10)
      clear hb10
      go_wp2_with fail
      go_ret
      exact ⟨rfl, HB10.out⟩
end Go.Proofs.YteockodnfempfaaGreatDoor
