/- AuditLog returns true, walked. Conditions: those named in each theorem. -/
import Derived.Test.YteockodnfempfaaP14
import Derived.Test.YteockodnfempfaaP2
/- The document's Apply: a batch refused; a place behind the others. Conditions: those named in each theorem. -/
namespace Go.Proofs.Yteockodnfempfaa
open Go Go.RowKit Go.Gv Go.Sort

theorem refuse_at {B : MBatch} {M : MLedger} (h : refuseB M B = true) : B.epoch ≠ M.epoch ∨ (B.epoch = M.epoch ∧ B.time ≤ M.last) := by
  unfold refuseB at h
  rw [Bool.or_eq_true, decide_eq_true_eq, decide_eq_true_eq] at h
  by_cases he : B.epoch = M.epoch
  · exact .inr ⟨he, h.resolve_left (fun hn => hn he)⟩
  · exact .inl he
set_option maxRecDepth 100000 in
theorem rapply_no (g : Nat) (S U : Nat → Prop) (M : MLedger) (x : GBatch) (B : MBatch) (Q : Nat → Prop) (w : World) (h : RefIs w g S U M) (hx : BatchIs Q w x B) (hr : refuseB M B = true) :
    Calls Try.prog 56 #[.pointer (some ⟨g, 0, none⟩), x.val] w fun e w' => e = .returned (.tuple #[.int .i64 0, .int .i64 1]) ∧ Bel w w' := by
  obtain ⟨A, c, hg, _⟩ := h.list
  have hgA := get?_alloc (.cells x.enc.toArray 74) hg
  obtain ⟨f0, f1, _, _⟩ := ref_cells hgA
  simp only at f0 f1
  have hgx := get?_new (w := w) 74 x
  have f3 : (w.alloc (.cells x.enc.toArray 74)).cell? ⟨w.heap.size, 0, none⟩ = some (.int .i64 B.epoch) := by
    have := GBatch.at_epoch hgx
    rw [hx.epoch] at this
    exact cell_zero this
  have f4 : (w.alloc (.cells x.enc.toArray 74)).cell? ⟨w.heap.size, 1, none⟩ = some (.int .u64 B.time) := by
    have := GBatch.at_time hgx
    rw [hx.time] at this
    exact cell_off (by omega) this
  have HB := Lib.hid ((Bel.refl w).alloc (.cells x.enc.toArray 74))
  clear hg hgA hgx hx h
  rcases refuse_at hr with hne | ⟨he, hle⟩
  · have hb1 : (B.epoch != M.epoch) = true := by simpa using hne
    clear hr hne
    go_enter Try.func56, Try.ntmps56
    go_wp2_with fail
    go_big_quiet (fail)
    go_wp2_with fail
    go_ret2
    exact ⟨rfl, HB.out.drewN _⟩
  · have hb1 : (B.epoch != M.epoch) = false := by simpa using he
    have hb2 : decide (B.time ≤ M.last) = true := by simpa using hle
    clear hr he hle
    go_enter Try.func56, Try.ntmps56
    go_wp2_with fail
    go_big_quiet (fail)
    go_wp2_with fail
    go_ret2
    exact ⟨rfl, HB.out.drewN _⟩
/-- Its list copied: what 'append' onto nothing makes of it. -/
theorem RefIs.copy {w : World} {g : Nat} {S U : Nat → Prop} {M : MLedger} (h : RefIs w g S U M) (hl : M.l.length ≤ 1000000) {A : Option Addr} {c : Nat} (hg : get? GRef15Ledger w ⟨g, 0, none⟩ = some ⟨M.epoch, M.last, ⟨A, M.l.length, c⟩, M.done⟩) :
    ∃ (A' : Option Addr) (c' : Nat) (w' : World) (S' U' : Nat → Prop), (gAppend #[118, 118] 118 #[.slice none 0 0, .slice A M.l.length c]).run Try.prog w = .ok (.slice A' M.l.length c') w' ∧
      w'.cell? ⟨g, 2, none⟩ = some (.slice A M.l.length c) ∧ w'.frozen? ⟨g, 2, none⟩ = false ∧ RefIs (w'.setCell ⟨g, 2, none⟩ (.slice A' M.l.length c')) g S' U' M ∧ (∀ q, S' q → q = g ∨ w.heap.size ≤ q) ∧ (∀ q, U' q → U q ∨ w.heap.size ≤ q) ∧ Chg (fun q => q = g) w (w'.setCell ⟨g, 2, none⟩ (.slice A' M.l.length c')) := by
  obtain ⟨hd, ps, rfl, hSU, hg0, hf, ho, hne, hr⟩ := h
  rw [hg] at hg0
  injection hg0 with hg0
  injection hg0 with _ _ ehd _
  subst ehd
  obtain ⟨A0, c0, hv0, hoa, _, _⟩ := OwnS.ownA ho
  have hlen := hr.len
  have hgl := get?_lt hg
  simp only at hgl
  rw [hlen] at hv0
  unfold Hdr.val at hv0
  injection hv0 with e1 _ e3
  subst e1; subst e3
  have hsl := hoa.sl
  rw [hlen] at hsl
  obtain ⟨v', w', hrun, ho', hgr, hob⟩ := gAppend_S (P := Try.prog) ei118 (t := 118) (OwnS.nil (α := GRef15Place) w w.heap.size 175) (c := c) hsl (by simp only [List.length_nil]; unfold maxLen; omega) (by simp only [List.length_nil]; omega) (Nat.le_refl _) 118
  rw [List.nil_append] at ho'
  obtain ⟨A', c', hv', hoa', _, _⟩ := OwnS.ownA ho'
  rw [hlen] at hv'
  subst hv'
  have hob' : ∀ k, (Value.slice A' M.l.length c').ownBlock = some k → k = w.heap.size := fun k hk => by
    rcases hob with h1 | h1
    · rw [hk] at h1; cases h1
    · rw [hk] at h1; injection h1
  have hput := RefIs.list_put (hd' := ⟨A', M.l.length, c'⟩) (ps := ps) (ms := M.l) (row := (Value.slice none 0 0).ownBlock) hg hf hSU.2 (hSU.1 g (.inl rfl)) hgr (by simp [Value.ownBlock]) (OwnS.mono ho' (Nat.zero_le _)) (fun hk => by have := hob' g hk; omega)
    (hr.mono fun a b hab => ⟨hab.1, hab.2.1, (hab.2.2.chg (Chg.of_grown (S := fun _ => False) hgr (by simp [Value.ownBlock])) (fun _ _ h => h)).mono (fun k hk hq => ⟨hq.1, fun e => hq.2 (.inl e), fun e => by have h1 := hob' k e; have h2 := hSU.2 k hq.1; omega⟩)⟩)
  obtain ⟨hp1, hp2, hp3⟩ := hput
  refine ⟨A', c', w', _, _, hrun, hp2, frozen_of_free (a := ⟨g, 2, none⟩) hp3, hp1, ?_, ?_, ?_⟩
  · rintro q (h1 | h1)
    · exact .inl h1
    · exact .inr (by have := hob' q h1; omega)
  · rintro q (h1 | h1)
    · exact .inl h1
    · exact .inr (by have := hob' q h1; omega)
  · exact (Chg.of_grown (S := fun q => q = g) hgr (by simp [Value.ownBlock])).tr (Chg.setCell (S := fun q => q = g) (p := ⟨g, 2, none⟩) rfl _)
/-- A place put behind. -/
theorem RefIs.push {w : World} {g : Nat} {S U : Nat → Prop} {M : MLedger} (h : RefIs w g S U M) (hl : M.l.length ≤ 2000000) {A : Option Addr} {c : Nat} (hg : get? GRef15Ledger w ⟨g, 0, none⟩ = some ⟨M.epoch, M.last, ⟨A, M.l.length, c⟩, M.done⟩) {B : Nat} {b : Nat} {e : GEntry} (hb : Sl GRef15Place w B (some ⟨b, 0, none⟩) 1 [⟨e, 1, default⟩]) :
    ∃ (A' : Option Addr) (c' : Nat) (w' : World), (gAppend #[118, 118] 118 #[.slice A M.l.length c, .slice (some ⟨b, 0, none⟩) 1 1]).run Try.prog w = .ok (.slice A' (M.l.length + 1) c') w' ∧ Chg S w w' ∧ w.heap.size ≤ w'.heap.size ∧
      ∀ w2, Bel w' w2 → ∃ (S' U' : Nat → Prop), w2.cell? ⟨g, 2, none⟩ = some (.slice A M.l.length c) ∧ w2.frozen? ⟨g, 2, none⟩ = false ∧ RefIs (w2.setCell ⟨g, 2, none⟩ (.slice A' (M.l.length + 1) c')) g S' U' { M with l := M.l ++ [newP e] } ∧ (∀ q, S' q → S q ∨ w.heap.size ≤ q) ∧ (∀ q, U' q → U q ∨ w.heap.size ≤ q) := by
  obtain ⟨hd, ps, rfl, hSU, hg0, hf, ho, hne, hr⟩ := h
  rw [hg] at hg0
  injection hg0 with hg0
  injection hg0 with _ _ ehd _
  subst ehd
  have hlen := hr.len
  have hgl := get?_lt hg
  simp only at hgl
  obtain ⟨v', w', hrun, ho', hgr, hob⟩ := gAppend_S (P := Try.prog) ei118 (t := 118) ho (c := 1) (m := 1) hb (by rw [hlen]; unfold maxLen; omega) (by rw [hlen]; omega) (Nat.zero_le _) 118
  obtain ⟨A', c', hv', hoa', _, _⟩ := OwnS.ownA ho'
  rw [List.length_append, hlen, List.length_singleton] at hv'
  subst hv'
  have hob' : ∀ k, (Value.slice A' (M.l.length + 1) c').ownBlock = some k → (Hdr.val ⟨A, M.l.length, c⟩).ownBlock = some k ∨ k = w.heap.size := fun k hk => by
    rcases hob with h1 | h1
    · left; rw [← h1]; exact hk
    · right; rw [hk] at h1; injection h1
  refine ⟨A', c', w', hrun, Chg.of_grown hgr (fun k hk => .inr hk), hgr.size, fun w2 hb2 => ?_⟩
  have hg' : get? GRef15Ledger w' ⟨g, 0, none⟩ = some ⟨M.epoch, M.last, ⟨A, M.l.length, c⟩, M.done⟩ := (Chg.of_grown (S := fun k => (Hdr.val ⟨A, M.l.length, c⟩).ownBlock = some k) hgr (fun k hk => hk)).get hg (fun e => hne e)
  have hf' := (Chg.of_grown (S := fun k => (Hdr.val ⟨A, M.l.length, c⟩).ownBlock = some k) hgr (fun k hk => hk)).free hf hgl (fun e => hne e)
  have hsz := hgr.size
  have hput := RefIs.list_put (w := w') (w' := w2) (U := U) (hd' := ⟨A', M.l.length + 1, c'⟩) (ps := ps ++ [⟨e, 1, default⟩]) (ms := M.l ++ [newP e]) (row := none) hg' hf' (fun k hk => by have := hSU.2 k hk; omega) (hSU.1 g (.inl rfl)) ⟨Below.os hb2, Below.tape hb2, Below.output hb2, hb2.size, fun k hk _ => Below.block hb2 k hk⟩ (by simp) (OwnS.step ho' hb2)
    (fun hk => by
      rcases hob' g hk with h1 | h1
      · exact hne h1
      · omega)
    (R2.append (l2 := [(⟨e, 1, default⟩ : GRef15Place)]) (m2 := [newP e]) ⟨⟨rfl, rfl, ⟨Sl.nil, Nat.le_refl _, Nat.zero_le _, fun h => absurd h (Nat.lt_irrefl 0)⟩⟩, trivial⟩
      (hr.mono fun a b hab => ⟨hab.1, hab.2.1, (((hab.2.2.chg (Chg.of_grown (S := fun k => (Hdr.val ⟨A, M.l.length, c⟩).ownBlock = some k) hgr (fun k hk => hk)) (fun k hk e => hk.2 (.inr e))).bel hb2).mono (fun k hk hq => ⟨hq.1, fun e => hq.2 (.inl e), fun e => by
        rcases hob' k e with h1 | h1
        · exact hq.2 (.inr h1)
        · have := hSU.2 k hq.1; omega⟩))⟩))
  obtain ⟨hp1, hp2, hp3⟩ := hput
  refine ⟨_, _, hp2, frozen_of_free (a := ⟨g, 2, none⟩) hp3, hp1, ?_, ?_⟩
  · rintro q (h1 | h1)
    · exact .inl (.inl h1)
    · rcases hob' q h1 with h2 | h2
      · exact .inl (.inr h2)
      · exact .inr (by omega)
  · rintro q (h1 | h1)
    · exact .inl h1
    · rcases hob' q h1 with h2 | h2
      · exact .inl (hSU.1 q (.inr h2))
      · exact .inr (by omega)
end Go.Proofs.Yteockodnfempfaa
/- What may come between two operations of a region, where one cell may be written early. Conditions: those named in each theorem. -/
namespace Go.Proofs.Yteockodnfempfaa
open Go Go.RowKit Go.Gv Go.Sort

theorem RefIs.gS {w : World} {g : Nat} {S U : Nat → Prop} {M : MLedger} (h : RefIs w g S U M) : S g := by
  obtain ⟨hd, ps, rfl, _⟩ := h
  exact .inl rfl
theorem blk_cells {w : World} {b : Nat} (h : blkFree w b = true) (hc : ∃ (p : Addr) (v : Value), p.block = b ∧ w.cell? p = some v) : ∃ cs e, w.heap[b]? = some (.cells cs e (0, 0)) := by
  obtain ⟨p, v, rfl, hc⟩ := hc
  unfold blkFree objFree at h
  unfold World.cell? at hc
  cases hh : w.heap[p.block]? with
  | none => rw [hh] at hc; simp at hc
  | some ob =>
    rw [hh] at h hc
    cases ob with
    | cells cs e f => 
      simp only at h
      obtain ⟨f1, f2⟩ := f
      simp at h
      obtain ⟨rfl, rfl⟩ := h
      exact ⟨cs, e, rfl⟩
    | _ => simp at hc
/-- New blocks, draws; cell o of block pb may be v. -/
def G2 (pb o : Nat) (v : Value) (w w' : World) : Prop := w.grownBy w' (some pb) ∧ (w'.heap[pb]? = w.heap[pb]? ∨ ∃ cs e, w.heap[pb]? = some (.cells cs e (0, 0)) ∧ w'.heap[pb]? = some (.cells (cs.setIfInBounds o v) e (0, 0)))
section
variable {pb o : Nat} {v : Value}
theorem G2.rf (a : World) : G2 pb o v a a := ⟨⟨rfl, rfl, rfl, Nat.le_refl _, fun _ _ _ => rfl⟩, .inl rfl⟩
theorem G2.tr (a b c : World) (h : G2 pb o v a b) (k : G2 pb o v b c) : G2 pb o v a c := by
  refine ⟨World.grownBy.trans h.1 k.1, ?_⟩
  rcases h.2 with h1 | ⟨cs, e, h1, h2⟩
  · rcases k.2 with k1 | ⟨cs', e', k1, k2⟩
    · exact .inl (k1.trans h1)
    · exact .inr ⟨cs', e', h1 ▸ k1, k2⟩
  · rcases k.2 with k1 | ⟨cs', e', k1, k2⟩
    · exact .inr ⟨cs, e, h1, k1.trans h2⟩
    · rw [h2] at k1
      injection k1 with k1
      injection k1 with k1 k3 _
      subst k1; subst k3
      exact .inr ⟨cs, e, h1, by rw [k2, Array.setIfInBounds_setIfInBounds]⟩
theorem G2.bel {w w' : World} (h : Bel w w') (hp : pb < w.heap.size) : G2 pb o v w w' := ⟨GX.of_bel h pb, .inl (Below.block h pb hp)⟩
variable {w w' : World} {cs : Array Value} {e : TypeId}
theorem G2.set (hc : w.heap[pb]? = some (.cells cs e (0, 0))) : G2 pb o v w (w.setCell ⟨pb, o, none⟩ v) :=
  ⟨⟨rfl, rfl, rfl, by simp, fun k _ hn => Below.heap_setCell _ _ _ _ (fun h => hn (by rw [h]))⟩, .inr ⟨cs, e, hc, heap_setCell_same w pb o cs e v hc⟩⟩
theorem G2.sets (h : G2 pb o v w w') (hc : w.heap[pb]? = some (.cells cs e (0, 0))) : Bel (w.setCell ⟨pb, o, none⟩ v) (w'.setCell ⟨pb, o, none⟩ v) := by
  refine ⟨h.1.os, h.1.tape, h.1.output, by simpa using h.1.size, fun k hk => ?_⟩
  have hk' : k < w.heap.size := by simpa using hk
  by_cases hkp : k = pb
  · subst hkp
    rw [heap_setCell_same w k o cs e v hc]
    rcases h.2 with h1 | ⟨cs', e', h1, h2⟩
    · exact heap_setCell_same w' k o cs e v (h1.trans hc)
    · rw [hc] at h1
      injection h1 with h1
      injection h1 with h1 h3 _
      subst h1; subst h3
      rw [heap_setCell_same w' k o _ e v h2, Array.setIfInBounds_setIfInBounds]
  · rw [Below.heap_setCell _ _ _ _ hkp, Below.heap_setCell _ _ _ _ hkp]
    exact h.1.block k hk' (fun e => hkp (by injection e))
theorem G2.after (h : G2 pb o v (w.setCell ⟨pb, o, none⟩ v) w') (hc : w.heap[pb]? = some (.cells cs e (0, 0))) : Bel (w.setCell ⟨pb, o, none⟩ v) w' := by
  refine ⟨h.1.os, h.1.tape, h.1.output, h.1.size, fun k hk => ?_⟩
  by_cases hkp : k = pb
  · subst hkp
    rcases h.2 with h1 | ⟨cs', e', h1, h2⟩
    · exact h1
    · have h3 := heap_setCell_same w k o cs e v hc
      rw [h3] at h1
      injection h1 with h1
      injection h1 with h1 h4 _
      subst h1; subst h4
      rw [h2, h3, Array.setIfInBounds_setIfInBounds]
  · exact h.1.block k hk (fun e => hkp (by injection e))
theorem G2.cell {p : Addr} {u : Value} (h : G2 pb o v w w') (hc : w.cell? p = some u) (hp : p.block ≠ pb) : w'.cell? p = some u := GX.cell h.1 hc hp
theorem G2.chg (h : G2 pb o v w w') : Chg (fun k => k = pb) w w' := Chg.of_grown h.1 (fun k hk => by injection hk with hk; exact hk.symm)
theorem G2.undrew (h : G2 pb o v w.drew w') : G2 pb o v w w' := ⟨⟨h.1.os, h.1.tape, h.1.output, h.1.size, h.1.block⟩, h.2⟩
theorem G2.cell_o {u : Value} (h : G2 pb o v w w') (hc : w.cell? ⟨pb, o, none⟩ = some u) : ∃ u', w'.cell? ⟨pb, o, none⟩ = some u' := by
  rcases h.2 with h1 | ⟨cs, e, h1, h2⟩
  · exact ⟨u, (World.cell?_of_block (w := w) (a := ⟨pb, o, none⟩) h1).trans hc⟩
  · refine ⟨v, ?_⟩
    rw [← World.cell?_setCell_same w ⟨pb, o, none⟩ v hc]
    exact World.cell?_of_block (a := ⟨pb, o, none⟩) (by rw [heap_setCell_same w pb o cs e v h1]; exact h2)
theorem G2.cells (h : G2 pb o v w w') (hc : w.heap[pb]? = some (.cells cs e (0, 0))) : ∃ cs', w'.heap[pb]? = some (.cells cs' e (0, 0)) := by
  rcases h.2 with h1 | ⟨cs', e', h1, h2⟩
  · exact ⟨cs, h1.trans hc⟩
  · rw [hc] at h1
    injection h1 with h1
    injection h1 with _ h3 _
    subst h3
    exact ⟨_, h2⟩
theorem cells_free (h : w.heap[pb]? = some (.cells cs e (0, 0))) : blkFree w pb = true := by unfold blkFree; rw [h]; rfl
/-- Where the cell is v already. -/
theorem G2.same (h : G2 pb o v w w') (hc : w.cell? ⟨pb, o, none⟩ = some v) : Bel w w' := by
  refine ⟨h.1.os, h.1.tape, h.1.output, h.1.size, fun k hk => ?_⟩
  by_cases hkp : k = pb
  · subst hkp
    rcases h.2 with h1 | ⟨cs, e, h1, h2⟩
    · exact h1
    · rw [h2, h1]
      have hco : cs[o]? = some v := by
        unfold World.cell? at hc
        rw [h1] at hc
        simpa using hc
      have : cs.setIfInBounds o v = cs := by
        apply Array.ext_getElem?
        intro i
        rw [Array.getElem?_setIfInBounds]
        split
        · rename_i hi
          subst hi
          split
          · exact hco.symm
          · rename_i hlt
            rw [Array.getElem?_eq_none (by omega)]
        · rfl
      rw [this]
  · exact h.1.block k hk (fun e => hkp (by injection e))
end
end Go.Proofs.Yteockodnfempfaa
/- The document's Apply, when it takes a batch. Conditions: those named in each theorem. -/
namespace Go.Proofs.Yteockodnfempfaa
open Go Go.RowKit Go.Gv Go.Sort

theorem Chg.gl {w w' w2 : World} {g : Nat} {S : Nat → Prop} (h : Chg (fun q => q = g) w w') (k : Chg S w' w2) (hS : ∀ q, S q → q = g ∨ w.heap.size ≤ q) : Chg (fun q => q = g) w w2 := h.trans k hS
def RApplyYes (g : Nat) (U : Nat → Prop) (M : MLedger) (B : MBatch) (w : World) (e : Ending) (w' : World) : Prop :=
  ∃ (es : List GEntry) (S' U' : Nat → Prop), EntriesOf M.last (namesL M) B es ∧ e = .returned (.tuple #[.int .i64 (es.length : Nat), .int .i64 0]) ∧ RefIs w' g S' U' (appliedM M B es) ∧ (∀ q, U' q → U q ∨ w.heap.size ≤ q) ∧ (∀ q, S' q → q = g ∨ w.heap.size ≤ q) ∧ Chg (fun q => q = g) w w'
set_option maxRecDepth 100000 in
set_option maxHeartbeats 16000000 in
theorem rapply_yes (g : Nat) (S U : Nat → Prop) (M : MLedger) (x : GBatch) (B : MBatch) (Q : Nat → Prop) (w : World) (h : RefIs w g S U M) (hx : BatchIs Q w x B) (hQ : ∀ k, Q k → k ≠ g) (hr : refuseB M B = false)
    (he0 : 0 ≤ M.epoch) (he1 : M.epoch ≤ 1000000) (hml : M.l.length ≤ 1000000) (hfl : B.proms.flatten.length ≤ 1000000) (hoe : OpenE M) :
    Calls Try.prog 56 #[.pointer (some ⟨g, 0, none⟩), x.val] w (RApplyYes g U M B w) := by
  have hgw : g < w.heap.size := h.ltU g h.gU
  have h1 := h.bel ((Bel.refl w).alloc (.cells x.enc.toArray 74))
  have hx1 := hx.bel ((Bel.refl w).alloc (.cells x.enc.toArray 74))
  obtain ⟨A, c, hg1, hlc, hcm, hls⟩ := h1.list
  obtain ⟨f0, f1, f2, _⟩ := ref_cells hg1
  have hgx := get?_new (w := w) 74 x
  have f3 : (w.alloc (.cells x.enc.toArray 74)).cell? ⟨w.heap.size, 0, none⟩ = some (.int .i64 B.epoch) := by
    have := GBatch.at_epoch hgx
    rw [hx.epoch] at this
    exact cell_zero this
  have f4 : (w.alloc (.cells x.enc.toArray 74)).cell? ⟨w.heap.size, 1, none⟩ = some (.int .u64 B.time) := by
    have := GBatch.at_time hgx
    rw [hx.time] at this
    exact cell_off (by omega) this
  have HBL := Lib.hid ((Bel.refl w).alloc (.cells x.enc.toArray 74))
  have HGX := Lib.hid hgx; have HG1 := Lib.hid hg1; have H1 := Lib.hid h1; have HX1 := Lib.hid hx1
  have hz1 : (w.alloc (.cells x.enc.toArray 74)).heap.size = w.heap.size + 1 := by simp
  simp only at f0 f1 f2
  obtain ⟨heq, htl⟩ := ge_last hr
  have heb : (B.epoch != M.epoch) = false := by simpa using heq
  have htd : decide (B.time ≤ M.last) = false := by simpa using htl
  obtain ⟨no, hno⟩ : ∃ n, x.openings.len = n := ⟨_, rfl⟩
  obtain ⟨nt, hnt⟩ : ∃ n, x.tombs.len = n := ⟨_, rfl⟩
  obtain ⟨os, hos, hor⟩ := hx1.opens
  obtain ⟨ts, hts, htr⟩ := hx1.tombs
  have hnol : os.length = no := by rw [← hno]; exact hos.1.1
  have hntl : ts.length = nt := by rw [← hnt]; exact hts.1.1
  have hnob : no ≤ 9223372036854775807 := by have := hos.2.1; have := hos.2.2.1; unfold maxLen at *; omega
  have hntb : nt ≤ 9223372036854775807 := by have := hts.2.1; have := hts.2.2.1; unfold maxLen at *; omega
  have HOS := Lib.hid hos; have HOR := Lib.hid hor; have HTS := Lib.hid hts; have HTR := Lib.hid htr
  have HQ := Lib.hid hQ; have HOE := Lib.hid hoe
  have HUg := Lib.hid (show ∀ q, U q → q < w.heap.size from h.ltU)
  clear hgx hx hx1 hg1 h1 h hr heq htl hQ hoe hls hlc hcm hos hor hts htr
  go_enter Try.func56, Try.ntmps56
  go_wp2_with fail
  generalize w.alloc (.cells x.enc.toArray 74) = w1 at f0 f1 f2 f3 f4 HBL HGX HG1 H1 HX1 HOS HOR HTS HTR hz1 ⊢
  go_big_quiet (fail)
  have HC1 := Lib.hid (show Bel w1 (w1.drewN nq) from (Bel.refl w1).drewN _)
  have hg2 : get? GRef15Ledger (w1.drewN nq) ⟨g, 0, none⟩ = some ⟨M.epoch, M.last, ⟨A, M.l.length, c⟩, M.done⟩ := GB.get HC1.out HG1.out
  obtain ⟨A', c', w', S3, U3, hrun, hc3, hz3, hR3, hS3, hU3, hC3⟩ := RefIs.copy (H1.out.bel HC1.out) hml hg2
  have HR3 := Lib.hid hR3; have HS3 := Lib.hid hS3; have HU3 := Lib.hid hU3; have HC3 := Lib.hid ((Chg.of_bel HC1.out (fun q => q = g)).tr hC3)
  clear hg2 hR3 hS3 hU3 hC3 f3 f4 f0 f1
  go_wp2_with fail
  generalize w'.setCell ⟨g, 2, none⟩ (.slice A' M.l.length c') = w3 at HR3 HC3 ⊢
  clear hc3 hz3 hrun f2
  have hz3 := HC3.out.size
  have HS3L := Lib.hid (show ∀ q, S3 q → q < w3.heap.size from fun q hq => HR3.out.ltU q (HR3.out.sub q hq))
  have HU3' := Lib.hid (show ∀ q, U3 q → U q ∨ w.heap.size ≤ q from fun q hq => by
    rcases HU3.out q hq with h | h
    · exact .inl h
    · exact .inr (by have := HC1.out.size; omega))
  have HS3' := Lib.hid (show ∀ q, S3 q → q = g ∨ w1.heap.size ≤ q from fun q hq => by
    rcases HS3.out q hq with h | h
    · exact .inl h
    · exact .inr (by have := HC1.out.size; omega))
  obtain ⟨A5, c5, hg3, _⟩ := HR3.out.list
  obtain ⟨_, f1, _, _⟩ := ref_cells hg3
  simp only at f1
  have f9 : get? GBatch w3 ⟨w.heap.size, 0, none⟩ = some x := HC3.out.get HGX.out (by show ¬ w.heap.size = g; omega)
  have HXW := Lib.hid (HX1.out.chg HC3.out (fun q hq e => HQ.out q hq e))
  clear hg3 HU3 HS3
  go_wp2_with fail
  refine wp_region_G GB [] GB.rf (by kernel_rfl) ?_
  refine wpG_looks 3 9 [0,1,2,3,4,6] rfl GB.rf GB.tr (by kernel_rfl) (fun _ _ _ _ hd h => And.intro (hd ▸ And.left h) (And.right h)) rfl (by kernel_rfl) ?_
  intro ι W hne CW
  have g1 := fun z => (CW.out z).cell f1
  have g9 := fun z => (CW.out z).get f9
  repeat (refine wpLooksG_step (fun K hK => ?_); go_simp; refine hK _ ?_; clear hK K)
  refine wpLooksG_nil ?_
  clear g1 g9 CW hne W ι
  refine wpG_force 5 _ rfl (by kernel_rfl) rfl fun wa hwa K hK => ?_
  go_simp
  refine (logged09_any g S3 U3 M wa (HR3.out.bel hwa.undrew) hml).mono ?_
  rintro _ wb ⟨v, rfl, hov, hbb⟩
  obtain ⟨An, cn, hvn, hoan, hcn, hcmn⟩ := OwnS.ownA hov
  subst hvn
  have hsln := hoan.sl
  obtain ⟨nl, hnl⟩ : ∃ n, (namesL M).length = n := ⟨_, rfl⟩
  rw [hnl] at hsln hcn ⊢
  refine hK _ _ (fun _ => hbb) ?_
  clear hK K
  refine wpG_force 7 _ rfl (by kernel_rfl) rfl fun wc hwc K hK => ?_
  go_simp
  have hbc : Bel w3 wc := (hwa.undrew.trans hbb).trans hwc
  refine (entries09_any M.last An nl cn (namesL M) x B Q wc (HXW.out.bel hbc) (hsln.stepB hwc) (by omega) hfl).mono ?_
  rintro _ wd ⟨es, ⟨ea, n, ec⟩, rfl, hes, hsl, hbd⟩
  simp only [Hdr.val]
  refine hK _ _ (fun _ => hbd) ?_
  clear hK K
  refine wpG_force 8 _ rfl (by kernel_rfl) rfl fun we hwe K hK => ?_
  go_simp
  refine hK _ _ (fun _ => GB.rf _) ?_
  clear hK K
  refine wpG_end (by kernel_rfl) (fun wn hwn => ?_) _
  have hbn : Bel w3 wn := ((hbc.trans hbd).trans hwe).trans hwn
  have hzbc := hbc.size
  have HSN := Lib.hid ((hsl.bel (Bel.trans hwe hwn)).mono (Q' := fun k => w3.heap.size ≤ k) (fun k _ hk => by omega)); have HES := Lib.hid hes
  have HR4 := Lib.hid (HR3.out.bel hbn); have HC4 := Lib.hid (HC3.out.tr (Chg.of_bel hbn (fun q => q = g)))
  have hzn := hbn.size
  have HOE2 := HOE
  clear hwa hwc hwe hwn hbb hbc hbd hbn hsl hes f1 f9 HR3 HXW hov hoan hsln hcn hcmn hnl hzbc
  have F5 := Lib.hid (show wn.cell? ⟨w.heap.size, 3, none⟩ = some (.slice x.openings.a no x.openings.cap) from HC4.out.cell (by
    have := GBatch.at_openings HGX.out
    unfold Hdr.val at this
    rw [hno] at this
    exact cell_off (by omega) this) (by show ¬ w.heap.size = g; omega))
  have F6 := Lib.hid (show wn.cell? ⟨w.heap.size, 4, none⟩ = some (.slice x.tombs.a nt x.tombs.cap) from HC4.out.cell (by
    have := GBatch.at_tombs HGX.out
    unfold Hdr.val at this
    rw [hnt] at this
    exact cell_off (by omega) this) (by show ¬ w.heap.size = g; omega))
  have HNS := Lib.hid (show ¬ S3 w.heap.size from fun h => by
    rcases HS3'.out _ h with h | h
    · omega
    · omega)
  have f5 := F5.out
  go_wp2_with fail
  clear f5
  go_loopw [46] (fun i wr => ∃ (k : Nat) (U' : Nat → Prop), k ≤ no ∧ i = .int .i64 k ∧ RefIs wr g S3 U' (openF M (B.opens.take k)) ∧ (∀ q, U' q → U q ∨ w.heap.size ≤ q) ∧ Chg S3 wn wr) (fun i _ => no - (intOf i).toNat)
  case atStart => exact ⟨0, U3, by omega, rfl, HR4.out, HU3'.out, Chg.refl _ _⟩
  case round =>
    obtain ⟨k, U', hk, rfl, hR, hU, hC⟩ := hrel
    obtain ⟨wi, rfl⟩ : ∃ wi : World, wi = wr := ⟨_, rfl⟩
    have HR := Lib.hid hR; have HU := Lib.hid hU; have HC := Lib.hid hC; clear hR hU hC
    have HCW := Lib.hid (HC4.out.gl HC.out HS3'.out)
    have hzr := HC.out.size
    by_cases hlt : k < no
    · have hosk := (HOS.out.chg HCW.out (fun q hq e => HQ.out q hq e)).1
      rw [hno] at hosk
      obtain ⟨ad, o, hA, _, hok, hgo⟩ := hosk.at_ (k := k) hlt
      obtain ⟨m, hmk, hom⟩ := HOR.out.at_ hok
      change get? GOpening wi (ad.add (k * 34)) = some o at hgo
      have f5 : wi.cell? ⟨w.heap.size, 3, none⟩ = some (.slice x.openings.a no x.openings.cap) := HC.out.cell F5.out HNS.out
      rw [hA] at f5
      have hgb := get?_new (w := wi) 94 o
      have f7 : (wi.alloc (.cells o.enc.toArray 94)).cell? ⟨wi.heap.size, 0, none⟩ = some (.int .i64 m.1) := by
        have := GOpening.at_index hgb
        rw [hom.1] at this
        exact cell_zero this
      have f8 : (wi.alloc (.cells o.enc.toArray 94)).cell? ⟨wi.heap.size, 1, none⟩ = some (.slice o.payload.a o.payload.len o.payload.cap) := cell_off (by omega) (GOpening.at_payload hgb)
      have hab := (Bel.refl wi).alloc (.cells o.enc.toArray 94)
      have HPY := Lib.hid ((hom.2.1.chg HCW.out (fun q hq e => HQ.out q hq e)).bel hab)
      have HPYB := Lib.hid (fun (h0 : 0 < o.payload.len) (pa : Addr) (e : o.payload.a = some pa) => hom.2.1.1.block_lt h0 e)
      have hpl : o.payload.len ≤ 1000000 := by rw [← hom.2.1.1.1]; exact hom.2.2
      have etk : openF M (B.opens.take (k + 1)) = endM (openF M (B.opens.take k)) m.1 2 m.2 := by rw [List.take_add_one, hmk]; exact openF_snoc M _ m
      have HAB := Lib.hid hab; have ETK := Lib.hid etk
      have hlt2 : (k : Int) < (no : Int) := by omega
      have hk0 : (0 : Int) ≤ (k : Int) := by omega
      have hzp : (wi.alloc (.cells o.enc.toArray 94)).heap.size = wi.heap.size + 1 := by simp
      clear hosk hA hok hmk hom hgb etk hab
      go_wp2_with fail
      clear f5 hgo
      generalize wi.alloc (.cells o.enc.toArray 94) = wp at f7 f8 HPY HAB hzp ⊢
      have HRP := Lib.hid (HR.out.bel HAB.out)
      refine (open15_any g S3 U' (openF M (B.opens.take k)) m.1 _ HRP.out).mono ?_
      rintro _ w6 ⟨rfl, h6⟩
      obtain rfl : wp = w6 := by first | exact h6 | exact h6.symm
      obtain ⟨b, hb⟩ : ∃ b, (inB (openF M (B.opens.take k)) m.1 && stOpen (openF M (B.opens.take k)) m.1) = b := ⟨_, rfl⟩
      rw [hb]
      have HBB := Lib.hid hb
      clear hb
      cases b with
      | false =>
        clear f7 f8
        go_wp2_with fail
        exact ⟨⟨k + 1, U', by omega, by go_num, by rw [ETK.out, endM_not HBB.out]; exact HRP.out, HU.out, HC.out.tr (Chg.of_bel HAB.out S3)⟩, by simp [intOf]; omega⟩
      | true =>
        obtain ⟨d, mm, hd, hmm, hdl⟩ := inB_at (Bool.and_eq_true _ _ ▸ HBB.out : inB _ _ = true ∧ stOpen _ _ = true).1
        obtain ⟨A6, c6, hg6, hlc6, hcm6, hls6⟩ := HRP.out.list
        obtain ⟨pb, xx, rfl, hxx, hxe, hxs, hpay, hSp, hpg, hfr⟩ := hls6 d mm hmm
        obtain ⟨_, _, f2, _⟩ := ref_cells hg6
        obtain ⟨q, hq⟩ : ∃ q, (openF M (B.opens.take k)).l.length = q := ⟨_, rfl⟩
        simp only [hq] at f2
        have hHD : RHdAt wp g pb (openF M (B.opens.take k)) := ⟨c6, hg6⟩
        have fs : wp.cell? ⟨pb, d * 37 + 35, none⟩ = some (.int .i64 mm.status) := by
          have := cell_off (by omega) (GRef15Place.at_status hxx)
          rw [hxs] at this
          exact this
        have fp : wp.cell? ⟨pb, d * 37 + 36, none⟩ = some (.slice xx.payload.a xx.payload.len xx.payload.cap) := by
          have := cell_off (by omega) (GRef15Place.at_payload hxx)
          unfold Hdr.val at this
          exact this
        rw [hd] at f7 HBB ETK
        have hend := endM_at (st := 2) (pay := m.2) hmm HBB.out
        have HEND := Lib.hid hend
        obtain ⟨cs, te, hcs⟩ := blk_cells hfr ⟨_, _, rfl, fs⟩
        have hpbl : pb < wp.heap.size := HRP.out.ltU pb (HRP.out.sub pb hSp)
        have hgwp : g < wp.heap.size := HRP.out.ltU g HRP.out.gU
        have hpne : wi.heap.size ≠ pb := by
          have h1 := HR.out.ltU pb (HR.out.sub pb hSp)
          omega
        have hdq : (d : Int) < (q : Int) := by omega
        have hd0 : (0 : Int) ≤ (d : Int) := by omega
        have hsub : ∀ j, S3 j → j < wi.heap.size := fun j hj => HR.out.ltU j (HR.out.sub j hj)
        have HSUB := Lib.hid hsub
        -- the ledger with its status written
        have hP1 := RefIs.poke1 (U' := U') (j := 35) (v := .int .i64 2) (m' := ⟨mm.e, 2, mm.pay⟩) HRP.out hmm (by omega) hHD (fun _ h => h) HRP.out.ltU (fun y hy hS => ⟨⟨y.e, 2, y.payload⟩, rplace_status y 2, hy.1, rfl, hy.2.2.chg (Chg.setCell (S := fun z => z = pb) (p := ⟨pb, d * 37 + 35, none⟩) rfl _) (fun z hz e => hz.2 (e ▸ hS))⟩)
        have HP1 := Lib.hid hP1; have HCS := Lib.hid hcs; have HMM := Lib.hid hmm; have HFR := Lib.hid hfr; have HSP := Lib.hid hSp
        clear hg6 hls6 hxx hxe hxs hpay hHD hend hP1 hlc6 hcm6 hq hsub hmm hdl hd
        have hw1p : w1.heap.size ≤ pb := by
          rcases HS3'.out pb HSP.out with h | h
          · exact absurd h hpg
          · exact h
        have hpg2 : g ≠ pb := fun e => hpg e.symm
        go_wp2_with fail
        refine wp_region_G (G2 pb (d * 37 + 35) (.int .i64 2)) [20] G2.rf (by kernel_rfl) ?_
        refine wpG_looks 7 21 [0,1,2,3,4,5,6,7,8,9,10,11,12,13] rfl G2.rf G2.tr (by kernel_rfl) (fun _ _ _ _ hd h => And.intro (hd ▸ And.left h) (And.right h)) rfl (by kernel_rfl) ?_
        intro ι W hne CW
        have g2 := fun z => G2.cell (CW.out z) f2 hpg2
        have g7 := fun z => G2.cell (CW.out z) f7 hpne
        have g8 := fun z => G2.cell (CW.out z) f8 hpne
        repeat (refine wpLooksG_step (fun K hK => ?_); go_simp; refine hK _ ?_; clear hK K)
        refine wpLooksG_nil ?_
        clear g2 g7 g8 CW hne W ι f2 f7 f8
        refine wpG_force 14 _ rfl (by kernel_rfl) rfl fun wa hwa K hK => ?_
        have hGa := G2.undrew hwa
        have hsl8 : Sl U8 wa wa.heap.size o.payload.a o.payload.len m.2 := Sl.chg (G2.chg hGa) HPY.out.1 (fun h0 pa e hs => by have h1 := HPYB.out h0 pa e; have h2 : pa.block = pb := hs; omega)
        obtain ⟨v8, wb, hrun8, ho8, hgr8, hob8⟩ := gAppend_S (P := Try.prog) ei79 (t := 79) (OwnS.nil (α := U8) wa wa.heap.size 5) (c := o.payload.cap) hsl8 (by simp only [List.length_nil]; unfold maxLen; omega) (by simp only [List.length_nil]; omega) (Nat.le_refl _) 79
        rw [List.nil_append] at ho8
        have hbel8 : Bel wa wb := Gv.Below.appS (Below.refl wa.heap.size wa) hgr8 (OwnS.nil (α := U8) wa wa.heap.size 5) (Nat.le_refl _) (Nat.le_refl _)
        obtain ⟨⟨va, vl, vc⟩, rfl, hvl, hvq⟩ := OwnS.slQ ho8
        simp only [Hdr.val] at hrun8
        have hza := hGa.1.size
        have HVB := Lib.hid (hvq.mono (Q' := fun z => wp.heap.size ≤ z) (fun z _ hz => by have := hz.1; omega))
        go_simp
        refine hK _ _ (fun _ => G2.bel hbel8 (by omega)) ?_
        clear hK K hrun8 ho8 hgr8 hob8 hvl hvq hsl8
        have hGb := G2.tr _ _ _ hGa (G2.bel (pb := pb) (o := d * 37 + 35) (v := .int .i64 2) hbel8 (by omega))
        refine wpG_force 15 _ rfl (by kernel_rfl) rfl fun wc hwc K hK => ?_
        go_simp
        refine hK _ _ (fun _ => G2.rf _) ?_
        clear hK K
        refine wpG_force 16 _ rfl (by kernel_rfl) rfl fun wd hwd K hK => ?_
        go_simp
        refine hK _ _ (fun _ => G2.rf _) ?_
        clear hK K
        refine wpG_force 17 _ rfl (by kernel_rfl) rfl fun we hwe K hK => ?_
        have hGbe := G2.tr _ _ _ hwc (G2.tr _ _ _ hwd hwe)
        have hGe := G2.tr _ _ _ hGb hGbe
        obtain ⟨u5, e5⟩ := G2.cell_o hGe fs
        obtain ⟨cs5, hcs5⟩ := G2.cells hGe HCS.out
        have z5 : we.frozen? ⟨pb, d * 37 + 35, none⟩ = false := frozen_of_free (a := ⟨pb, d * 37 + 35, none⟩) (cells_free hcs5)
        go_simp
        have hBf : Bel (wp.setCell ⟨pb, d * 37 + 35, none⟩ (.int .i64 2)) (we.setCell ⟨pb, d * 37 + 35, none⟩ (.int .i64 2)) := G2.sets hGe HCS.out
        have hc5 := Chg.setCell (w := we) (S := fun z => z = pb) (p := ⟨pb, d * 37 + 35, none⟩) rfl (.int .i64 2)
        have HVF := Lib.hid ((HVB.out.chg (G2.chg hGbe) (fun z hz e => by omega)).chg hc5 (fun z hz e => by omega))
        have hfs : (wp.setCell ⟨pb, d * 37 + 35, none⟩ (.int .i64 2)).cell? ⟨pb, d * 37 + 36, none⟩ = some (.slice xx.payload.a xx.payload.len xx.payload.cap) := (World.cell?_setCell_other wp _ _ _ (fun h => by injection h with _ h _; omega)).trans fp
        have HEF := Lib.hid (GB.cell hBf hfs)
        have HE5 := Lib.hid (World.cell?_setCell_same we ⟨pb, d * 37 + 35, none⟩ (.int .i64 2) e5)
        have HBF := Lib.hid hBf
        have HZF := Lib.hid (show blkFree (we.setCell ⟨pb, d * 37 + 35, none⟩ (.int .i64 2)) pb = true by rw [blkFree_setCell]; exact cells_free hcs5)
        have HAF := Lib.hid (fun (y : World) (hy : G2 pb (d * 37 + 35) (.int .i64 2) (we.setCell ⟨pb, d * 37 + 35, none⟩ (.int .i64 2)) y) => G2.after hy hcs5)
        have hzf : (we.setCell ⟨pb, d * 37 + 35, none⟩ (.int .i64 2)).heap.size = we.heap.size := by simp
        have hzwe := hGe.1.size
        have hG17 : G2 pb (d * 37 + 35) (.int .i64 2) we (we.setCell ⟨pb, d * 37 + 35, none⟩ (.int .i64 2)) := G2.set hcs5
        generalize we.setCell ⟨pb, d * 37 + 35, none⟩ (.int .i64 2) = wf at HVF HEF HE5 HBF HZF HAF hzf hG17 ⊢
        have hpbf : pb < wf.heap.size := by rw [hzf]; omega
        refine hK _ _ (fun _ => hG17) ?_
        clear hK K hBf hc5 hfs hG17 e5 z5 hcs5
        refine wpG_force 18 _ rfl (by kernel_rfl) rfl fun wg hwg K hK => ?_
        go_simp
        refine hK _ _ (fun _ => G2.rf _) ?_
        clear hK K
        refine wpG_force 19 _ rfl (by kernel_rfl) rfl fun wh hwh K hK => ?_
        go_simp
        refine hK _ _ (fun _ => G2.rf _) ?_
        clear hK K
        refine wpG_force 20 _ rfl (by kernel_rfl) rfl fun wk hwk K hK => ?_
        have hBk : Bel wf wk := HAF.out wk (G2.tr _ _ _ hwg (G2.tr _ _ _ hwh hwk))
        have e7 : wk.cell? ⟨pb, d * 37 + 36, none⟩ = some (.slice xx.payload.a xx.payload.len xx.payload.cap) := GB.cell hBk HEF.out
        have z7 : wk.frozen? ⟨pb, d * 37 + 36, none⟩ = false := frozen_of_free (a := ⟨pb, d * 37 + 36, none⟩) ((blkFree_keep (hBk.block _ hpbf)).trans HZF.out)
        go_simp
        clear e7 z7
        obtain ⟨hL1, hC1, hH1⟩ := HP1.out
        have hbfk : Bel (wp.setCell ⟨pb, d * 37 + 35, none⟩ (.int .i64 2)) wk := HBF.out.trans hBk
        have hm1 : ((openF M (B.opens.take k)).l.set d ⟨mm.e, 2, mm.pay⟩)[d]? = some ⟨mm.e, 2, mm.pay⟩ := List.getElem?_set_self (List.getElem?_eq_some_iff.1 HMM.out).1
        have hq2 := HVF.out.bel hBk
        have hp2 := RefIs.poke1 (U' := fun z => U' z ∨ (0 < vl ∧ ∃ pa : Addr, va = some pa ∧ z = pa.block)) (j := 36) (v := .slice va vl vc) (m' := ⟨mm.e, 2, m.2⟩) (hL1.bel hbfk) hm1 (by omega) (hH1.bel hbfk) (fun _ h => .inl h)
          (fun z hz => by
            rcases hz with hz | ⟨h0, pa, e, rfl⟩
            · exact (hL1.bel hbfk).ltU z hz
            · exact hq2.1.block_lt h0 e)
          (fun y hy hS => ⟨⟨y.e, y.status, ⟨va, vl, vc⟩⟩, rplace_payload y ⟨va, vl, vc⟩, hy.1, hy.2.1, by
            obtain ⟨h1, h2, h3, h4⟩ := hq2.chg (Chg.setCell (S := fun z => z = pb) (p := ⟨pb, d * 37 + 36, none⟩) rfl (.slice va vl vc)) (fun z hz e => by omega)
            exact ⟨h1, h2, h3, fun hn pa e => ⟨.inr ⟨hn, pa, e, rfl⟩, fun hs => by
              have k1 := h4 hn pa e
              have k2 := HSUB.out pa.block hs
              omega⟩⟩⟩)
        simp only [List.set_set] at hp2
        obtain ⟨hL2, hC2, _⟩ := hp2
        have HL2 := Lib.hid (show RefIs (wk.setCell ⟨pb, d * 37 + 36, none⟩ (.slice va vl vc)) g S3 (fun z => U' z ∨ (0 < vl ∧ ∃ pa : Addr, va = some pa ∧ z = pa.block)) (openF M (B.opens.take (k + 1))) by rw [ETK.out, HEND.out.1]; exact hL2)
        have HCF := Lib.hid ((((HC.out.tr (Chg.of_bel HAB.out S3)).tr hC1).tr (Chg.of_bel hbfk S3)).tr hC2)
        have HUF := Lib.hid (show ∀ z, (U' z ∨ (0 < vl ∧ ∃ pa : Addr, va = some pa ∧ z = pa.block)) → U z ∨ w.heap.size ≤ z from fun z hz => by
          rcases hz with hz | ⟨h0, pa, e, rfl⟩
          · exact HU.out z hz
          · have := HVB.out.2.2.2 h0 pa e
            exact .inr (by omega))
        have HE6 := Lib.hid (show (wk.setCell ⟨pb, d * 37 + 36, none⟩ (.slice va vl vc)).cell? ⟨pb, d * 37 + 35, none⟩ = some (.int .i64 2) from (World.cell?_setCell_other wk _ _ _ (fun h => by injection h with _ h _; omega)).trans (GB.cell hBk HE5.out))
        clear hL1 hC1 hH1 hL2 hC2 hq2 hm1 hbfk hGa hGb hGbe hGe hwa hwc hwd hwe hwg hwh hwk hBk fs fp
        generalize wk.setCell ⟨pb, d * 37 + 36, none⟩ (.slice va vl vc) = wl at HL2 HCF HE6 ⊢
        refine hK _ _ (fun h => absurd (by simp) h) ?_
        clear hK K
        refine wpG_end (by kernel_rfl) (fun wm hwm => ?_) _
        have hbm := G2.same hwm HE6.out
        have HL3 := Lib.hid (HL2.out.bel hbm); have HC5 := Lib.hid (HCF.out.tr (Chg.of_bel hbm S3))
        clear hbm
        clear hwm
        go_wp2_with fail
        exact ⟨⟨k + 1, _, by omega, by go_num, HL3.out, HUF.out, HC5.out⟩, by simp [intOf]; omega⟩
    · have hkn : no = k := by omega
      have hot : openF M (B.opens.take k) = openF M B.opens := by rw [List.take_of_length_le (by rw [← HOR.out.len, hnol, hkn]; exact Nat.le_refl _)]
      rw [hot] at HR
      have hk3 : ¬ (k : Int) < (no : Int) := by omega
      have f6 : wi.cell? ⟨w.heap.size, 4, none⟩ = some (.slice x.tombs.a nt x.tombs.cap) := HC.out.cell F6.out HNS.out
      clear hot hkn
      go_wp2_with fail
      clear f6
      go_loopw [81] (fun i wr => ∃ (k : Nat) (U' : Nat → Prop), k ≤ nt ∧ i = .int .i64 k ∧ RefIs wr g S3 U' (tombF (openF M B.opens) (B.tombs.take k)) ∧ (∀ q, U' q → U q ∨ w.heap.size ≤ q) ∧ Chg S3 wn wr) (fun i _ => nt - (intOf i).toNat)
      case atStart => exact ⟨0, U', by omega, rfl, HR.out, HU.out, HC.out⟩
      case round =>
        obtain ⟨j, U2, hj, rfl, hR, hU, hC⟩ := hrel
        obtain ⟨wj, rfl⟩ : ∃ wj : World, wj = wr := ⟨_, rfl⟩
        have HR2 := Lib.hid hR; have HU2 := Lib.hid hU; have HC2 := Lib.hid hC; clear hR hU hC
        have HCW2 := Lib.hid (HC4.out.gl HC2.out HS3'.out)
        have hzr2 := HC2.out.size
        by_cases hltj : j < nt
        · have htsk := (HTS.out.chg HCW2.out (fun q hq e => HQ.out q hq e)).1
          rw [hnt] at htsk
          obtain ⟨ad, o, hA, _, hok, hgo⟩ := htsk.at_ (k := j) hltj
          obtain ⟨m, hmk, hom⟩ := HTR.out.at_ hok
          change get? GTomb wj (ad.add (j * 2)) = some o at hgo
          have f6 : wj.cell? ⟨w.heap.size, 4, none⟩ = some (.slice x.tombs.a nt x.tombs.cap) := HC2.out.cell F6.out HNS.out
          rw [hA] at f6
          have f7 : wj.cell? (ad.add (j * 2)) = some (.int .i64 m) := by
            have := GTomb.at_index hgo
            rw [show o.index = m from hom, Addr.add_zero'] at this
            exact this
          have etk : tombF (openF M B.opens) (B.tombs.take (j + 1)) = endM (tombF (openF M B.opens) (B.tombs.take j)) m 3 [] := by rw [List.take_add_one, hmk]; exact tombF_snoc _ _ m
          have ETK := Lib.hid etk
          have hoe2 := OpenE.tombF (OpenE.openF HOE.out B.opens) (B.tombs.take j)
          have HOE3 := Lib.hid hoe2
          have hltj2 : (j : Int) < (nt : Int) := by omega
          have hj0 : (0 : Int) ≤ (j : Int) := by omega
          clear htsk hA hok hmk hom etk hoe2 hgo
          go_wp2_with fail
          refine (open15_any g S3 U2 (tombF (openF M B.opens) (B.tombs.take j)) m _ HR2.out).mono ?_
          rintro _ w6 ⟨rfl, h6⟩
          obtain rfl : wj = w6 := by first | exact h6 | exact h6.symm
          obtain ⟨b, hb⟩ : ∃ b, (inB (tombF (openF M B.opens) (B.tombs.take j)) m && stOpen (tombF (openF M B.opens) (B.tombs.take j)) m) = b := ⟨_, rfl⟩
          rw [hb]
          have HBB := Lib.hid hb
          clear hb
          cases b with
          | false =>
            clear f6 f7
            go_wp2_with fail
            exact ⟨⟨j + 1, U2, by omega, by go_num, by rw [ETK.out, endM_not HBB.out]; exact HR2.out, HU2.out, HC2.out⟩, by simp [intOf]; omega⟩
          | true =>
            obtain ⟨d, mm, hd, hmm, hdl⟩ := inB_at (Bool.and_eq_true _ _ ▸ HBB.out : inB _ _ = true ∧ stOpen _ _ = true).1
            obtain ⟨A6, c6, hg6, hlc6, hcm6, hls6⟩ := HR2.out.list
            obtain ⟨pb, xx, rfl, hxx, hxe, hxs, hpay, hSp, hpg, hfr⟩ := hls6 d mm hmm
            obtain ⟨_, _, f2, _⟩ := ref_cells hg6
            obtain ⟨q, hq⟩ : ∃ q, (tombF (openF M B.opens) (B.tombs.take j)).l.length = q := ⟨_, rfl⟩
            simp only [hq] at f2
            have hHD : RHdAt wj g pb (tombF (openF M B.opens) (B.tombs.take j)) := ⟨c6, hg6⟩
            have fs : wj.cell? ⟨pb, d * 37 + 35, none⟩ = some (.int .i64 mm.status) := by
              have := cell_off (by omega) (GRef15Place.at_status hxx)
              rw [hxs] at this
              exact this
            rw [hd] at f7 HBB ETK
            have hend := endM_at (st := 3) (pay := []) hmm HBB.out
            have HEND := Lib.hid hend
            have hpe : mm.pay = [] := HOE3.out mm (List.mem_of_getElem? hmm) hend.2
            have hdq : (d : Int) < (q : Int) := by omega
            have hd0 : (0 : Int) ≤ (d : Int) := by omega
            have hP1 := RefIs.poke1 (U' := U2) (j := 35) (v := .int .i64 3) (m' := ⟨mm.e, 3, []⟩) HR2.out hmm (by omega) hHD (fun _ h => h) HR2.out.ltU (fun y hy hS => ⟨⟨y.e, 3, y.payload⟩, rplace_status y 3, hy.1, rfl, hpe ▸ hy.2.2.chg (Chg.setCell (S := fun z => z = pb) (p := ⟨pb, d * 37 + 35, none⟩) rfl _) (fun z hz e => hz.2 (e ▸ hS))⟩)
            have HFS := Lib.hid fs; have HFR := Lib.hid hfr
            have hpbl : pb < wj.heap.size := HR2.out.ltU pb (HR2.out.sub pb hSp)
            have hfin : ∀ y, Bel wj y → RefIs (y.setCell ⟨pb, d * 37 + 35, none⟩ (.int .i64 3)) g S3 U2 (tombF (openF M B.opens) (B.tombs.take (j + 1))) ∧ Chg S3 wn (y.setCell ⟨pb, d * 37 + 35, none⟩ (.int .i64 3)) := fun y hy => by
              have h1 := RefIs.poke1 (U' := U2) (j := 35) (v := .int .i64 3) (m' := ⟨mm.e, 3, []⟩) (HR2.out.bel hy) hmm (by omega) (hHD.bel hy) (fun _ h => h) (HR2.out.bel hy).ltU (fun y hy hS => ⟨⟨y.e, 3, y.payload⟩, rplace_status y 3, hy.1, rfl, hpe ▸ hy.2.2.chg (Chg.setCell (S := fun z => z = pb) (p := ⟨pb, d * 37 + 35, none⟩) rfl _) (fun z hz e => hz.2 (e ▸ hS))⟩)
              refine ⟨?_, (HC2.out.tr (Chg.of_bel hy S3)).tr h1.2.1⟩
              rw [ETK.out, HEND.out.1]
              exact h1.1
            have HFIN := Lib.hid hfin
            clear hg6 hls6 hxx hxe hxs hpay hHD hend hP1 hlc6 hcm6 hq hmm hdl hd hfin hpe fs hfr
            go_wp2_with fail
            refine wp_region_G GB [12] GB.rf (by kernel_rfl) ?_
            refine wpG_looks 3 13 [0,1,2,3,4,5,6,7,8,9] rfl GB.rf GB.tr (by kernel_rfl) (fun _ _ _ _ hd h => And.intro (hd ▸ And.left h) (And.right h)) rfl (by kernel_rfl) ?_
            intro ι W hne CW
            have g2 := fun z => (CW.out z).cell f2
            have g6 := fun z => (CW.out z).cell f6
            have g7 := fun z => (CW.out z).cell f7
            repeat (refine wpLooksG_step (fun K hK => ?_); go_simp; refine hK _ ?_; clear hK K)
            refine wpLooksG_nil ?_
            clear g2 g6 g7 CW hne W ι f2 f6 f7
            refine wpG_force 10 _ rfl (by kernel_rfl) rfl fun wa hwa K hK => ?_
            go_simp
            refine hK _ _ (fun _ => GB.rf _) ?_
            clear hK K
            refine wpG_force 11 _ rfl (by kernel_rfl) rfl fun wb hwb K hK => ?_
            go_simp
            refine hK _ _ (fun _ => GB.rf _) ?_
            clear hK K
            refine wpG_force 12 _ rfl (by kernel_rfl) rfl fun wc hwc K hK => ?_
            have hbj : Bel wj wc := (hwa.undrew.trans hwb).trans hwc
            have e5 : wc.cell? ⟨pb, d * 37 + 35, none⟩ = some (.int .i64 mm.status) := GB.cell hbj HFS.out
            have z5 : wc.frozen? ⟨pb, d * 37 + 35, none⟩ = false := frozen_of_free (a := ⟨pb, d * 37 + 35, none⟩) ((blkFree_keep (hbj.block _ hpbl)).trans HFR.out)
            go_simp
            have HL3 := Lib.hid (HFIN.out wc hbj)
            clear e5 z5 hbj hwa hwb hwc
            generalize wc.setCell ⟨pb, d * 37 + 35, none⟩ (.int .i64 3) = wl at HL3 ⊢
            refine hK _ _ (fun h => absurd (by simp) h) ?_
            clear hK K
            refine wpG_end (by kernel_rfl) (fun wm hwm => ?_) _
            have HL4 := Lib.hid (HL3.out.1.bel hwm); have HC5 := Lib.hid (HL3.out.2.tr (Chg.of_bel hwm S3))
            clear hwm
            go_wp2_with fail
            exact ⟨⟨j + 1, U2, by omega, by go_num, HL4.out, HU2.out, HC5.out⟩, by simp [intOf]; omega⟩
        · have hjn : nt = j := by omega
          have hot2 : tombF (openF M B.opens) (B.tombs.take j) = endedM M B := by rw [List.take_of_length_le (by rw [← HTR.out.len, hntl, hjn]; exact Nat.le_refl _)]; rfl
          rw [hot2] at HR2
          have hj3 : ¬ (j : Int) < (nt : Int) := by omega
          have hsame := endedM_same M B
          have HSAME := Lib.hid hsame
          obtain ⟨hare, hesl⟩ := HES.out.are
          have HARE := Lib.hid hare
          have hen : es.length = n := HSN.out.1.1
          have HEN := Lib.hid hen
          have hnb : n ≤ 1000000 := by rw [← hen]; omega
          clear hot2 hjn hsame hare hen
          go_wp2_with fail
          go_loopw [107] (fun i wr => ∃ (k : Nat) (S' U' : Nat → Prop), k ≤ n ∧ i = .int .i64 k ∧ RefIs wr g S' U' (moreM (endedM M B) es k) ∧ (∀ q, U' q → U q ∨ w.heap.size ≤ q) ∧ (∀ q, S' q → S3 q ∨ wj.heap.size ≤ q) ∧ Chg S3 wj wr) (fun i _ => n - (intOf i).toNat)
          case atStart => exact ⟨0, S3, U2, by omega, rfl, by rw [moreM_zero]; exact HR2.out, HU2.out, fun _ h => .inl h, Chg.refl _ _⟩
          case round =>
            obtain ⟨k, S5, U5, hk, rfl, hR, hU, hS, hC⟩ := hrel
            obtain ⟨wq, rfl⟩ : ∃ wq : World, wq = wr := ⟨_, rfl⟩
            have HR5 := Lib.hid hR; have HU5 := Lib.hid hU; have HS5 := Lib.hid hS; have HC5 := Lib.hid hC; clear hR hU hS hC
            have hz5 := HC5.out.size
            have hgl5 : g < wq.heap.size := HR5.out.ltU g HR5.out.gU
            by_cases hltk : k < n
            · have hsk := (((HSN.out.chg HC2.out (fun q hq hs => by have := HS3L.out q hs; omega)).chg HC5.out (fun q hq hs => by have := HS3L.out q hs; omega))).1
              obtain ⟨ad, e, rfl, _, hek, hge⟩ := hsk.at_ (k := k) hltk
              change get? GEntry wq (ad.add (k * 35)) = some e at hge
              have hsucc := moreM_succ (M := endedM M B) hek
              have hlenk := moreM_len (endedM M B) (es := es) (k := k) (by rw [HEN.out]; omega)
              obtain ⟨Mk, hMk⟩ : ∃ Mk, moreM (endedM M B) es k = Mk := ⟨_, rfl⟩
              rw [hMk] at hsucc hlenk HR5
              have hqb : Mk.l.length ≤ 2000000 := by rw [hlenk, HSAME.out.len]; omega
              obtain ⟨A7, c7, hg7, _⟩ := HR5.out.list
              obtain ⟨_, _, f2, _⟩ := ref_cells hg7
              simp only at f2
              have HSUCC := Lib.hid hsucc; have HG7 := Lib.hid hg7
              have hltk2 : (k : Int) < (n : Int) := by omega
              have hk0 : (0 : Int) ≤ (k : Int) := by omega
              clear hsk hek hsucc hlenk hMk hg7
              go_wp2_with fail
              refine wp_region_G GB [11, 14] GB.rf (by kernel_rfl) ?_
              refine wpG_move 0 _ _ rfl rfl rfl GB.rf GB.tr (by kernel_rfl) (fun _ _ _ _ hd h => And.intro (hd ▸ And.left h) (And.right h)) (by kernel_rfl) ?_
              refine wpG_looks 5 14 [1,2,3,4,5,6,7,8,9] rfl GB.rf GB.tr (by kernel_rfl) (fun _ _ _ _ hd h => And.intro (hd ▸ And.left h) (And.right h)) rfl (by kernel_rfl) ?_
              intro ι W hne CW
              have g2 := fun z => (CW.out z).cell f2
              have g3 := fun z => (CW.out z).get hge
              repeat (refine wpLooksG_step (fun K hK => ?_); go_simp; refine hK _ ?_; clear hK K)
              refine wpLooksG_nil ?_
              clear g2 g3 CW hne W ι f2 hge
              refine wpG_force 10 _ rfl (by kernel_rfl) rfl fun wd hwd K hK => ?_
              go_simp
              refine hK _ _ (fun _ => GB.al _ _) ?_
              clear hK K
              have hsl7 : Sl GRef15Place (wd.alloc (.cells (⟨e, 1, default⟩ : GRef15Place).enc.toArray 175)) (wd.heap.size + 1) (some ⟨wd.heap.size, 0, none⟩) 1 [⟨e, 1, default⟩] := Sl.new_ (by simp; rfl) rfl rfl (by omega)
              have hbe1 : Bel wq (wd.alloc (.cells (⟨e, 1, default⟩ : GRef15Place).enc.toArray 175)) := Bel.alloc (GB.undrew hwd) _
              have hzd : (wd.alloc (.cells (⟨e, 1, default⟩ : GRef15Place).enc.toArray 175)).heap.size = wd.heap.size + 1 := by simp
              generalize wd.alloc (.cells (⟨e, 1, default⟩ : GRef15Place).enc.toArray 175) = wd2 at hsl7 hbe1 hzd ⊢
              refine wpG_force 11 _ rfl (by kernel_rfl) rfl fun we hwe K hK => ?_
              have hbce : Bel wq we := hbe1.trans hwe
              obtain ⟨A8, c8, w8, hrun8, hC8, hz8, hpost⟩ := RefIs.push (HR5.out.bel hbce) hqb (GB.get hbce HG7.out) (hsl7.below (Below.mono hwe (by omega)))
              go_simp
              refine hK _ _ (fun h => absurd (by simp) h) ?_
              have HP8 := Lib.hid hpost; have HC8 := Lib.hid ((HC5.out.tr (Chg.of_bel hbce S3)).trans hC8 (fun q hq => HS5.out q hq |>.imp id (fun h => by have := hbce.size; omega)))
              have hzce := hbce.size
              clear hK K hrun8 hpost hC8 hbce hbe1 hsl7 hwe hwd
              refine wpG_force 12 _ rfl (by kernel_rfl) rfl fun wf hwf K hK => ?_
              go_simp
              refine hK _ _ (fun _ => GB.rf _) ?_
              clear hK K
              refine wpG_force 13 _ rfl (by kernel_rfl) rfl fun wg hwg K hK => ?_
              go_simp
              refine hK _ _ (fun _ => GB.rf _) ?_
              clear hK K
              refine wpG_force 14 _ rfl (by kernel_rfl) rfl fun wh hwh K hK => ?_
              have hb8 : Bel w8 wh := Bel.trans (Bel.trans hwf hwg) hwh
              obtain ⟨S9, U9, hc9, hz9, hR9, hS9, hU9⟩ := HP8.out wh hb8
              go_simp
              rw [← HSUCC.out] at hR9
              have HR9 := Lib.hid hR9; have HS9 := Lib.hid hS9; have HU9 := Lib.hid hU9
              have HC9 := Lib.hid ((HC8.out.tr (Chg.of_bel hb8 S3)).tr ((Chg.setCell (w := wh) (S := fun q => q = g) (p := ⟨g, 2, none⟩) rfl (.slice A8 (Mk.l.length + 1) c8)).sub (fun q hq => hq ▸ HR4.out.gS)))
              clear hR9 hS9 hU9 hc9 hz9 hb8 hwf hwg hwh
              generalize wh.setCell ⟨g, 2, none⟩ (.slice A8 (Mk.l.length + 1) c8) = wl at HR9 HC9 ⊢
              refine hK _ _ (fun h => absurd (by simp) h) ?_
              clear hK K
              refine wpG_end (by kernel_rfl) (fun wm hwm => ?_) _
              have HR10 := Lib.hid (HR9.out.bel hwm); have HC10 := Lib.hid (HC9.out.tr (Chg.of_bel hwm S3))
              clear hwm
              go_wp2_with fail
              refine ⟨⟨k + 1, S9, U9, by omega, by go_num, HR10.out, fun q hq => ?_, fun q hq => ?_, HC10.out⟩, by simp [intOf]; omega⟩
              · rcases HU9.out q hq with h | h
                · exact HU5.out q h
                · exact .inr (by omega)
              · rcases HS9.out q hq with h | h
                · exact HS5.out q h
                · exact .inr (by omega)
            · have hkn : n = k := by omega
              have hr5 := HR5.out
              have hmd : moreM (endedM M B) es k = ⟨M.epoch, M.last, (endedM M B).l ++ es.map newP, M.done⟩ := by
                unfold moreM
                rw [List.take_of_length_le (by rw [HEN.out, hkn]; exact Nat.le_refl _), HSAME.out.epoch, HSAME.out.last, HSAME.out.done]
              rw [hmd] at hr5
              obtain ⟨A7, c7, hg7, _⟩ := hr5.list
              obtain ⟨c0, c1, _, _⟩ := ref_cells hg7
              simp only at c0 c1
              have hfr := hr5.free
              have z1 : wq.frozen? ⟨g, 1, none⟩ = false := frozen_of_free (a := ⟨g, 1, none⟩) hfr
              have hCf := HC4.out.gl ((HC2.out.tr HC5.out)) HS3'.out
              have f4 : wq.cell? ⟨w.heap.size, 1, none⟩ = some (.int .u64 B.time) := hCf.cell (by
                have := GBatch.at_time HGX.out
                rw [HX1.out.time] at this
                exact cell_off (by omega) this) (by show ¬ w.heap.size = g; omega)
              have p1 := RefIs.field (M' := ⟨M.epoch, B.time, (endedM M B).l ++ es.map newP, M.done⟩) hr5 rfl (j := 1) (v := .int .u64 B.time) (fun _ => rfl)
              have c0' : (wq.setCell ⟨g, 1, none⟩ (.int .u64 B.time)).cell? ⟨g, 0, none⟩ = some (.int .i64 M.epoch) := (World.cell?_setCell_other wq _ _ _ (fun h => by injection h with _ h _; omega)).trans c0
              have z0' : (wq.setCell ⟨g, 1, none⟩ (.int .u64 B.time)).frozen? ⟨g, 0, none⟩ = false := frozen_of_free (a := ⟨g, 0, none⟩) (by rw [blkFree_setCell]; exact hfr)
              have p2 := RefIs.field (M' := appliedM M B es) p1.1 rfl (j := 0) (v := .int .i64 (M.epoch + 1)) (fun _ => rfl)
              have P2 := Lib.hid p2.1
              have C2 := Lib.hid ((Chg.of_bel HBL.out (fun q => q = g)).tr ((hCf.tr p1.2).tr p2.2))
              have hk3 : ¬ (k : Int) < (n : Int) := by omega
              clear hr5 hmd hg7 hfr p1 p2 hCf hkn
              go_wp2_with fail
              go_ret2
              refine ⟨es, S5, U5, HES.out, by rw [HEN.out]; rfl, P2.out, HU5.out, fun z hz => ?_, C2.out⟩
              rcases HS5.out z hz with h | h
              · rcases HS3'.out z h with h2 | h2
                · exact .inl h2
                · exact .inr (by omega)
              · exact .inr (by omega)
end Go.Proofs.Yteockodnfempfaa
/- A ledger's entries as audit.Log tells them; the program's ledger and the document's side by side. Conditions: those named in each theorem. -/
namespace Go.Proofs.Yteockodnfempfaa
open Go Go.RowKit Go.Gv Go.Sort

theorem auditLog_any (g : Nat) (S U : Nat → Prop) (M : MLedger) (w : World) (h : LedgerIs w g S U M) (hlen : M.l.length ≤ 1000000) :
    Calls Try.prog 57 #[.pointer (some ⟨g, 0, none⟩)] w fun e w' => ∃ v, e = .returned v ∧ OwnS w' w.heap.size 30 v (entsL M) ∧ Bel w w' := by
  have H := Lib.hid h
  obtain ⟨n, hn⟩ : ∃ n, M.l.length = n := ⟨_, rfl⟩
  rw [hn] at hlen
  have HN := Lib.hid hn
  have HNL := Lib.hid (show (entsL M).length = n by rw [entsL_len, hn])
  clear h hn
  go_enter Try.func57, Try.ntmps57
  go_wp2_with fail
  refine (lenL_any g S U M _ H.out).mono ?_
  rw [HN.out]
  rintro _ wz ⟨rfl, hz⟩
  obtain rfl : w = wz := by first | exact hz | exact hz.symm
  go_wp2_with fail
  go_loopw [3, 9] (fun v i wr => ∃ k : Nat, k ≤ n ∧ i = .int .i64 k ∧ OwnS wr w.heap.size 30 v ((entsL M).take k) ∧ Bel w wr) (fun _ i _ => n - (intOf i).toNat)
  case atStart => exact ⟨0, by omega, rfl, OwnS.nil _ _ _, Bel.refl _⟩
  case round =>
    obtain ⟨k, hk, rfl, hown, hb⟩ := hrel
    obtain ⟨wi, rfl⟩ : ∃ wi : World, wi = wr := ⟨_, rfl⟩
    have HO := Lib.hid hown; have HB := Lib.hid hb; clear hown hb
    by_cases hlt : k < n
    · obtain ⟨m, hm⟩ : ∃ m, M.l[k]? = some m := ⟨_, List.getElem?_eq_getElem (by rw [HN.out]; exact hlt)⟩
      obtain ⟨hre, hri, _⟩ := entry_at M hm
      have HRE := Lib.hid hre; have HRI := Lib.hid hri
      have hlt2 : (k : Int) < (n : Int) := by omega
      have hk0 : (0 : Int) ≤ (k : Int) := by omega
      have HTL := Lib.hid (show ((entsL M).take k).length = k by rw [List.length_take, HNL.out]; omega)
      have EL := Lib.hid (take_snoc (l := entsL M) (k := k) (a := m.e) (entsL_at hm))
      clear hm hre hri
      go_wp2_with fail
      refine (entry_any g S U M (k : Int) _ (H.out.bel HB.out)).mono ?_
      rintro _ w5 ⟨rfl, hb5⟩
      rw [HRE.out, HRI.out]
      have hge := get?_new (w := w5) 30 m.e
      have HB6 := Lib.hid (Bel.alloc (HB.out.trans hb5) (.cells m.e.enc.toArray 30))
      have HO6 := Lib.hid (OwnS.step HO.out (Bel.alloc hb5 (.cells m.e.enc.toArray 30)))
      clear hb5
      have hz6 : (w5.alloc (.cells m.e.enc.toArray 30)).heap.size = w5.heap.size + 1 := by simp
      obtain ⟨w6, hw6⟩ : ∃ w6, w5.alloc (.cells m.e.enc.toArray 30) = w6 := ⟨_, rfl⟩
      have hge6 : get? GEntry w6 ⟨w5.heap.size, 0, none⟩ = some m.e := by rw [← hw6]; exact hge
      rw [hw6] at HB6 HO6 hz6
      clear hge
      go_wp2
      generalize hrun : Sem.run _ (gAppend _ _ _) _ = rr
      obtain ⟨v', w', rfl, ho, hg, hob⟩ := append_spec hrun ei22 (HO6.out.alloc (.cells m.e.enc.toArray 30)) (Sl.new_ (B := w6.heap.size + 1) (xs := [m.e]) (by simp; rfl) rfl hz6.symm (by omega)) (by rw [HTL.out]; unfold maxLen; omega) (by rw [HTL.out]; omega) (by have := HB6.out.size; simp only [World.size_alloc]; omega)
      clear hrun
      have hbel : Bel w w' := (HB6.out.alloc _).appS hg (HO6.out.alloc _) (Nat.le_refl _)
      rw [← EL.out] at ho
      have HN2 := Lib.hid ho; have HBN2 := Lib.hid hbel
      clear ho hbel hg hob hge6 hz6 hw6
      go_wp2
      exact ⟨⟨k + 1, by omega, by go_num, HN2.out, HBN2.out⟩, by simp [intOf]; omega⟩
    · have hkn : k = n := by omega
      have HO2 := Lib.hid (show OwnS wi w.heap.size 30 u3 (entsL M) by
        have := HO.out
        rwa [List.take_of_length_le (by rw [HNL.out]; omega)] at this)
      have hlt2 : ¬ (k : Int) < (n : Int) := by omega
      clear hkn
      go_wp2_with fail
      go_ret
      exact ⟨_, rfl, HO2.out, HB.out⟩
theorem GoodM.rising {M : MLedger} {n : Nat} (h : GoodM M n) : risingB (entsL M) = true := by
  rw [risingB_iff]
  intro k a b ha hb
  have hp : (entsL M).Pairwise entLt := h.rise
  obtain ⟨la, rfl⟩ := List.getElem?_eq_some_iff.1 ha
  obtain ⟨lb, rfl⟩ := List.getElem?_eq_some_iff.1 hb
  have := List.pairwise_iff_getElem.1 hp k (k + 1) la lb (by omega)
  unfold riseB
  rw [Bool.or_eq_true, Bool.and_eq_true, decide_eq_true_eq, decide_eq_true_eq, decide_eq_true_eq, before_lt]
  rcases this with h | ⟨h1, h2⟩
  · exact .inl h
  · exact .inr ⟨h1.symm, h2⟩
theorem GoodM.onceE {M : MLedger} {n : Nat} (h : GoodM M n) : onceB (entsL M) = true := by
  unfold onceB
  rw [decide_eq_true_eq]
  have := h.names
  rw [names_ents] at this
  exact this
theorem agree_half (l : List GEntry) (z : Nat) : agreeB [l, l.take z] = true := by
  unfold agreeB
  rw [decide_eq_true_eq]
  intro i hi j hj
  have hi' : i < 2 := hi
  obtain rfl : i = 1 := by omega
  obtain rfl : j = 0 := by omega
  show prefixB (l.take z) l = true
  unfold prefixB
  rw [decide_eq_true_eq, List.take_take, List.length_take]
  congr 1
  omega
theorem sameE_self (xs : List GEntry) : sameB xs xs = true := by unfold sameB; exact decide_eq_true rfl
/-- The program's ledger at g, the document's at h, alike. -/
def TwoAt (w0 w : World) (g h : Nat) (M : MLedger) : Prop := ∃ S U S' U' : Nat → Prop, LedgerIs w g S U M ∧ RefIs w h S' U' M ∧ (∀ q, U q → w0.heap.size ≤ q) ∧ (∀ q, U' q → w0.heap.size ≤ q) ∧ (∀ q, U q → ¬ U' q) ∧ Bel w0 w
theorem TwoAt.bel {w0 w w' : World} {g h : Nat} {M : MLedger} (k : TwoAt w0 w g h M) (hb : Bel w w') : TwoAt w0 w' g h M := by
  obtain ⟨S, U, S', U', h1, h2, h3, h4, h5, h6⟩ := k
  exact ⟨S, U, S', U', h1.bel hb, h2.bel hb, h3, h4, h5, h6.trans hb⟩
theorem StepM.openE {M M' : MLedger} {B : MBatch} (h : StepM M B M') (ho : OpenE M) : OpenE M' := by
  rcases h with ⟨_, rfl⟩ | ⟨_, es, _, rfl⟩
  · exact ho
  · exact ho.applied B es
theorem rapply_any (g : Nat) (S U : Nat → Prop) (M M' : MLedger) (x : GBatch) (B : MBatch) (Q : Nat → Prop) (w : World) (h : RefIs w g S U M) (hx : BatchIs Q w x B) (hQ : ∀ k, Q k → k ≠ g) (hst : StepM M B M')
    (he0 : 0 ≤ M.epoch) (he1 : M.epoch ≤ 1000000) (hml : M.l.length ≤ 1000000) (hfl : B.proms.flatten.length ≤ 1000000) (hoe : OpenE M) :
    Calls Try.prog 56 #[.pointer (some ⟨g, 0, none⟩), x.val] w fun e w' => ∃ (n c : Int) (S' U' : Nat → Prop), e = .returned (.tuple #[.int .i64 n, .int .i64 c]) ∧ RefIs w' g S' U' M' ∧ (∀ q, U' q → U q ∨ w.heap.size ≤ q) ∧ Chg (fun q => q = g) w w' := by
  rcases hst with ⟨hr, rfl⟩ | ⟨hr, es, hes, rfl⟩
  · refine (rapply_no g S U M' x B Q w h hx hr).mono ?_
    rintro e w' ⟨rfl, hb⟩
    exact ⟨0, 1, S, U, rfl, h.bel hb, fun _ h => .inl h, Chg.of_bel hb _⟩
  · refine (rapply_yes g S U M x B Q w h hx hQ hr he0 he1 hml hfl hoe).mono ?_
    rintro e w' ⟨es', S', U', hes', rfl, h1, h2, _, h3⟩
    obtain rfl := EntriesOf.one hes hes'
    exact ⟨_, _, S', U', rfl, h1, h2, h3⟩
end Go.Proofs.Yteockodnfempfaa
/- AuditLog returns true, walked. Conditions: those named in each theorem. -/
namespace Go.Proofs.Yteockodnfempfaa
open Go Go.RowKit Go.Gv Go.Sort

@[go_sem ↓ high] theorem box_ref_zero (w : World) : (gBox 120 (.agg #[.int .i64 0, .int .u64 0, .slice none 0 0, .int .i64 0])).run Try.prog w = .ok (.pointer (some ⟨w.heap.size, 0, none⟩)) (w.alloc (.cells (GRef15Ledger.enc default).toArray 120)) := by
  have h := bx_GRef15Ledger (w := w) (default : GRef15Ledger)
  rw [GRef15Ledger.val_eq] at h
  exact h
theorem ref_new (w0 w : World) (g : Nat) {S U : Nat → Prop} (hL : LedgerIs w g S U ⟨0, 0, [], 0⟩) (hU : ∀ q, U q → w0.heap.size ≤ q) (hb : Bel w0 w) : TwoAt w0 (w.alloc (.cells (GRef15Ledger.enc default).toArray 120)) g w.heap.size ⟨0, 0, [], 0⟩ := by
  refine ⟨S, U, footR w.heap.size default, footR w.heap.size default, hL.bel ((Bel.refl w).alloc _), ⟨default, [], rfl, ⟨fun _ h => h, ?_⟩, get?_new _ (default : GRef15Ledger), blkFree_new _ _ rfl, OwnS.nil _ _ _, by simp [Hdr.val, Value.ownBlock], trivial⟩, hU, ?_, ?_, hb.trans ((Bel.refl w).alloc _)⟩
  · rintro k (rfl | h)
    · simp
    · simp [Hdr.val, Value.ownBlock] at h
  · rintro k (rfl | h)
    · exact hb.size
    · simp [Hdr.val, Value.ownBlock] at h
  · intro q hq h
    have h1 := hL.ltU q hq
    rcases h with rfl | h
    · omega
    · simp [Hdr.val, Value.ownBlock] at h
set_option maxRecDepth 100000 in
set_option maxHeartbeats 8000000 in
theorem auditLogs_any (A : Option Addr) (n c : Nat) (xs : List GBatch) (w : World) (hx : Sl GBatch w w.heap.size A n xs) (hox : ∀ x ∈ xs, ok74 w x) (hn : n ≤ maxLen) :
    Calls Try.prog 17 #[.slice A n c] w fun e w' => e = .returned (.bool true) ∧ Bel w w' := by
  unfold maxLen at hn
  have HX := Lib.hid hx; have HOX := Lib.hid hox; clear hx hox
  go_enter Try.func17, Try.ntmps17
  go_upto_block 0 with (first | (go_at_call 41; refine (newLedger_any _).mono ?_; rintro _ w1 ⟨g, S, U, rfl, hL, hU, hb⟩; have HA := Lib.hid (ref_new w w1 g hL hU hb); clear hL hU hb) | fail)
  obtain ⟨h, hh⟩ : ∃ h, w1.heap.size = h := ⟨_, rfl⟩
  rw [hh] at HA ⊢
  clear hh
  generalize w1.alloc (.cells (GRef15Ledger.enc default).toArray 120) = w2 at HA ⊢
  go_cut [5] (fun _ wx => ∃ (k : Nat) (M : MLedger), k ≤ 6 ∧ TwoAt w wx g h M ∧ GoodM M k)
  case first =>
    go_wp2_with fail
    go_loopw [5] (fun i wr => ∃ (k : Nat) (M : MLedger), k ≤ n ∧ k ≤ 6 ∧ i = .int .i64 k ∧ TwoAt w wr g h M ∧ GoodM M k ∧ OpenE M) (fun i _ => 7 - (intOf i).toNat)
    case atStart => exact ⟨0, _, by omega, by omega, rfl, HA.out, GoodM.zero, fun m hm => by simp at hm⟩
    case round =>
      obtain ⟨k, M, hk, hk6, rfl, hA, hG, hoe⟩ := hrel
      have HG := Lib.hid hG; have HOE := Lib.hid hoe
      have HTWO := Lib.hid hA
      obtain ⟨S2, U2, S2', U2', hL2, hR2, hU2, hU2', hdis, hB2⟩ := hA
      by_cases hcont : k < n ∧ k < 6
      · obtain ⟨hlt, hlt6⟩ := hcont
        obtain ⟨ad, x, rfl, _, hxk, hgx⟩ := (HX.out.stepB hB2).at_ (k := k) hlt
        obtain ⟨R, hR⟩ := raw_of (HOX.out x (List.mem_of_getElem? hxk))
        change get? GBatch wr (ad.add (k * 5)) = some x at hgx
        have HR := Lib.hid (hR.bel hB2); have HL := Lib.hid hL2; have HRL := Lib.hid hR2; have HU := Lib.hid hU2; have HU' := Lib.hid hU2'; have HD := Lib.hid hdis; have HB := Lib.hid hB2
        have hUlt := Lib.hid hL2.ltU; have hUlt' := Lib.hid hR2.ltU
        obtain ⟨A5, c5, hg5, _⟩ := hR2.list
        obtain ⟨f0, f1, _, _⟩ := ref_cells hg5
        simp only at f0 f1
        have hhr : h < wr.heap.size := hR2.ltU h hR2.gU
        have hlt2 : (k : Int) < (n : Int) := by omega
        have hlt66 : (k : Int) < 6 := by omega
        clear hxk hR hL2 hR2 hU2 hU2' hdis hB2 hG hoe hg5
        have hlt3 : k < n := hlt
        have hk0 : (0 : Int) ≤ (k : Int) := by omega
        go_upto_region 7 with fail
        go_cut [6] (fun v wx => ∃ (ge : Nat) (y : GBatch) (Q : Nat → Prop), v = .pointer (some ⟨ge, 0, none⟩) ∧ Bel wr wx ∧ wr.heap.size ≤ ge ∧ get? GBatch wx ⟨ge, 0, none⟩ = some y ∧ BatchIs Q wx y (smallM R M.epoch M.last) ∧ ∀ q, Q q → wr.heap.size ≤ q)
        case first =>
          go_wp2_with fail
          refine wp_region_G GB [14] GB.rf (by kernel_rfl) ?_
          refine wpG_looks 3 15 [0,1,2,3,4,5,6,7,8,9,10,11] rfl GB.rf GB.tr (by kernel_rfl) (fun _ _ _ _ hd h => And.intro (hd ▸ And.left h) (And.right h)) rfl (by kernel_rfl) ?_
          intro ι W hne CW
          have g0 := fun z => (CW.out z).get hgx
          have g1 := fun z => (CW.out z).cell f0
          have g2 := fun z => (CW.out z).cell f1
          repeat (refine wpLooksG_step (fun K hK => ?_); go_simp; refine hK _ ?_; clear hK K)
          refine wpLooksG_nil ?_
          clear g0 g1 g2 CW hne W ι f0 f1 hgx
          refine wpG_two 12 13 _ _ rfl rfl (by kernel_rfl) rfl rfl ?_ ?_
          · intro wa hwa K hK
            go_simp
            refine (smallB_any x R M.epoch M.last wa (HR.out.bel hwa.undrew) HG.out.last0 (by have := HG.out.last1; omega)).mono ?_
            rintro _ wb ⟨y, rfl, hy, hbb⟩
            refine hK _ _ (fun _ => hbb) ?_
            clear hK K
            refine wpG_new 13 14 _ _ rfl rfl (by kernel_rfl) (by kernel_rfl) rfl rfl (by kernel_rfl) _ _ rfl rfl default y al_GBatch sz74 (fun _ => rfl) (fun _ => GBatch.val_eq _) GB.al GB.bel ?_
            intro ge wc wd hwc hge hcd hgb hgel
            refine wpG_end (by kernel_rfl) (fun wn hwn => ?_) _
            have hbn : Bel wr wn := Bel.trans (Bel.trans (Bel.trans (hwa.undrew.trans hbb) hwc) hcd) hwn
            have hzge : wr.heap.size ≤ ge := by have h1 := (Bel.trans (hwa.undrew.trans hbb) hwc).size; omega
            have hzwa : wr.heap.size ≤ wa.heap.size := hwa.undrew.size
            have HF := Lib.hid (show Bel wr wn ∧ wr.heap.size ≤ ge ∧ get? GBatch wn ⟨ge, 0, none⟩ = some y ∧ BatchIs (fun q => wa.heap.size ≤ q) wn y (smallM R M.epoch M.last) ∧ ∀ q, wa.heap.size ≤ q → wr.heap.size ≤ q from ⟨hbn, hzge, GB.get hwn hgb, hy.bel (Bel.trans (Bel.trans hwc hcd) hwn), fun q hq => by omega⟩)
            clear hwa hbb hwc hcd hwn hgb hgel hge hbn hy hzge hzwa
            go_wp2_with fail
            go_meet
            exact ⟨ge, y, _, rfl, HF.out⟩
          · intro wa hwa K hK
            go_simp
            refine hK _ _ (fun _ => GB.al _ _) ?_
            clear hK K
            have hg8 := get?_new (w := wa) 74 (default : GBatch)
            have hf8 : blkFree (wa.alloc (.cells (GBatch.enc default).toArray 74)) wa.heap.size = true := blkFree_new _ _ rfl
            have hb8 : Bel wr (wa.alloc (.cells (GBatch.enc default).toArray 74)) := Bel.alloc hwa.undrew _
            have hz8 : (wa.alloc (.cells (GBatch.enc default).toArray 74)).heap.size = wa.heap.size + 1 := by simp
            have hzwa : wr.heap.size ≤ wa.heap.size := hwa.undrew.size
            change get? GBatch (wa.alloc (.cells (GBatch.enc default).toArray 74)) ⟨wa.heap.size, 0, none⟩ = some default at hg8
            generalize wa.alloc (.cells (GBatch.enc default).toArray 74) = w8 at hg8 hf8 hb8 hz8 ⊢
            refine wpG_force 12 _ rfl (by kernel_rfl) rfl fun wb hwb K hK => ?_
            go_simp
            have hbb8 : Bel wr wb := hb8.trans hwb
            refine (smallB_any x R M.epoch M.last wb (HR.out.bel hbb8) HG.out.last0 (by have := HG.out.last1; omega)).mono ?_
            rintro _ wc ⟨y, rfl, hy, hbc⟩
            refine hK _ _ (fun _ => hbc) ?_
            clear hK K
            refine wpG_force 14 _ rfl (by kernel_rfl) rfl fun wd hwd K hK => ?_
            have hzb : wa.heap.size < wb.heap.size := by have := Below.size hwb; omega
            have hb8d : Bel w8 wd := Bel.trans (Bel.trans hwb hbc) hwd
            have k7 : get? GBatch wd ⟨wa.heap.size, 0, none⟩ = some default := GB.get hb8d hg8
            have k8 : blkFree wd wa.heap.size = true := (blkFree_keep (hb8d.block _ (by omega))).trans hf8
            go_simp
            have hput := get?_put y k7
            have hcp : Chg (fun q => q = wa.heap.size) wd (World.putCells wd ⟨wa.heap.size, 0, none⟩ (Enc.enc y)) := Chg.putCells (a := ⟨wa.heap.size, 0, none⟩) _
            have hbp : Bel wr (World.putCells wd ⟨wa.heap.size, 0, none⟩ (Enc.enc y)) := Below_putCells (a := ⟨wa.heap.size, 0, none⟩) (hb8.trans hb8d) (by show wr.heap.size ≤ wa.heap.size; omega) _
            have hyp := (hy.bel hwd).chg hcp (fun q hq e => by omega)
            have HF := Lib.hid (show Bel wr (World.putCells wd ⟨wa.heap.size, 0, none⟩ (GBatch.enc y)) ∧ get? GBatch (World.putCells wd ⟨wa.heap.size, 0, none⟩ (GBatch.enc y)) ⟨wa.heap.size, 0, none⟩ = some y ∧ BatchIs (fun q => wb.heap.size ≤ q) (World.putCells wd ⟨wa.heap.size, 0, none⟩ (GBatch.enc y)) y (smallM R M.epoch M.last) from ⟨hbp, hput, hyp⟩)
            clear k7 k8 hput hcp hbp hyp hb8d hy
            generalize World.putCells wd ⟨wa.heap.size, 0, none⟩ (GBatch.enc y) = we at HF ⊢
            refine hK _ _ (fun h => absurd (by simp) h) ?_
            clear hK K
            refine wpG_end (by kernel_rfl) (fun wn hwn => ?_) _
            obtain ⟨h1, h2, h3⟩ := HF.out
            have HF2 := Lib.hid (show Bel wr wn ∧ wr.heap.size ≤ wa.heap.size ∧ get? GBatch wn ⟨wa.heap.size, 0, none⟩ = some y ∧ BatchIs (fun q => wb.heap.size ≤ q) wn y (smallM R M.epoch M.last) ∧ ∀ q, wb.heap.size ≤ q → wr.heap.size ≤ q from ⟨h1.trans hwn, hzwa, GB.get hwn h2, h3.bel hwn, fun q hq => by omega⟩)
            clear h1 h2 h3 HF hwn hwa hwb hwd hbb8 hbc hg8 hf8 hb8
            go_wp2_with fail
            go_meet
            exact ⟨_, y, _, rfl, HF2.out⟩
        case rest =>
        obtain ⟨ge, y, Q, rfl, hbn, hzge, hgy, hyn, hQr⟩ := hcut
        obtain ⟨wn, rfl⟩ : ∃ wn : World, wn = wc := ⟨_, rfl⟩
        have HYN := Lib.hid hyn; have HGY := Lib.hid hgy; have HBN := Lib.hid hbn; have HQR := Lib.hid hQr
        have hzn := hbn.size
        clear hbn hyn hQr
        go_wp2_with fail
        refine (apply_any g S2 U2 M y (smallM R M.epoch M.last) Q wn (HL.out.bel HBN.out) HYN.out (fun q hq hu => by have := hUlt.out q hu; have := HQR.out q hq; omega) HG.out.epoch0 (by have := HG.out.epoch1; omega) (by have := HG.out.len; omega) (by have := small_flat R M.epoch M.last; omega)).mono ?_
        rintro _ w5 ⟨M', n', c', S3, U3, hst, rfl, hL3, hU3, hC3⟩
        have hsub2 := (HL.out.bel HBN.out).sub
        have hz5 := hC3.size
        have hR5 : RefIs w5 h S2' U2' M := (HRL.out.bel HBN.out).chg hC3 (fun q hq hs => HD.out q (hsub2 q hs) hq)
        have hy5 : BatchIs Q w5 y (smallM R M.epoch M.last) := HYN.out.chg hC3 (fun q hq hs => by have := hUlt.out q (hsub2 q hs); have := HQR.out q hq; omega)
        have hgy5 : get? GBatch w5 ⟨ge, 0, none⟩ = some y := hC3.get HGY.out (fun hs => by have h1 : S2 ge := hs; have := hUlt.out ge (hsub2 ge h1); omega)
        have HST := Lib.hid hst; have HR5 := Lib.hid hR5; have HY5 := Lib.hid hy5
        have HL3 := Lib.hid hL3; have HU3 := Lib.hid hU3
        have HB5 := Lib.hid (Chg.bel2 (HB.out.trans HBN.out) hC3 (fun q hq => HU.out q (hsub2 q hq)))
        clear hst hR5 hy5 hL3 hU3 hC3 hsub2 hgy HGY
        go_wp2_with fail
        refine (rapply_any h S2' U2' M M' y (smallM R M.epoch M.last) Q w5 HR5.out HY5.out (fun q hq e => by have := HQR.out q hq; omega) HST.out HG.out.epoch0 (by have := HG.out.epoch1; omega) (by have := HG.out.len; omega) (by have := small_flat R M.epoch M.last; omega) HOE.out).mono ?_
        rintro _ w6 ⟨n6, c6, S6, U6, rfl, hR6, hU6, hC6⟩
        have HG6 := Lib.hid (HST.out.good HG.out); have HO6 := Lib.hid (HST.out.openE HOE.out)
        have hnh : ∀ q, U3 q → q ≠ h := fun q hq e => by
          rcases HU3.out q hq with h1 | h1
          · exact HD.out q h1 (e ▸ HRL.out.gU)
          · omega
        have HT6 := Lib.hid (show TwoAt w w6 g h M' from ⟨S3, U3, S6, U6, HL3.out.chg hC6 (fun q hq e => hnh q hq e), hR6, fun q hq => by
            rcases HU3.out q hq with h1 | h1
            · exact HU.out q h1
            · have := HB.out.size; omega, fun q hq => by
            rcases hU6 q hq with h1 | h1
            · exact HU'.out q h1
            · have := HB.out.size; omega, fun q hq hq' => by
            have h3 := HL3.out.ltU q hq
            rcases HU3.out q hq with h1 | h1
            · rcases hU6 q hq' with h2 | h2
              · exact HD.out q h1 h2
              · omega
            · rcases hU6 q hq' with h2 | h2
              · have := hUlt'.out q h2; omega
              · omega, Chg.bel2 HB5.out hC6 (fun q hq => by have h1 : q = h := hq; rw [h1]; exact HU'.out h HRL.out.gU)⟩)
        clear hR6 hU6 hC6 hnh hgy5
        go_wp2_with fail
        exact ⟨⟨k + 1, M', by omega, by omega, by go_num, HT6.out, HG6.out, HO6.out⟩, by simp [intOf]; omega⟩
      · have hstop : (n : Int) ≤ (k : Int) ∨ ((k : Int) < (n : Int) ∧ 6 ≤ (k : Int)) := by omega
        clear hcont hL2 hR2 hU2 hU2' hdis hB2 hG hoe
        rcases hstop with hs | ⟨hs, hs2⟩
        all_goals
          go_wp2_with fail
          go_meet
          exact ⟨k, M, hk6, HTWO.out, HG.out⟩
  case rest =>
    obtain ⟨k, M, hk6, ⟨S2, U2, S2', U2', hL2, hR2, hU2, hU2', hdis, hB2⟩, hG⟩ := hcut
    obtain ⟨w3, rfl⟩ : ∃ w3 : World, w3 = wc := ⟨_, rfl⟩
    have hll := hG.len
    have HL2 := Lib.hid hL2; have HR2 := Lib.hid hR2; have HB2 := Lib.hid hB2; have HG := Lib.hid hG
    obtain ⟨q, hq⟩ : ∃ q, M.l.length = q := ⟨_, rfl⟩
    rw [hq] at hll
    have HEL := Lib.hid (show (entsL M).length = q by rw [entsL_len, hq])
    have HQ := Lib.hid hq
    clear hL2 hR2 hU2 hU2' hdis hB2 hG hq
    go_wp2_with fail
    refine (auditLog_any g S2 U2 M _ HL2.out (by rw [HQ.out]; omega)).mono ?_
    rintro _ w4 ⟨v, rfl, hv, hb4⟩
    obtain ⟨A1, c1, hv1, hoa, hc1, hm1⟩ := OwnS.ownA hv
    rw [HEL.out] at hv1 hc1
    subst hv1
    have hs1 := hoa.sl
    rw [HEL.out] at hs1
    have HS1 := Lib.hid hs1; have HB4 := Lib.hid hb4; have HC1 := Lib.hid hc1; have HM1 := Lib.hid hm1
    clear hv hoa hs1 hb4 hc1 hm1
    go_wp2_with fail
    refine (log15_any h S2' U2' M _ (HR2.out.bel HB4.out) (by rw [HQ.out]; omega)).mono ?_
    rintro _ w5 ⟨v, rfl, hv, hb5⟩
    obtain ⟨A2, c2, hv1, hoa, hc2, hm2⟩ := OwnS.ownA hv
    rw [HEL.out] at hv1 hc2
    subst hv1
    have hs2 := hoa.sl
    rw [HEL.out] at hs2
    have HS2 := Lib.hid hs2; have HB5 := Lib.hid hb5
    clear hv hoa hs2 hb5 hc2 hm2
    go_wp2_with fail
    refine (sameEntry_any A1 A2 q q c1 c2 (entsL M) (entsL M) w5 _ (HS1.out.stepB HB5.out) HS2.out (by unfold maxLen; omega) (by unfold maxLen; omega)).mono ?_
    rintro _ w6 ⟨rfl, nd, rfl⟩
    rw [sameE_self]
    obtain ⟨w6, hw6⟩ : ∃ w6 : World, w5.drewN nd = w6 := ⟨_, rfl⟩
    have hb6 : Bel w5 w6 := by rw [← hw6]; exact (Bel.refl w5).drewN _
    rw [hw6]
    have HS6 := Lib.hid ((HS1.out.stepB HB5.out).stepB hb6); have HB6 := Lib.hid (((HB2.out.trans HB4.out).trans HB5.out).trans hb6)
    clear hb6 hw6
    go_wp2_with fail
    refine (rising_any A1 q c1 (entsL M) _ HS6.out (by unfold maxLen; omega)).mono ?_
    rw [HG.out.rising]
    rintro _ w7 ⟨rfl, hb7⟩
    have HS7 := Lib.hid (HS6.out.stepB hb7); have HB7 := Lib.hid (HB6.out.trans hb7)
    clear hb7
    go_wp2_with fail
    refine (once_any A1 q c1 (entsL M) _ HS7.out (by unfold maxLen; omega)).mono ?_
    rw [HG.out.onceE]
    rintro _ w8 ⟨rfl, hb8⟩
    have HS8 := Lib.hid (HS7.out.stepB hb8); have HB8 := Lib.hid (HB7.out.trans hb8)
    clear hb8
    have hdiv : (q : Int).tdiv 2 = ((q / 2 : Nat) : Int) := by rw [Int.tdiv_eq_ediv_of_nonneg (by omega)]; omega
    obtain ⟨z, hz⟩ : ∃ z, q / 2 = z := ⟨_, rfl⟩
    rw [hz] at hdiv
    have hzq : z ≤ q := by omega
    have hc1 := HC1.out; have hm1 := HM1.out
    unfold maxLen at hm1
    clear hz
    go_wp2_with fail
    have hb9 : Bel w8 (w8.alloc (.cells #[.slice A1 q c1, .slice A1 z c1] 22)) := (Bel.refl w8).alloc _
    have hlg := LogsIs.new (w := w8) (t := 22) (cs := #[.slice A1 q c1, .slice A1 z c1]) (n := 2) (p := w8.heap.size)
      (hs := [⟨A1, q, c1⟩, ⟨A1, z, c1⟩]) (ls := [entsL M, (entsL M).take z]) ⟨⟨HS8.out, hc1, hm1⟩, ⟨HS8.out.take hzq, by simp only; omega, hm1⟩, trivial⟩ (Nat.le_refl _) rfl rfl rfl
    refine (agree_any _ 2 2 _ _ _ hlg (by omega) (by unfold maxLen; omega)).mono ?_
    rw [agree_half]
    rintro _ w9 ⟨rfl, nd9, rfl⟩
    have HB9 := Lib.hid ((HB8.out.trans hb9).drewN nd9)
    clear hlg hb9
    go_wp2_with fail
    refine (wakes_any _).mono ?_
    rintro _ w10 ⟨rfl, hb10⟩
    have HB10 := Lib.hid (HB9.out.trans hb10)
    clear hb10
    go_wp2_with fail
    go_ret
    exact ⟨rfl, HB10.out⟩
end Go.Proofs.Yteockodnfempfaa
