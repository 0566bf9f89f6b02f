/- What the document's app does with a payload. Conditions: those named in each theorem. -/
import Derived.Test.YteockodnfempfaaGreatDoorP4
import Derived.Test.YteockodnfempfaaGreatDoorP15
import Derived.Test.YteockodnfempfaaGreatDoorP14
import Derived.Test.YteockodnfempfaaGreatDoorP8
/- A move in a region that leaves its order open may come whenever. Conditions: those named in each theorem. -/
namespace Go.Gv
open Go Go.RowKit
section
variable {P : Program} {ops : Array Oper} {md : Region.Mode} {Q : Exit → Act → World → Prop} {G : World → World → Prop} {T : List Nat}
theorem exec_move {a : Act} {o : Oper} {x : Operand} (hop : o.op = .move x) (w : World) : (execOp a.eval o).run P w = .ok (.value (a.eval x)) w := by
  cases o; simp only at hop; subst hop; simp [execOp]
theorem yields_move {a : Act} {o : Oper} {x : Operand} (hop : o.op = .move x) (hg : o.guard = none) (w : World) : YieldsG P ops (fun _ _ => True) w o (a.eval x) a :=
  .inl ⟨by simp [Region.wanted, hg], fun w' _ => by rw [exec_move hop]; exact ⟨rfl, rfl⟩⟩
theorem wpG_move_aux {i : Nat} {oi : Oper} {x : Operand} {v : Value} (hi : ops[i]? = some oi) (hop : oi.op = .move x) (hg : oi.guard = none) (hrf : ∀ a, G a a) (ht : ∀ a b c, G a b → G b c → G a c) (hsel : ∀ (j : Nat) (o : Oper) cs b, ops[j]? = some o → o.op ≠ .select cs b)
    (hQ : ∀ c (a a' : Act) w, a.defers = a'.defers → Q (.panic c) a w → Q (.panic c) a' w) :
    ∀ (fuel : Nat) (listed : Array Bool) (a : Act) (w : World),
      (∀ j oj, ops[j]? = some oj → j ≠ i → listed.getD j true = false → (∀ e ∈ oj.after, Region.binds md e = true → e.on ≠ i) → oi.apart ops oj = true) →
      i ∈ Region.ready md ops listed → (∀ w, YieldsG P ops (fun _ _ => True) w oi v a) →
      wpG P md ops Q G T fuel (listed.setIfInBounds i true) (a.put oi.dst v) w → wpG P md ops Q G T (fuel + 1) listed a w := by
  have here : ∀ (a : Act) (w : World) (K : Act → World → Prop), (∀ w, YieldsG P ops (fun _ _ => True) w oi v a) → K (a.put oi.dst v) w → wpOp P ops Q i K a w := by
    intro a w K hy hK
    unfold Go.wpOp
    simp only [hi]
    rw [if_pos (by simp [Region.wanted, hg])]
    refine .inl ?_
    unfold Oper.wp
    rcases hy w with ⟨_, hv⟩ | ⟨hw, _⟩
    · have h1 := hv w trivial
      rw [exec_move hop] at h1 ⊢
      simp only [lookUponG] at h1
      simp only [Oper.upon]
      rw [h1.2]; exact hK
    · simp [Region.wanted, hg] at hw
  intro fuel
  induction fuel with
  | zero =>
    intro listed a w _ hr hy H
    refine ⟨fun h => (by rw [h] at hr; cases hr), fun j hj w' hw' => ?_⟩
    by_cases hji : j = i
    · subst hji
      exact here a w' _ hy ⟨fun _ => hrf _, wpG_ext ht H hw'⟩
    · have := ready_mono hj hji
      rw [H.1] at this
      cases this
  | succ fuel ih =>
    intro listed a w hfree hr hy H
    refine ⟨fun h => (by rw [h] at hr; cases hr), fun j hj w' hw' => ?_⟩
    by_cases hji : j = i
    · subst hji
      exact here a w' _ hy ⟨fun _ => hrf _, wpG_ext ht H hw'⟩
    · have h1 := H.2 j (ready_mono hj hji) w' hw'
      obtain ⟨hjun, oj, hoj, hall⟩ := mem_ready.1 hj
      have hun : listed.getD i true = false := (mem_ready.1 hr).1
      have hun2 : listed.getD i false = false := by
        rcases Nat.lt_or_ge i listed.size with h' | h'
        · simpa [h'] using hun
        · simp [Array.getElem?_eq_none h'] at hun
      have hnot : ∀ e ∈ oj.after, Region.binds md e = true → e.on ≠ i := fun e he hb heq => by
        have h1 := hall e he hb
        rw [heq, hun2] at h1; cases h1
      have h2 := wpOp_putG (G := fun _ _ => True) hoj (hfree j oj hoj hji hjun hnot) (fun cs b => hsel i oi cs b hi) (fun cs b => hsel j oj cs b hoj) (fun c a w h => hQ c _ _ w (by cases oi.dst <;> rfl) h) (hy w) h1
      have hfree' : ∀ k ok, ops[k]? = some ok → k ≠ i → (listed.setIfInBounds j true).getD k true = false →
          (∀ e ∈ ok.after, Region.binds md e = true → e.on ≠ i) → oi.apart ops ok = true := fun k ok hk hki hun hno => by
        refine hfree k ok hk hki ?_ hno
        by_cases hjk : j = k
        · subst hjk; exact hjun
        · rw [getD_set_ne true hjk] at hun; exact hun
      refine wpOp_mono (fun a' w'' h3 => ⟨h3.2.1, ?_⟩) h2
      obtain ⟨hy', hG, h4⟩ := h3
      refine ih (listed.setIfInBounds j true) a' w'' hfree' (ready_mono hr (Ne.symm hji)) (fun w0 => hy'.ext (fun _ _ _ _ _ => trivial) trivial) ?_
      rw [Array.setIfInBounds_comm _ _ hji]
      exact h4
/-- A move is taken first, whatever else is ready. -/
theorem wpG_move {l : List Oper} {fuel : Nat} {listed : Array Bool} {a : Act} {w : World} (i : Nat) (o : Oper) (x : Operand) (ho : nthO l i = some o) (hop : o.op = .move x) (hg : o.guard = none) (hrf : ∀ a, G a a) (ht : ∀ a b c, G a b → G b c → G a c) (hs : Region.noSelect l.toArray = true)
    (hQ : ∀ c (a a' : Act) w, a.defers = a'.defers → Q (.panic c) a w → Q (.panic c) a' w) (hB : ((Region.ready md l.toArray listed).contains i && Region.free md l.toArray listed i) = true)
    (h : wpG P md l.toArray Q G T fuel (listed.setIfInBounds i true) (a.put o.dst (a.eval x)) w) : wpG P md l.toArray Q G T (fuel + 1) listed a w := by
  have ho : l.toArray[i]? = some o := by rw [← ho, nthO_eq]; simp
  rw [Bool.and_eq_true, List.contains_iff_mem] at hB
  exact wpG_move_aux ho hop hg hrf ht (Region.noSelect_spec hs) hQ fuel listed a w (Region.free_spec ho hB.2) hB.1 (fun w => yields_move hop hg w) h
end
end Go.Gv
/- The document's app in memory. Conditions: those named in each theorem. -/
namespace Go.Proofs.YteockodnfempfaaGreatDoor
open Go Go.RowKit Go.Gv Go.Sort Go.Proofs

/-- A document's app at a: its house at h, its registry at q. -/
structure RA (w : World) (a h q : Nat) (M : MApp) (kk : Nat) : Prop where
  cells : w.heap[a]? = some (.cells #[.pointer (some ⟨h, 0, none⟩), .pointer (some ⟨q, 0, none⟩), .int .i64 M.n] 90 (0, 0))
  house : ∃ R, RHouseIs w h R ∧ Twin M.house R
  reg : ∃ L, RRegIs w q L ∧ RTwin M.reg L
  ne : a ≠ h ∧ a ≠ q ∧ h ≠ q
  ok : HouseOk M.house
  good : GoodH M.house kk
  regs : RegOk M.reg
  count : 0 ≤ M.n ∧ M.n ≤ kk
def footR (a h q : Nat) (k : Nat) : Prop := k = a ∨ k = h ∨ k = q
section
variable {w w' : World} {a h q kk : Nat} {M : MApp} {S : Nat → Prop}
theorem RA.lt (A : RA w a h q M kk) : a < w.heap.size := lt_of_some A.cells
theorem RA.lth (A : RA w a h q M kk) : h < w.heap.size := by obtain ⟨R, hR, _⟩ := A.house; exact hR.lt
theorem RA.ltq (A : RA w a h q M kk) : q < w.heap.size := by obtain ⟨L, hL, _⟩ := A.reg; exact hL.lt
theorem RA.foot (A : RA w a h q M kk) : ∀ k, footR a h q k → k < w.heap.size := fun k hk => by
  have l1 := A.lt; have l2 := A.lth; have l3 := A.ltq
  unfold footR at hk
  omega
theorem RA.at0 (A : RA w a h q M kk) : w.cell? ⟨a, 0, none⟩ = some (.pointer (some ⟨h, 0, none⟩)) := by unfold World.cell?; rw [A.cells]; rfl
theorem RA.at1 (A : RA w a h q M kk) : w.cell? ⟨a, 1, none⟩ = some (.pointer (some ⟨q, 0, none⟩)) := by unfold World.cell?; rw [A.cells]; rfl
theorem RA.at2 (A : RA w a h q M kk) : w.cell? ⟨a, 2, none⟩ = some (.int .i64 M.n) := by unfold World.cell?; rw [A.cells]; rfl
theorem RA.free (A : RA w a h q M kk) : blkFree w a = true := by unfold blkFree; rw [A.cells]; rfl
theorem RA.mono {j : Nat} (A : RA w a h q M kk) (hj : kk ≤ j) : RA w a h q M j := ⟨A.cells, A.house, A.reg, A.ne, A.ok, A.good.mono hj, A.regs, A.count.1, by have := A.count.2; omega⟩
theorem RA.bel (A : RA w a h q M kk) (hb : Bel w w') : RA w' a h q M kk := by
  obtain ⟨R, hR, hT⟩ := A.house
  obtain ⟨L, hL, hQ⟩ := A.reg
  exact ⟨(Below.block hb a A.lt).trans A.cells, ⟨R, hR.bel hb, hT⟩, ⟨L, hL.bel hb, hQ⟩, A.ne, A.ok, A.good, A.regs, A.count⟩
theorem RA.hole (A : RA w a h q M kk) (hO : ∀ k, S k → Hole w k) (hc : Chg S w w') (h1 : ∀ k, footR a h q k → ¬ S k) : RA w' a h q M kk := by
  obtain ⟨R, hR, hT⟩ := A.house
  obtain ⟨L, hL, hQ⟩ := A.reg
  exact ⟨(hc.block a A.lt (h1 _ (.inl rfl))).trans A.cells, ⟨R, hR.hole hO hc (h1 _ (.inr (.inl rfl))), hT⟩, ⟨L, hL.hole hO hc (h1 _ (.inr (.inr rfl))), hQ⟩, A.ne, A.ok, A.good, A.regs, A.count⟩
theorem add_off {u : Addr} {j : Nat} (hj : 0 < j) : (u.add j).off = u.off + j := by unfold Addr.add; rw [if_neg (by omega)]
theorem RA.holeA (A : RA w a h q M kk) : Hole w a := by
  have hc := A.cells
  have key : ∀ (u : Addr) (v : Value), w.cell? u = some v → u.block = a → (u.off = 0 ∧ v = .pointer (some ⟨h, 0, none⟩)) ∨ (u.off = 1 ∧ v = .pointer (some ⟨q, 0, none⟩)) ∨ (u.off = 2 ∧ v = .int .i64 M.n) := by
    intro u v hv e
    unfold World.cell? at hv
    rw [e, hc] at hv
    simp only at hv
    split at hv
    · cases hv
    · match hu : u.off with
      | 0 => rw [hu] at hv; exact .inl ⟨rfl, (Option.some.inj hv).symm⟩
      | 1 => rw [hu] at hv; exact .inr (.inl ⟨rfl, (Option.some.inj hv).symm⟩)
      | 2 => rw [hu] at hv; exact .inr (.inr ⟨rfl, (Option.some.inj hv).symm⟩)
      | k + 3 => rw [hu] at hv; cases hv
  refine ⟨fun u x hx e => ?_, fun u x hx e => ?_, fun u x hx e => ?_⟩
  · have h0 := key _ _ (cell_zero (GRef15Bid.at_client hx)) e
    have h1 := key _ _ (GRef15Bid.at_amount hx) (by rw [add_block]; exact e)
    rw [add_off (by decide)] at h1
    rcases h0 with ⟨_, h0⟩ | ⟨_, h0⟩ | ⟨h0, _⟩
    · cases h0
    · cases h0
    · omega
  · rcases key _ _ (cell_zero (GRef15Sale.at_name hx)) e with ⟨_, h0⟩ | ⟨_, h0⟩ | ⟨_, h0⟩ <;> cases h0
  · rcases key _ _ (cell_zero (GRef15Owned.at_item hx)) e with ⟨_, h0⟩ | ⟨_, h0⟩ | ⟨_, h0⟩ <;> cases h0
theorem RA.tick (A : RA w a h q M kk) : RA (w.setCell ⟨a, 2, none⟩ (.int .i64 (M.n + 1))) a h q { M with n := M.n + 1 } (kk + 1) := by
  have hc : Chg (fun k => k = a) w (w.setCell ⟨a, 2, none⟩ (.int .i64 (M.n + 1))) := ⟨rfl, rfl, rfl, by simp, fun k _ hn => Below.heap_setCell _ _ _ _ hn⟩
  have hO : ∀ k, k = a → Hole w k := fun k e => by subst e; exact A.holeA
  obtain ⟨R, hR, hT⟩ := A.house
  obtain ⟨L, hL, hQ⟩ := A.reg
  refine ⟨?_, ⟨R, hR.hole hO hc (fun e => A.ne.1 e.symm), hT⟩, ⟨L, hL.hole hO hc (fun e => A.ne.2.1 e.symm), hQ⟩, A.ne, A.ok, A.good.mono (by omega), A.regs, ?_⟩
  · rw [heap_setCell_same w a 2 _ _ _ A.cells]
    rfl
  · have := A.count
    exact ⟨by show 0 ≤ M.n + 1; omega, by show M.n + 1 ≤ ((kk + 1 : Nat) : Int); omega⟩
theorem RA.putHouse {H' : MHouse} {j : Nat} {R' : List MSale} (A : RA w a h q M kk) (hT : Twin H' R') (hR : RHouseIs w' h R') (hc : Chg (fun k => k = h) w w') (hok : HouseOk H') (hgd : GoodH H' j) (hj : kk ≤ j) : RA w' a h q { M with house := H' } j := by
  obtain ⟨R, hR0, _⟩ := A.house
  obtain ⟨L, hL, hQ⟩ := A.reg
  have hO : ∀ k, k = h → Hole w k := fun k e => by subst e; exact hR0.odd.hole
  exact ⟨(hc.block a A.lt A.ne.1).trans A.cells, ⟨R', hR, hT⟩, ⟨L, hL.hole hO hc (fun e => A.ne.2.2 e.symm), hQ⟩, A.ne, hok, hgd, A.regs, A.count.1, by have := A.count.2; show M.n ≤ (j : Int); omega⟩
theorem RA.putReg {Q' : MReg} {L' : MReg} (A : RA w a h q M kk) (hT : RTwin Q' L') (hL : RRegIs w' q L') (hc : Chg (fun k => k = q) w w') (hok : RegOk Q') : RA w' a h q { M with reg := Q' } kk := by
  obtain ⟨R, hR, hH⟩ := A.house
  obtain ⟨L, hL0, _⟩ := A.reg
  have hO : ∀ k, k = q → Hole w k := fun k e => by subst e; exact hL0.odd.hole
  exact ⟨(hc.block a A.lt A.ne.2.1).trans A.cells, ⟨R, hR.hole hO hc A.ne.2.2, hH⟩, ⟨L', hL, hT⟩, A.ne, A.ok, A.good, hok, A.count⟩
theorem chg_h (hc : Chg (fun k => k = h) w w') : Chg (footR a h q) w w' := hc.sub fun _ e => .inr (.inl e)
theorem chg_q (hc : Chg (fun k => k = q) w w') : Chg (footR a h q) w w' := hc.sub fun _ e => .inr (.inr e)
theorem RA.ticked (_A : RA w a h q M kk) : Chg (footR a h q) w (w.setCell ⟨a, 2, none⟩ (.int .i64 (M.n + 1))) := ⟨rfl, rfl, rfl, by simp, fun k _ hn => Below.heap_setCell _ _ _ _ (fun e => hn (.inl e))⟩
end
theorem itoa_digR (n : Nat) : itoaB (n : Int) = digS n := by
  unfold itoaB digS Lib.itoa
  rw [if_neg (by omega)]
  rfl
/-- What a call of the document's app leaves. -/
def RDone (w : World) (a h q kk : Nat) (P : ByteArray × MApp) (e : Ending) (w' : World) : Prop := e = .returned (.string P.1) ∧ RA w' a h q P.2 kk ∧ Chg (footR a h q) w w'
end Go.Proofs.YteockodnfempfaaGreatDoor
/- What the document's app does with a payload. Conditions: those named in each theorem. -/
namespace Go.Proofs.YteockodnfempfaaGreatDoor
open Go Go.RowKit Go.Gv Go.Sort Go.Proofs

theorem ret_str {s t : ByteArray} (h : s = t) : Ending.returned (.string s) = Ending.returned (.string t) := by rw [h]
set_option maxRecDepth 100000 in
set_option maxHeartbeats 32000000 in
theorem rexec_any (a h q kk : Nat) (M : MApp) (x : GEntry) (B : Option Addr) (n c : Nat) (ys : List U8) (w : World) (hA : RA w a h q M kk) (hy : Sl U8 w w.heap.size B n ys) (hB : 0 < n → ∀ ad, B = some ad → ¬ footR a h q ad.block) (hn : n ≤ 100000) (hkk : kk ≤ 1000) :
    Calls Tryz.prog 22 #[.pointer (some ⟨a, 0, none⟩), x.val, .slice B n c] w (RDone w a h q (kk + 2) (execA M x.name.client x.time (bytesB ys))) := by
  have hcn := hA.count
  have hb1 : Bel w (w.alloc (.cells (GEntry.enc x).toArray 35)) := (Bel.refl w).alloc _
  have hA1 := hA.bel hb1
  have hg1 := get?_new (w := w) 35 x
  generalize hW1 : w.alloc (.cells (GEntry.enc x).toArray 35) = w1 at hb1 hA1 hg1
  have at2 := hA1.at2
  have z2 : w1.frozen? ⟨a, 2, none⟩ = false := frozen_of_free (a := ⟨a, 2, none⟩) hA1.free
  have e1 : IntKind.i64.wrap (M.n + 1) = M.n + 1 := IntWalk.i64_in _ (by omega)
  have hal := hA.lt
  have hlh := hA.lth
  have HA2 := Lib.hid hA1.tick
  have HC2 := Lib.hid ((Chg.of_bel hb1 (footR a h q)).tr hA1.ticked)
  have HG2 := Lib.hid (show get? GEntry (w1.setCell ⟨a, 2, none⟩ (.int .i64 (M.n + 1))) ⟨w.heap.size, 0, none⟩ = some x from (get?_setCell _ _ (by show w.heap.size ≠ a; omega)).trans hg1)
  have HY := Lib.hid hy; have HB := Lib.hid hB
  obtain ⟨R, hR⟩ : ∃ R, execA M x.name.client x.time (bytesB ys) = R := ⟨_, rfl⟩
  rw [hR]
  have HRR := Lib.hid hR
  clear hg1 hy hB hA hA1 hb1 hR
  go_enter Tryz.func22, Tryz.ntmps22
  go_upto_region 1 with fail
  try rw [hW1]
  go_upto_region 2 with fail
  obtain ⟨be, hbe⟩ : ∃ be, w.heap.size = be := ⟨_, rfl⟩
  rw [hbe] at HG2 hal hlh ⊢
  generalize w1.setCell ⟨a, 2, none⟩ (.int .i64 (M.n + 1)) = w2 at HA2 HC2 HG2 ⊢
  clear hbe at2 z2 e1 hW1
  have at0 := HA2.out.at0
  have ft : w2.cell? ⟨be, 34, none⟩ = some (.int .u64 x.time) := by simpa using cell_off (by omega) (GEntry.at_time HG2.out)
  refine wp_region_G GB [6] GB.rf (by kernel_rfl) ?_
  refine wpG_looks 1 7 [0,1,2,3,4,5] rfl GB.rf GB.tr (by kernel_rfl) (fun _ _ _ _ hd h => And.intro (hd ▸ And.left h) (And.right h)) rfl (by kernel_rfl) ?_
  intro ι W9 hne CW
  have g0 := fun z => GB.cell (CW.out z).undrew at0
  have g1 := fun z => GB.cell (CW.out z).undrew ft
  repeat (refine wpLooksG_step (fun K hK => ?_); go_simp; refine hK _ ?_; clear hK K)
  refine wpLooksG_nil ?_
  clear g0 g1 CW hne W9 ι at0 ft
  refine wpG_force 6 _ rfl (by kernel_rfl) rfl fun wa hwa K hK => ?_
  go_simp
  have hAa := HA2.out.bel hwa.undrew
  obtain ⟨R0, hR0, hT0⟩ := hAa.house
  have hlR : R0.length ≤ 1000000 := by have h1 := hT0.len; have h2 := hAa.good.1; simp only at h1 h2; omega
  refine (rsettle_any h M.house R0 x.time wa hR0 hT0 hlR (fun s hs => by have := (hAa.good.2 _ (mget_in (hT0.get hs))).2; simp only at this; omega)).mono ?_
  rintro _ wb ⟨D, v, rfl, _, _, _, hHb, hgb⟩
  refine hK _ _ (fun h => absurd (by simp) h) ?_
  clear hK K
  refine wpG_end (by kernel_rfl) (fun wn hwn => ?_) _
  have hA3 : RA wn a h q (settleA M x.time) (kk + 1) := (hAa.putHouse (hT0.settle x.time) hHb hgb (hAa.ok.settleH _) (hAa.good.settleH _) (Nat.le_refl _)).bel hwn
  have hC3 : Chg (footR a h q) w wn := ((HC2.out.tr (Chg.of_bel hwa.undrew _)).tr (chg_h hgb)).tr (Chg.of_bel hwn _)
  have hG3 : get? GEntry wn ⟨be, 0, none⟩ = some x := GB.get hwn (hgb.get (GB.get hwa.undrew HG2.out) (by show ¬ be = h; omega))
  have hY3 := Sl.chg hC3 HY.out (fun h0 ad e => HB.out h0 ad e)
  obtain ⟨s, hs⟩ : ∃ s, bytesB ys = s := ⟨_, rfl⟩
  have hsz : s.size = n := by rw [← hs, bytesB_size]; exact HY.out.1
  have hcv := bytes_conv (c := c) hY3
  have HRS := HRR.out
  rw [hs] at hcv HRS
  have HA3 := Lib.hid hA3; have HC3 := Lib.hid hC3; have HG3 := Lib.hid hG3
  clear hA3 hC3 hG3 hY3 hwn hgb hHb hAa hwa hs HA2 HC2 HG2 hR0 hT0 hlR
  go_wp2_with fail
  refine (rsplit_any s wn (by omega)).mono ?_
  rintro _ w5 ⟨v5, rfl, ho5, hb5⟩
  obtain ⟨A, cw, hv5, hsl, hcw, hcm, -⟩ := ho5.shape
  rw [List.length_map] at hv5 hsl hcw
  have hlen1 : 0 < (wordsM s).length := by rw [wordsM_len]; omega
  have HWD := Lib.hid (show ∀ i, (wd (wordsM s) i).size ≤ 100000 from fun i => by have := wd_size s i; omega)
  obtain ⟨W, hWe⟩ : ∃ W, wordsM s = W := ⟨_, rfl⟩
  obtain ⟨M1, hM1⟩ : ∃ M1, settleA M x.time = M1 := ⟨_, rfl⟩
  have HE := Lib.hid (show R = doA M1 W x.name.client x.time by rw [← HRS]; unfold execA; rw [hWe, hM1])
  rw [hM1] at HA3
  rw [hWe] at hsl hlen1 HWD hv5 hcw
  obtain ⟨nw, hnw⟩ : ∃ nw, W.length = nw := ⟨_, rfl⟩
  rw [hnw] at hsl hlen1 hv5 hcw
  have HWA := Lib.hid (show WordsAt w5 A nw W from hsl)
  obtain ⟨ad, rfl, hadb, c0, hcell⟩ := HWA.out.place hlen1
  subst hv5
  have HCL := Lib.hid hcell
  have HA5 := Lib.hid (HA3.out.bel hb5); have HC5 := Lib.hid (HC3.out.tr (Chg.of_bel hb5 _))
  have fc : w5.cell? ⟨be, 0, none⟩ = some (.int .i64 x.name.client) := cell_zero (GName.at_client (by simpa [Addr.add] using GEntry.at_name (GB.get hb5 HG3.out)))
  have ft : w5.cell? ⟨be, 34, none⟩ = some (.int .u64 x.time) := by simpa using cell_off (by omega) (GEntry.at_time (GB.get hb5 HG3.out))
  obtain ⟨who, hwho⟩ : ∃ z, x.name.client = z := ⟨_, rfl⟩
  obtain ⟨now, hnow⟩ : ∃ z, x.time = z := ⟨_, rfl⟩
  rw [hwho] at fc; rw [hnow] at ft
  rw [hwho, hnow] at HE
  have hp0 : (0 : Int) < (nw : Int) := by omega
  obtain ⟨s0, hs0⟩ : ∃ s, wd W 0 = s := ⟨_, rfl⟩
  rw [hs0] at c0
  obtain ⟨b1, hb1⟩ : ∃ b, (s0.toList == [110, 111, 116, 101]) = b := ⟨_, rfl⟩
  obtain ⟨b2, hb2⟩ : ∃ b, (s0.toList == [97, 117, 99, 116, 105, 111, 110]) = b := ⟨_, rfl⟩
  obtain ⟨b3, hb3⟩ : ∃ b, (s0.toList == [98, 105, 100]) = b := ⟨_, rfl⟩
  obtain ⟨b4, hb4⟩ : ∃ b, (s0.toList == [114, 101, 115, 117, 108, 116]) = b := ⟨_, rfl⟩
  obtain ⟨b5, hb5'⟩ : ∃ b, (s0.toList == [114, 101, 115, 101, 114, 118, 101]) = b := ⟨_, rfl⟩
  obtain ⟨b6, hb6⟩ : ∃ b, (s0.toList == [114, 101, 108, 101, 97, 115, 101]) = b := ⟨_, rfl⟩
  obtain ⟨b7, hb7⟩ : ∃ b, (s0.toList == [111, 119, 110, 101, 114]) = b := ⟨_, rfl⟩
  have HD := Lib.hid (show doA M1 W who now = if b1 = true then (toldI 0, M1) else if b2 = true ∧ nw = 5 then openA M1 W now else if b3 = true ∧ nw = 3 then bidA M1 W who now else if nw ≠ 2 then (sErr, M1)
    else if b4 = true then (resultS M1 (wd W 1), M1) else if b5 = true then (toldI (reserveR M1.reg (wd W 1) who), { M1 with reg := reserveQ M1.reg (wd W 1) who })
    else if b6 = true then (toldI (releaseR M1.reg (wd W 1) who), { M1 with reg := releaseQ M1.reg (wd W 1) who }) else if b7 = true then (ownerS M1 (wd W 1), M1) else (sErr, M1) by
    unfold doA
    rw [hs0, hb1, hb2, hb3, hb4, hb5', hb6, hb7, hnw])
  clear hs0 hnw hWe hM1 hwho hnow hsl hcell hb5 HG3 HA3 HC3 hsz HY HB HRS HRR ho5 hcw hcm hadb hlen1 hcn
  cases b1
  · by_cases h5 : nw = 5
    · subst h5
      cases b2
      · skip
        have HV := Lib.hid (HD.out.trans ((if_neg (show ¬ (false = true) by decide)).trans ((if_neg (by simp)).trans ((if_neg (by simp)).trans (if_pos (by decide))))))
        go_wp2_with fail
        go_ret
        rw [HE.out, HV.out]
        exact ⟨rfl, HA5.out.mono (by omega), HC5.out⟩
      · skip
        have HV0 := Lib.hid (HD.out.trans ((if_neg (show ¬ (false = true) by decide)).trans (if_pos ⟨rfl, rfl⟩)))
        clear hb3 hb4 hb5' hb6 hb7
        have c1 := HCL.out 1 (by omega) (by omega)
        have c2 := HCL.out 2 (by omega) (by omega)
        have c3 := HCL.out 3 (by omega) (by omega)
        have c4 := HCL.out 4 (by omega) (by omega)
        have at0 := HA5.out.at0
        have hz1 := HWD.out 1
        have hz3 := HWD.out 3
        have hz4 := HWD.out 4
        have HO := Lib.hid (show openA M1 W now = if (numB (wd W 3) && (numB (wd W 4) && (((wd W 2).toList == [102, 105, 114, 115, 116]) || ((wd W 2).toList == [115, 101, 99, 111, 110, 100])))) = true then (toldI (openR M1.house (wd W 1) (numI (wd W 3)) (numI (wd W 4)) now), { M1 with house := openH M1.house (wd W 1) ((wd W 2).toList == [115, 101, 99, 111, 110, 100]) (numI (wd W 3)) (numI (wd W 4)) now }) else (sErr, M1) from rfl)
        have hi3 := numI_bound (wd W 3); have hi4 := numI_bound (wd W 4)
        have HF3 := Lib.hid (rnumber_any (wd W 3)); have HF4 := Lib.hid (rnumber_any (wd W 4))
        obtain ⟨bf, hbf⟩ : ∃ b, ((wd W 2).toList == [102, 105, 114, 115, 116]) = b := ⟨_, rfl⟩
        obtain ⟨bs, hbs⟩ : ∃ b, ((wd W 2).toList == [115, 101, 99, 111, 110, 100]) = b := ⟨_, rfl⟩
        obtain ⟨n3, hn3⟩ : ∃ n, numI (wd W 3) = n := ⟨_, rfl⟩
        obtain ⟨n4, hn4⟩ : ∃ n, numI (wd W 4) = n := ⟨_, rfl⟩
        obtain ⟨t3, ht3⟩ : ∃ b, numB (wd W 3) = b := ⟨_, rfl⟩
        obtain ⟨t4, ht4⟩ : ∃ b, numB (wd W 4) = b := ⟨_, rfl⟩
        rw [hbf, hbs, hn3, hn4, ht3, ht4] at HO
        rw [hn3] at hi3; rw [hn4] at hi4
        rw [hn3, ht3] at HF3; rw [hn4, ht4] at HF4
        clear hn3 hn4 ht3 ht4
        have hkind : (bf = false ∧ bs = false) ∨ bf = true ∨ (bf = false ∧ bs = true) := by cases bf <;> cases bs <;> simp
        rcases hkind with ⟨rfl, rfl⟩ | hk
        · have HV := Lib.hid (HV0.out.trans (HO.out.trans (if_neg (by simp))))
          go_wp2_with fail
          go_ret
          rw [HE.out, HV.out]
          exact ⟨rfl, HA5.out.mono (by omega), HC5.out⟩
        have hkb : (bf || bs) = true := by rcases hk with rfl | ⟨rfl, rfl⟩ <;> simp
        rw [hkb] at HO
        clear hkb
        have e4 : IntKind.u64.wrap n4 = n4 := IntWalk.u64_in _ (by omega)
        rcases hk with rfl | ⟨rfl, rfl⟩
        all_goals
        go_wp2_with fail
        refine (HF3.out w5 (by unfold maxLen; omega)).mono ?_
        rintro _ w6 ⟨rfl, h6⟩
        obtain rfl : w5 = w6 := h6.symm
        go_wp2_with fail
        refine (HF4.out w5 (by unfold maxLen; omega)).mono ?_
        rintro _ w6 ⟨rfl, h6⟩
        obtain rfl : w5 = w6 := h6.symm
        cases t3
        · have HV := Lib.hid (HV0.out.trans (HO.out.trans (if_neg (by simp))))
          go_wp2_with fail
          go_ret
          rw [HE.out, HV.out]
          exact ⟨rfl, HA5.out.mono (by omega), HC5.out⟩
        cases t4
        · have HV := Lib.hid (HV0.out.trans (HO.out.trans (if_neg (by simp))))
          go_wp2_with fail
          go_ret
          rw [HE.out, HV.out]
          exact ⟨rfl, HA5.out.mono (by omega), HC5.out⟩
        have HV := Lib.hid (HV0.out.trans (HO.out.trans (if_pos (by simp))))
        go_wp2_with fail
        refine wp_region_G GB [16, 17, 18] GB.rf (by kernel_rfl) ?_
        refine wpG_looks 3 19 [0,1,2,3,4,5,6,7,8,9,10,11,12,13,14,15] rfl GB.rf GB.tr (by kernel_rfl) (fun _ _ _ _ hd h => And.intro (hd ▸ And.left h) (And.right h)) rfl (by kernel_rfl) ?_
        intro ι W9 hne CW
        have g0 := fun z => GB.cell (CW.out z).undrew at0
        have g1 := fun z => GB.cell (CW.out z).undrew c1
        have g2 := fun z => GB.cell (CW.out z).undrew c2
        have g3 := fun z => GB.cell (CW.out z).undrew ft
        repeat (refine wpLooksG_step (fun K hK => ?_); go_simp; refine hK _ ?_; clear hK K)
        refine wpLooksG_nil ?_
        clear g0 g1 g2 g3 CW hne W9 ι
        refine wpG_force 16 _ rfl (by kernel_rfl) rfl fun wa hwa K hK => ?_
        go_simp
        have hAa := HA5.out.bel hwa.undrew
        obtain ⟨R0, hR0, hT0⟩ := hAa.house
        refine (ropen_any h M1.house R0 (wd W 1) _ n3 n4 now wa hR0 hT0 (by unfold maxLen; omega) (by rw [hT0.len]; have := hAa.good.1; omega)).mono ?_
        rintro _ wb ⟨rfl, R9, hT9, hR9, hcb⟩
        refine hK _ _ (fun h => absurd (by simp) h) ?_
        clear hK K
        have hAb := hAa.putHouse hT9 hR9 hcb (hAa.ok.openH _ _ _ _ _) (hAa.good.openH _ _ _ _ _) (Nat.le_refl _)
        have hCb := chg_h (a := a) (q := q) hcb
        refine wpG_force 17 _ rfl (by kernel_rfl) rfl fun wc' hwc K hK => ?_
        go_simp
        refine (rtold_is (openR M1.house (wd W 1) n3 n4 now) wc' (openR_range _ _ _ _ _).1 (openR_range _ _ _ _ _).2).mono ?_
        rintro _ wd' ⟨rfl, hbt⟩
        refine hK _ _ (fun h => absurd (by simp) h) ?_
        clear hK K
        refine wpG_force 18 _ rfl (by kernel_rfl) rfl fun we hwe K hK => ?_
        go_simp
        refine hK _ _ (fun h => absurd (by simp) h) ?_
        clear hK K
        refine wpG_end (by kernel_rfl) (fun wn' hwn => ?_) _
        have hbn : Bel wb wn' := GB.tr _ _ _ (GB.tr _ _ _ (GB.tr _ _ _ hwc hbt) hwe) hwn
        have HAN := Lib.hid (hAb.bel hbn)
        have HGN := Lib.hid (((HC5.out.tr (Chg.of_bel hwa.undrew _)).tr hCb).tr (Chg.of_bel hbn (footR a h q)))
        clear hAb hbn hwn hwe hwc hbt hCb hAa hwa
        go_wp2_with fail
        go_ret
        rw [HE.out, HV.out]
        exact ⟨rfl, HAN.out.mono (by omega), HGN.out⟩
    by_cases h3 : nw = 3
    · subst h3
      clear h5
      cases b3
      · skip
        have HV := Lib.hid (HD.out.trans ((if_neg (show ¬ (false = true) by decide)).trans ((if_neg (by simp)).trans ((if_neg (by simp)).trans (if_pos (by decide))))))
        go_wp2_with fail
        go_ret
        rw [HE.out, HV.out]
        exact ⟨rfl, HA5.out.mono (by omega), HC5.out⟩
      · skip
        have HV0 := Lib.hid (HD.out.trans ((if_neg (show ¬ (false = true) by decide)).trans ((if_neg (by simp)).trans (if_pos ⟨rfl, rfl⟩))))
        clear hb2 hb4 hb5' hb6 hb7
        have c1 := HCL.out 1 (by omega) (by omega)
        have c2 := HCL.out 2 (by omega) (by omega)
        have at0 := HA5.out.at0
        have hz2 := HWD.out 2
        obtain ⟨bn, hbn⟩ : ∃ b, numB (wd W 2) = b := ⟨_, rfl⟩
        have HBN := Lib.hid hbn
        clear hbn
        go_wp2_with fail
        refine (rnumber_any (wd W 2) w5 (by unfold maxLen; omega)).mono ?_
        rintro _ w6 ⟨rfl, h6⟩
        obtain rfl : w5 = w6 := h6.symm
        rw [HBN.out]
        cases bn
        · have HV := Lib.hid (HV0.out.trans (show bidA M1 W who now = (sErr, M1) by unfold bidA; rw [HBN.out]; rfl))
          go_wp2_with fail
          go_ret
          rw [HE.out, HV.out]
          exact ⟨rfl, HA5.out.mono (by omega), HC5.out⟩
        have HV := Lib.hid (HV0.out.trans (show bidA M1 W who now = (toldI (bidR M1.house (wd W 1) who (numI (wd W 2)) now), { M1 with house := bidH M1.house (wd W 1) who (numI (wd W 2)) now }) by unfold bidA; rw [HBN.out]; rfl))
        go_wp2_with fail
        refine wp_region_G GB [13, 14, 15] GB.rf (by kernel_rfl) ?_
        refine wpG_looks 3 16 [0,1,2,3,4,5,6,7,8,9,10,11,12] rfl GB.rf GB.tr (by kernel_rfl) (fun _ _ _ _ hd h => And.intro (hd ▸ And.left h) (And.right h)) rfl (by kernel_rfl) ?_
        intro ι W9 hne CW
        have g0 := fun z => GB.cell (CW.out z).undrew at0
        have g1 := fun z => GB.cell (CW.out z).undrew c1
        have g2 := fun z => GB.cell (CW.out z).undrew fc
        have g3 := fun z => GB.cell (CW.out z).undrew ft
        repeat (refine wpLooksG_step (fun K hK => ?_); go_simp; refine hK _ ?_; clear hK K)
        refine wpLooksG_nil ?_
        clear g0 g1 g2 g3 CW hne W9 ι
        refine wpG_force 13 _ rfl (by kernel_rfl) rfl fun wa hwa K hK => ?_
        go_simp
        have hAa := HA5.out.bel hwa.undrew
        obtain ⟨R0, hR0, hT0⟩ := hAa.house
        refine (rbid_any h M1.house R0 (wd W 1) who (numI (wd W 2)) now wa hR0 hT0 (by rw [hT0.len]; have := hAa.good.1; omega) (fun y hy => by have := (hAa.good.2 _ (mget_in hy)).2; simp only at this; omega)).mono ?_
        rintro _ wb ⟨rfl, R9, hT9, hR9, hcb⟩
        refine hK _ _ (fun h => absurd (by simp) h) ?_
        clear hK K
        have hAb := hAa.putHouse hT9 hR9 hcb (hAa.ok.bidH _ _ _ _) (hAa.good.bidH _ _ _ _) (by omega)
        have hCb := chg_h (a := a) (q := q) hcb
        refine wpG_force 14 _ rfl (by kernel_rfl) rfl fun wc' hwc K hK => ?_
        go_simp
        refine (rtold_is (bidR M1.house (wd W 1) who (numI (wd W 2)) now) wc' (bidR_range _ _ _ _ _).1 (bidR_range _ _ _ _ _).2).mono ?_
        rintro _ wd' ⟨rfl, hbt⟩
        refine hK _ _ (fun h => absurd (by simp) h) ?_
        clear hK K
        refine wpG_force 15 _ rfl (by kernel_rfl) rfl fun we hwe K hK => ?_
        go_simp
        refine hK _ _ (fun h => absurd (by simp) h) ?_
        clear hK K
        refine wpG_end (by kernel_rfl) (fun wn' hwn => ?_) _
        have hbn : Bel wb wn' := GB.tr _ _ _ (GB.tr _ _ _ (GB.tr _ _ _ hwc hbt) hwe) hwn
        have HAN := Lib.hid (hAb.bel hbn)
        have HGN := Lib.hid (((HC5.out.tr (Chg.of_bel hwa.undrew _)).tr hCb).tr (Chg.of_bel hbn (footR a h q)))
        clear hAb hbn hwn hwe hwc hbt hCb hAa hwa
        go_wp2_with fail
        go_ret
        rw [HE.out, HV.out]
        exact ⟨rfl, HAN.out.mono (by omega), HGN.out⟩
    by_cases h2 : nw = 2
    · subst h2
      clear h5 h3
      clear hb2 hb3
      have c1 := HCL.out 1 (by omega) (by omega)
      have at0 := HA5.out.at0
      have at1 := HA5.out.at1
      have hz1 := HWD.out 1
      cases b4
      · cases b5
        · cases b6
          · cases b7
            · skip
              have HV := Lib.hid (HD.out.trans ((if_neg (show ¬ (false = true) by decide)).trans ((if_neg (by simp)).trans ((if_neg (by simp)).trans ((if_neg (by decide)).trans ((if_neg (show ¬ (false = true) by decide)).trans ((if_neg (show ¬ (false = true) by decide)).trans ((if_neg (show ¬ (false = true) by decide)).trans (if_neg (show ¬ (false = true) by decide))))))))))
              go_wp2_with fail
              go_ret
              rw [HE.out, HV.out]
              exact ⟨rfl, HA5.out.mono (by omega), HC5.out⟩
            · skip
              have HV0 := Lib.hid (HD.out.trans ((if_neg (show ¬ (false = true) by decide)).trans ((if_neg (by simp)).trans ((if_neg (by simp)).trans ((if_neg (by decide)).trans ((if_neg (show ¬ (false = true) by decide)).trans ((if_neg (show ¬ (false = true) by decide)).trans ((if_neg (show ¬ (false = true) by decide)).trans (if_pos rfl)))))))))
              obtain ⟨L0, hL0, hQ0⟩ := HA5.out.reg
              have hlL : L0.length ≤ 1000000 := by rw [hQ0.len]; have := HA5.out.regs.1; omega
              have HL0 := Lib.hid hL0; have HQ0 := Lib.hid hQ0
              obtain ⟨om, hom⟩ : ∃ o, mget M1.reg (wd W 1) = o := ⟨_, rfl⟩
              have HOM := Lib.hid hom
              clear hL0 hQ0
              go_wp2_with fail
              refine wp_region_G GB [] GB.rf (by kernel_rfl) ?_
              refine wpG_looks 0 13 [0,1,2,3,4,5,6,7,8,9,10,11,12] rfl GB.rf GB.tr (by kernel_rfl) (fun _ _ _ _ hd h => And.intro (hd ▸ And.left h) (And.right h)) rfl (by kernel_rfl) ?_
              intro ι W9 hne CW
              have g0 := fun z => GB.cell (CW.out z).undrew at1
              have g1 := fun z => GB.cell (CW.out z).undrew c1
              refine wpLooksG_step (fun K hK => ?_); go_simp; refine hK _ ?_; clear hK K
              refine wpLooksG_step (fun K hK => ?_); go_simp; refine hK _ ?_; clear hK K
              refine wpLooksG_step (fun K hK => ?_); go_simp; refine hK _ ?_; clear hK K
              refine wpLooksG_step (fun K hK => ?_); go_simp; refine hK _ ?_; clear hK K
              refine wpLooksG_step (fun K hK => ?_); go_simp; refine hK _ ?_; clear hK K
              refine wpLooksG_step (fun K hK => ?_); go_simp; refine hK _ ?_; clear hK K
              refine wpLooksG_step (fun K hK => ?_); go_simp; refine hK _ ?_; clear hK K
              refine wpLooksG_step (fun K hK => ?_); go_simp
              refine ⟨_, fun z => (rowner_any q M1.reg L0 (wd W 1) (W9 z) (HL0.out.bel (CW.out z).undrew) HQ0.out hlL).mono fun e w' h => ⟨h.1, h.2 ▸ Bel.refl _⟩, hK _ ?_⟩
              clear hK K
              rw [hom]
              repeat (refine wpLooksG_step (fun K hK => ?_); go_simp; refine hK _ ?_; clear hK K)
              refine wpLooksG_nil ?_
              clear g0 g1 CW hne W9 ι
              refine wpG_end (by kernel_rfl) (fun wn' hwn => ?_) _
              have HAN := Lib.hid (HA5.out.bel hwn.undrew)
              have HGN := Lib.hid (HC5.out.tr (Chg.of_bel hwn.undrew (footR a h q)))
              clear hwn
              cases om with
              | none =>
                have HV := Lib.hid (HV0.out.trans (show (ownerS M1 (wd W 1), M1) = (⟨#[110, 111, 110, 101]⟩, M1) by unfold ownerS; rw [HOM.out]))
                clear hom
                go_wp2_with fail
                go_ret
                rw [HE.out, HV.out]
                exact ⟨rfl, HAN.out.mono (by omega), HGN.out⟩
              | some who2 =>
                have hwr := HA5.out.regs.2 _ (mget_inR HOM.out)
                obtain ⟨wn2, rfl⟩ := Int.eq_ofNat_of_zero_le hwr.1
                have hw9 : wn2 < 100 := by have := hwr.2; simp only at this; omega
                have HV := Lib.hid (HV0.out.trans (show (ownerS M1 (wd W 1), M1) = (itoaB (wn2 : Int), M1) by unfold ownerS; rw [HOM.out]))
                clear hom hwr
                go_wp2_with fail
                refine (digits_any wn2 _ (by omega)).mono ?_
                rintro _ w7 ⟨rfl, hb7'⟩
                have HAN7 := Lib.hid (HAN.out.bel hb7')
                have HGN7 := Lib.hid (HGN.out.tr (Chg.of_bel hb7' (footR a h q)))
                clear hb7'
                go_wp2_with fail
                go_ret
                rw [HE.out, HV.out]
                exact ⟨ret_str (itoa_digR wn2).symm, HAN7.out.mono (by omega), HGN7.out⟩
          · skip
            have HV := Lib.hid (HD.out.trans ((if_neg (show ¬ (false = true) by decide)).trans ((if_neg (by simp)).trans ((if_neg (by simp)).trans ((if_neg (by decide)).trans ((if_neg (show ¬ (false = true) by decide)).trans ((if_neg (show ¬ (false = true) by decide)).trans (if_pos rfl))))))))
            go_wp2_with fail
            refine wp_region_G GB [10, 11, 12] GB.rf (by kernel_rfl) ?_
            refine wpG_looks 3 13 [0,1,2,3,4,5,6,7,8,9] rfl GB.rf GB.tr (by kernel_rfl) (fun _ _ _ _ hd h => And.intro (hd ▸ And.left h) (And.right h)) rfl (by kernel_rfl) ?_
            intro ι W9 hne CW
            have g0 := fun z => GB.cell (CW.out z).undrew at1
            have g1 := fun z => GB.cell (CW.out z).undrew c1
            have g2 := fun z => GB.cell (CW.out z).undrew fc
            repeat (refine wpLooksG_step (fun K hK => ?_); go_simp; refine hK _ ?_; clear hK K)
            refine wpLooksG_nil ?_
            clear g0 g1 g2 CW hne W9 ι
            refine wpG_force 10 _ rfl (by kernel_rfl) rfl fun wa hwa K hK => ?_
            go_simp
            have hAa := HA5.out.bel hwa.undrew
            obtain ⟨L0, hL0, hQ0⟩ := hAa.reg
            refine (rrelease_any q M1.reg L0 (wd W 1) who wa hL0 hQ0 (by unfold maxLen; omega) (by rw [hQ0.len]; have := hAa.regs.1; omega)).mono ?_
            rintro _ wb ⟨rfl, L9, hT9, hR9, hcb⟩
            refine hK _ _ (fun h => absurd (by simp) h) ?_
            clear hK K
            have hAb := hAa.putReg hT9 hR9 hcb (hAa.regs.release _ _)
            have hCb := chg_q (a := a) (h := h) hcb
            refine wpG_force 11 _ rfl (by kernel_rfl) rfl fun wc' hwc K hK => ?_
            go_simp
            refine (rtold_is (releaseR M1.reg (wd W 1) who) wc' (releaseR_range _ _ _).1 (releaseR_range _ _ _).2).mono ?_
            rintro _ wd' ⟨rfl, hbt⟩
            refine hK _ _ (fun h => absurd (by simp) h) ?_
            clear hK K
            refine wpG_force 12 _ rfl (by kernel_rfl) rfl fun we hwe K hK => ?_
            go_simp
            refine hK _ _ (fun h => absurd (by simp) h) ?_
            clear hK K
            refine wpG_end (by kernel_rfl) (fun wn' hwn => ?_) _
            have hbn : Bel wb wn' := GB.tr _ _ _ (GB.tr _ _ _ (GB.tr _ _ _ hwc hbt) hwe) hwn
            have HAN := Lib.hid (hAb.bel hbn)
            have HGN := Lib.hid (((HC5.out.tr (Chg.of_bel hwa.undrew _)).tr hCb).tr (Chg.of_bel hbn (footR a h q)))
            clear hAb hbn hwn hwe hwc hbt hCb hAa hwa
            go_wp2_with fail
            go_ret
            rw [HE.out, HV.out]
            exact ⟨rfl, HAN.out.mono (by omega), HGN.out⟩
        · skip
          have HV := Lib.hid (HD.out.trans ((if_neg (show ¬ (false = true) by decide)).trans ((if_neg (by simp)).trans ((if_neg (by simp)).trans ((if_neg (by decide)).trans ((if_neg (show ¬ (false = true) by decide)).trans (if_pos rfl)))))))
          go_wp2_with fail
          refine wp_region_G GB [10, 11, 12] GB.rf (by kernel_rfl) ?_
          refine wpG_looks 3 13 [0,1,2,3,4,5,6,7,8,9] rfl GB.rf GB.tr (by kernel_rfl) (fun _ _ _ _ hd h => And.intro (hd ▸ And.left h) (And.right h)) rfl (by kernel_rfl) ?_
          intro ι W9 hne CW
          have g0 := fun z => GB.cell (CW.out z).undrew at1
          have g1 := fun z => GB.cell (CW.out z).undrew c1
          have g2 := fun z => GB.cell (CW.out z).undrew fc
          repeat (refine wpLooksG_step (fun K hK => ?_); go_simp; refine hK _ ?_; clear hK K)
          refine wpLooksG_nil ?_
          clear g0 g1 g2 CW hne W9 ι
          refine wpG_force 10 _ rfl (by kernel_rfl) rfl fun wa hwa K hK => ?_
          go_simp
          have hAa := HA5.out.bel hwa.undrew
          obtain ⟨L0, hL0, hQ0⟩ := hAa.reg
          refine (rreserve_any q M1.reg L0 (wd W 1) who wa hL0 hQ0 (by unfold maxLen; omega) (by rw [hQ0.len]; have := hAa.regs.1; omega)).mono ?_
          rintro _ wb ⟨rfl, L9, hT9, hR9, hcb⟩
          refine hK _ _ (fun h => absurd (by simp) h) ?_
          clear hK K
          have hAb := hAa.putReg hT9 hR9 hcb (hAa.regs.reserve _ _)
          have hCb := chg_q (a := a) (h := h) hcb
          refine wpG_force 11 _ rfl (by kernel_rfl) rfl fun wc' hwc K hK => ?_
          go_simp
          refine (rtold_is (reserveR M1.reg (wd W 1) who) wc' (reserveR_range _ _ _).1 (reserveR_range _ _ _).2).mono ?_
          rintro _ wd' ⟨rfl, hbt⟩
          refine hK _ _ (fun h => absurd (by simp) h) ?_
          clear hK K
          refine wpG_force 12 _ rfl (by kernel_rfl) rfl fun we hwe K hK => ?_
          go_simp
          refine hK _ _ (fun h => absurd (by simp) h) ?_
          clear hK K
          refine wpG_end (by kernel_rfl) (fun wn' hwn => ?_) _
          have hbn : Bel wb wn' := GB.tr _ _ _ (GB.tr _ _ _ (GB.tr _ _ _ hwc hbt) hwe) hwn
          have HAN := Lib.hid (hAb.bel hbn)
          have HGN := Lib.hid (((HC5.out.tr (Chg.of_bel hwa.undrew _)).tr hCb).tr (Chg.of_bel hbn (footR a h q)))
          clear hAb hbn hwn hwe hwc hbt hCb hAa hwa
          go_wp2_with fail
          go_ret
          rw [HE.out, HV.out]
          exact ⟨rfl, HAN.out.mono (by omega), HGN.out⟩
      · skip
        have HV0 := Lib.hid (HD.out.trans ((if_neg (show ¬ (false = true) by decide)).trans ((if_neg (by simp)).trans ((if_neg (by simp)).trans ((if_neg (by decide)).trans (if_pos rfl))))))
        obtain ⟨R0, hR0, hT0⟩ := HA5.out.house
        have hlR : R0.length ≤ 1000000 := by rw [hT0.len]; have := HA5.out.good.1; omega
        have HR0 := Lib.hid hR0; have HT0 := Lib.hid hT0
        have hok := resultR_ok HA5.out.ok (wd W 1)
        have hrg := resultR_range M1.house (wd W 1)
        obtain ⟨y, hy⟩ : ∃ y, (resultR M1.house (wd W 1)).1 = y := ⟨_, rfl⟩
        obtain ⟨ey, hey⟩ : ∃ e, (resultR M1.house (wd W 1)).2 = e := ⟨_, rfl⟩
        have HRS := Lib.hid (show resultS M1 (wd W 1) = if ey = 0 then if y.winner < 0 then ⟨#[110, 111, 98, 111, 100, 121]⟩ else wonB y else toldI ey by unfold resultS; rw [hy, hey])
        rw [hy] at hok
        rw [hey] at hrg
        have HCALL := Lib.hid (show ∀ wx, Bel w5 wx → Calls Tryz.prog 54 #[.pointer (some ⟨h, 0, none⟩), .string (wd W 1)] wx fun e w' => e = .returned (.tuple #[(rr y).val, .int .i64 ey]) ∧ Bel wx w' from fun wx hb => by
          have := rresult_any h M1.house R0 (wd W 1) wx (HR0.out.bel hb) HT0.out hlR
          rw [hy, hey] at this
          exact this)
        clear hR0 hT0 hlR hy hey
        go_upto_region 16 with fail
        go_cut [14, 15] (fun v e wx => ∃ b, v = .pointer (some ⟨b, 0, none⟩) ∧ e = .int .i64 ey ∧ get? GRef15Result wx ⟨b, 0, none⟩ = some (rr y) ∧ Bel w5 wx)
        case first =>
          refine wp_region_G GB [12] GB.rf (by kernel_rfl) ?_
          refine wpG_looks 4 14 [0,1,2,3,4,5,6,7,8,9] rfl GB.rf GB.tr (by kernel_rfl) (fun _ _ _ _ hd h => And.intro (hd ▸ And.left h) (And.right h)) rfl (by kernel_rfl) ?_
          intro ι W9 hne CW
          have g0 := fun z => GB.cell (CW.out z).undrew at0
          have g1 := fun z => GB.cell (CW.out z).undrew c1
          refine wpLooksG_step (fun K hK => ?_); go_simp; refine hK _ ?_; clear hK K
          refine wpLooksG_step (fun K hK => ?_); go_simp; refine hK _ ?_; clear hK K
          refine wpLooksG_step (fun K hK => ?_); go_simp; refine hK _ ?_; clear hK K
          refine wpLooksG_step (fun K hK => ?_); go_simp; refine hK _ ?_; clear hK K
          refine wpLooksG_step (fun K hK => ?_); go_simp; refine hK _ ?_; clear hK K
          refine wpLooksG_step (fun K hK => ?_); go_simp; refine hK _ ?_; clear hK K
          refine wpLooksG_step (fun K hK => ?_); go_simp; refine hK _ ?_; clear hK K
          refine wpLooksG_step (fun K hK => ?_); go_simp
          refine ⟨_, fun z => HCALL.out (W9 z) (CW.out z).undrew, hK _ ?_⟩
          clear hK K
          repeat (refine wpLooksG_step (fun K hK => ?_); go_simp; refine hK _ ?_; clear hK K)
          refine wpLooksG_nil ?_
          clear g0 g1 CW hne W9 ι
          refine wpG_two 10 11 _ _ rfl rfl (by kernel_rfl) rfl rfl ?_ ?_
          · intro wa hwa K hK
            have hba : Bel w5 wa := hwa.undrew
            go_simp
            refine hK _ _ (fun _ => GB.rf _) ?_
            clear hK K
            refine wpG_new 11 12 _ _ rfl rfl (by kernel_rfl) (by kernel_rfl) rfl rfl (by kernel_rfl) _ _ rfl rfl default (rr y) al_GRef15Result sz94 (fun _ => rfl) (fun _ => GRef15Result.val_eq _) GB.al GB.bel ?_
            intro ge wc' wd' hwc hge hcd hgb hgel
            clear hge
            refine wpG_force 13 _ rfl (by kernel_rfl) rfl fun we hwe K hK => ?_
            go_simp
            refine hK _ _ (fun _ => GB.rf _) ?_
            clear hK K
            refine wpG_end (by kernel_rfl) (fun wn' hwn => ?_) _
            have HX := Lib.hid (show get? GRef15Result wn' ⟨ge, 0, none⟩ = some (rr y) ∧ Bel w5 wn' from ⟨GB.get (GB.tr _ _ _ hwe hwn) hgb, (hba.trans (Bel.trans hwc hcd)).trans (GB.tr _ _ _ hwe hwn)⟩)
            clear hwa hba hwc hcd hgb hgel hwe hwn
            go_wp2_with fail
            go_meet
            exact ⟨ge, rfl, rfl, HX.out⟩
          · intro wa hwa K hK
            have hba : Bel w5 wa := hwa.undrew
            go_simp
            refine hK _ _ (fun _ => GB.al _ _) ?_
            clear hK K
            have hg0 : get? GRef15Result (wa.alloc (.cells (GRef15Result.enc default).toArray 94)) ⟨wa.heap.size, 0, none⟩ = some default := get?_new _ _
            have hf0 : blkFree (wa.alloc (.cells (GRef15Result.enc default).toArray 94)) wa.heap.size = true := blkFree_new _ _ rfl
            have hb0 : Bel w5 (wa.alloc (.cells (GRef15Result.enc default).toArray 94)) := hba.alloc _
            have hz0 : w5.heap.size ≤ wa.heap.size := hba.size
            have hs0 : wa.heap.size < (wa.alloc (.cells (GRef15Result.enc default).toArray 94)).heap.size := by simp
            generalize wa.alloc (.cells (GRef15Result.enc default).toArray 94) = wA at hg0 hf0 hb0 hs0 ⊢
            obtain ⟨ge, hge⟩ : ∃ ge, wa.heap.size = ge := ⟨_, rfl⟩
            rw [hge] at hg0 hf0 hz0 hs0 ⊢
            clear hge hba hwa
            refine wpG_two 10 12 _ _ rfl rfl (by kernel_rfl) rfl rfl ?_ ?_
            · intro wc' hwc K hK
              go_simp
              refine hK _ _ (fun _ => GB.rf _) ?_
              clear hK K
              refine wpG_force 12 _ rfl (by kernel_rfl) rfl fun wd' hwd K hK => ?_
              have hbd : Bel wA wd' := GB.tr _ _ _ hwc hwd
              have k2 := GB.get hbd hg0
              have k3 : blkFree wd' (⟨ge, 0, none⟩ : Addr).block = true := (blkFree_keep (Below.block hbd ge hs0)).trans hf0
              have hput := get?_put (rr y) k2
              have hbp : Bel w5 (World.putCells wd' ⟨ge, 0, none⟩ (GRef15Result.enc (rr y))) := Below_putCells (a := ⟨ge, 0, none⟩) (hb0.trans hbd) hz0 _
              go_simp
              refine hK _ _ (fun h => absurd (by simp) h) ?_
              clear hK K k2 k3 hbd hwd hwc
              change get? GRef15Result (World.putCells wd' ⟨ge, 0, none⟩ (GRef15Result.enc (rr y))) ⟨ge, 0, none⟩ = some (rr y) at hput
              generalize World.putCells wd' ⟨ge, 0, none⟩ (GRef15Result.enc (rr y)) = wP at hput hbp ⊢
              refine wpG_force 13 _ rfl (by kernel_rfl) rfl fun we hwe K hK => ?_
              go_simp
              refine hK _ _ (fun _ => GB.rf _) ?_
              clear hK K
              refine wpG_end (by kernel_rfl) (fun wn' hwn => ?_) _
              have HX := Lib.hid (show get? GRef15Result wn' ⟨ge, 0, none⟩ = some (rr y) ∧ Bel w5 wn' from ⟨GB.get (GB.tr _ _ _ hwe hwn) hput, hbp.trans (GB.tr _ _ _ hwe hwn)⟩)
              clear hput hbp hwe hwn hg0 hf0 hb0 hs0 hz0
              go_wp2_with fail
              go_meet
              exact ⟨ge, rfl, rfl, HX.out⟩
            · intro wd' hwd K hK
              have hbd : Bel wA wd' := hwd
              have k2 := GB.get hbd hg0
              have k3 : blkFree wd' (⟨ge, 0, none⟩ : Addr).block = true := (blkFree_keep (Below.block hbd ge hs0)).trans hf0
              have hput := get?_put (rr y) k2
              have hbp : Bel w5 (World.putCells wd' ⟨ge, 0, none⟩ (GRef15Result.enc (rr y))) := Below_putCells (a := ⟨ge, 0, none⟩) (hb0.trans hbd) hz0 _
              go_simp
              refine hK _ _ (fun h => absurd (by simp) h) ?_
              clear hK K k2 k3 hbd hwd
              change get? GRef15Result (World.putCells wd' ⟨ge, 0, none⟩ (GRef15Result.enc (rr y))) ⟨ge, 0, none⟩ = some (rr y) at hput
              generalize World.putCells wd' ⟨ge, 0, none⟩ (GRef15Result.enc (rr y)) = wP at hput hbp ⊢
              refine wpG_force 10 _ rfl (by kernel_rfl) rfl fun wc' hwc K hK => ?_
              go_simp
              refine hK _ _ (fun _ => GB.rf _) ?_
              clear hK K
              refine wpG_force 13 _ rfl (by kernel_rfl) rfl fun we hwe K hK => ?_
              go_simp
              refine hK _ _ (fun _ => GB.rf _) ?_
              clear hK K
              refine wpG_end (by kernel_rfl) (fun wn' hwn => ?_) _
              have hbz : Bel wP wn' := GB.tr _ _ _ (GB.tr _ _ _ hwc hwe) hwn
              have HX := Lib.hid (show get? GRef15Result wn' ⟨ge, 0, none⟩ = some (rr y) ∧ Bel w5 wn' from ⟨GB.get hbz hput, hbp.trans hbz⟩)
              clear hput hbp hwe hwn hwc hbz hg0 hf0 hb0 hs0 hz0
              go_wp2_with fail
              go_meet
              exact ⟨ge, rfl, rfl, HX.out⟩
        case rest =>
        obtain ⟨ge, rfl, rfl, hgr, hbr⟩ := hcut
        obtain ⟨wx, rfl⟩ : ∃ w', w' = wc := ⟨_, rfl⟩
        have HAN := Lib.hid (HA5.out.bel hbr)
        have HGN := Lib.hid (HC5.out.tr (Chg.of_bel hbr (footR a h q)))
        have f1 : wx.cell? ⟨ge, 1, none⟩ = some (.int .i64 y.winner) := by have := cell_off (by omega) (GRef15Result.at_winner hgr); simpa [rr] using this
        have f2 : wx.cell? ⟨ge, 2, none⟩ = some (.int .i64 y.price) := by have := cell_off (by omega) (GRef15Result.at_price hgr); simpa [rr] using this
        clear hgr hbr
        by_cases he : ey = 0
        · subst he
          by_cases hwn0 : y.winner < 0
          · have HV := Lib.hid (HV0.out.trans (show (resultS M1 (wd W 1), M1) = (⟨#[110, 111, 98, 111, 100, 121]⟩, M1) by rw [HRS.out, if_pos rfl, if_pos hwn0]))
            go_wp2_with fail
            go_ret
            rw [HE.out, HV.out]
            exact ⟨rfl, HAN.out.mono (by omega), HGN.out⟩
          · have HV := Lib.hid (HV0.out.trans (show (resultS M1 (wd W 1), M1) = (wonB y, M1) by rw [HRS.out, if_pos rfl, if_neg hwn0]))
            obtain ⟨yw, hyw⟩ := Int.eq_ofNat_of_zero_le (show 0 ≤ y.winner by omega)
            obtain ⟨yp, hyp⟩ := Int.eq_ofNat_of_zero_le hok.2.1
            have HWB := Lib.hid (show wonB y = ⟨#[119, 111, 110, 32]⟩ ++ digS yw ++ ⟨#[32]⟩ ++ digS yp by unfold wonB; rw [hyw, hyp, itoa_digR, itoa_digR])
            have y1 : yw ≤ 1125899906842624 := by omega
            have y2 : yp ≤ 1125899906842624 := by omega
            rw [hyw] at f1 hwn0; rw [hyp] at f2
            have z1 := digS_size yw; have z2 := digS_size yp
            have HDW := Lib.hid (digits_any yw); have HDP := Lib.hid (digits_any yp)
            obtain ⟨sa, hsa⟩ : ∃ s, digS yw = s := ⟨_, rfl⟩
            obtain ⟨sb, hsb⟩ : ∃ s, digS yp = s := ⟨_, rfl⟩
            rw [hsa] at z1 HDW HWB; rw [hsb] at z2 HDP HWB
            have q1 : ¬ 9223372036854775807 < 4 + sa.size := by omega
            have q2 : ¬ 9223372036854775807 < 4 + sa.size + 1 := by omega
            have q3 : ¬ 9223372036854775807 < 4 + sa.size + 1 + sb.size := by omega
            have hwn1 : (0 : Int) ≤ (yw : Int) := by omega
            clear hsa hsb hyw hyp hok
            go_wp2_with fail
            refine wp_region_G GB [] GB.rf (by kernel_rfl) ?_
            refine wpG_looks 0 10 [0,1,2,3,4,5,6,7,8,9] rfl GB.rf GB.tr (by kernel_rfl) (fun _ _ _ _ hd h => And.intro (hd ▸ And.left h) (And.right h)) rfl (by kernel_rfl) ?_
            intro ι W9 hne CW
            have g1 := fun z => GB.cell (CW.out z).undrew f1
            have g2 := fun z => GB.cell (CW.out z).undrew f2
            refine wpLooksG_step (fun K hK => ?_); go_simp; refine hK _ ?_; clear hK K
            refine wpLooksG_step (fun K hK => ?_); go_simp; refine hK _ ?_; clear hK K
            refine wpLooksG_step (fun K hK => ?_); go_simp
            refine ⟨_, fun z => HDW.out (W9 z) y1, hK _ ?_⟩
            clear hK K
            refine wpLooksG_step (fun K hK => ?_); go_simp; refine hK _ ?_; clear hK K
            refine wpLooksG_step (fun K hK => ?_); go_simp; refine hK _ ?_; clear hK K
            refine wpLooksG_step (fun K hK => ?_); go_simp; refine hK _ ?_; clear hK K
            refine wpLooksG_step (fun K hK => ?_); go_simp; refine hK _ ?_; clear hK K
            refine wpLooksG_step (fun K hK => ?_); go_simp
            refine ⟨_, fun z => HDP.out (W9 z) y2, hK _ ?_⟩
            clear hK K
            repeat (refine wpLooksG_step (fun K hK => ?_); go_simp; refine hK _ ?_; clear hK K)
            refine wpLooksG_nil ?_
            clear g1 g2 CW hne W9 ι
            refine wpG_end (by kernel_rfl) (fun wn' hwn => ?_) _
            have HAN2 := Lib.hid (HAN.out.bel hwn.undrew)
            have HGN2 := Lib.hid (HGN.out.tr (Chg.of_bel hwn.undrew (footR a h q)))
            clear hwn
            go_wp2_with fail
            go_ret
            rw [HE.out, HV.out]
            exact ⟨ret_str (by rw [HWB.out]), HAN2.out.mono (by omega), HGN2.out⟩
        · have HV := Lib.hid (HV0.out.trans (show (resultS M1 (wd W 1), M1) = (toldI ey, M1) by rw [HRS.out, if_neg he]))
          have he2 : (ey == 0) = false := by simpa using he
          go_wp2_with fail
          refine (rtold_is ey wx hrg.1 hrg.2).mono ?_
          rintro _ w7 ⟨rfl, hb7'⟩
          have HAN7 := Lib.hid (HAN.out.bel hb7')
          have HGN7 := Lib.hid (HGN.out.tr (Chg.of_bel hb7' (footR a h q)))
          clear hb7'
          go_wp2_with fail
          go_ret
          rw [HE.out, HV.out]
          exact ⟨rfl, HAN7.out.mono (by omega), HGN7.out⟩
    have h5b : ((nw : Int) == 5) = false := by rw [beq_eq_false_iff_ne]; omega
    have h3b : ((nw : Int) == 3) = false := by rw [beq_eq_false_iff_ne]; omega
    have h2b : ((nw : Int) == 2) = false := by rw [beq_eq_false_iff_ne]; omega
    have HV := Lib.hid (HD.out.trans ((if_neg (show ¬ (false = true) by decide)).trans ((if_neg (fun e => h5 e.2)).trans ((if_neg (fun e => h3 e.2)).trans (if_pos h2)))))
    clear h5 h3 h2
    go_wp2_with fail
    go_ret
    rw [HE.out, HV.out]
    exact ⟨rfl, HA5.out.mono (by omega), HC5.out⟩
  · have HV := Lib.hid (HD.out.trans (if_pos rfl))
    go_wp2_with fail
    go_ret
    rw [HE.out, HV.out]
    exact ⟨ret_str (show (⟨#[111, 107]⟩ : ByteArray) = toldI 0 by decide +kernel), HA5.out.mono (by omega), HC5.out⟩
end Go.Proofs.YteockodnfempfaaGreatDoor
