/- Two apps side by side. Conditions: those named in each theorem. -/
import Derived.Test.YteockodnfempfaaGreatDoorP8
import Derived.Test.YteockodnfempfaaGreatDoorP3
import Derived.Deep.CutBlock
import Derived.Lib.SlBytesConst
import Derived.Test.YteockodnfempfaaGreatDoorP4
/- Acts to apps: entries, the example of the document. Conditions: those named in each theorem. -/
namespace Go.Proofs.YteockodnfempfaaGreatDoor
open Go Go.RowKit Go.Gv Go.Sort Go.Proofs

def timeV (t : Int) : Int := if t % 9 = 8 then t else t % 60
def entryV (x : GLaw19Act) : GEntry := ⟨⟨within x.client 4, 1⟩, default, timeV x.time⟩
def FitA (x : GLaw19Act) : Prop := (-9223372036854775808 ≤ x.client ∧ x.client ≤ 9223372036854775807) ∧ (0 ≤ x.time ∧ x.time ≤ 18446744073709551615) ∧ x.payload.size ≤ maxLen
theorem actA_cells {w : World} {g : Nat} {x : GLaw19Act} (h : get? GLaw19Act w ⟨g, 0, none⟩ = some x) :
    w.cell? ⟨g, 0, none⟩ = some (.int .i64 x.client) ∧ w.cell? ⟨g, 1, none⟩ = some (.int .u64 x.time) ∧ w.cell? ⟨g, 2, none⟩ = some (.string x.payload) ∧ w.cell? ⟨g, 3, none⟩ = some (.bool x.bury) :=
  ⟨cell_zero (GLaw19Act.at_client h), by simpa using cell_off (by omega) (GLaw19Act.at_time h), by simpa using cell_off (by omega) (GLaw19Act.at_payload h), by simpa using cell_off (by omega) (GLaw19Act.at_bury h)⟩
set_option maxRecDepth 100000 in
set_option maxHeartbeats 1000000 in
theorem entry_any (x : GLaw19Act) (w : World) (hx : FitA x) :
    Calls Tryz.prog 11 #[x.val] w fun e w' => e = .returned ((entryV x).val) ∧ Bel w w' := by
  obtain ⟨⟨hc1, hc2⟩, ⟨ht1, ht2⟩, _⟩ := hx
  obtain ⟨q, hq, hq0, hq1⟩ : ∃ q, within x.client 4 = q ∧ 0 ≤ q ∧ q < 4 := by
    refine ⟨_, rfl, ?_, ?_⟩ <;> unfold within <;> rw [if_neg (by omega)]
    · exact Int.emod_nonneg _ (by omega)
    · exact Int.emod_lt_of_pos _ (by omega)
  have HQ := Lib.hid hq
  obtain ⟨tv, htv⟩ : ∃ t, timeV x.time = t := ⟨_, rfl⟩
  have HTV := Lib.hid htv
  have HE := Lib.hid (show entryV x = ⟨⟨q, 1⟩, default, tv⟩ by unfold entryV; rw [hq, htv])
  have hb := ((Bel.refl w).alloc (.cells (GLaw19Act.enc x).toArray 28)).alloc (.cells (GEntry.enc default).toArray 35)
  have hg1 := get?_alloc (.cells (GEntry.enc default).toArray 35) (get?_new (w := w) 28 x)
  have hg2 := get?_new (w := w.alloc (.cells (GLaw19Act.enc x).toArray 28)) 35 (default : GEntry)
  have hf2 : blkFree ((w.alloc (.cells (GLaw19Act.enc x).toArray 28)).alloc (.cells (GEntry.enc default).toArray 35)) (w.alloc (.cells (GLaw19Act.enc x).toArray 28)).heap.size = true := blkFree_new _ _ rfl
  rw [show (w.alloc (.cells (GLaw19Act.enc x).toArray 28)).heap.size = w.heap.size + 1 by simp] at hg2 hf2
  have HG1 := Lib.hid hg1; have HG2 := Lib.hid hg2; have HB := Lib.hid hb; have HF2 := Lib.hid hf2
  clear hg1 hg2 hb hq htv hf2
  go_enter Tryz.func11, Tryz.ntmps11
  go_upto_region 1 with fail
  change Hid (get? GLaw19Act ((w.alloc (.cells (GLaw19Act.enc x).toArray 28)).alloc (.cells (GEntry.enc default).toArray 35)) ⟨w.heap.size, 0, none⟩ = some x) at HG1
  change Hid (get? GEntry ((w.alloc (.cells (GLaw19Act.enc x).toArray 28)).alloc (.cells (GEntry.enc default).toArray 35)) ⟨w.heap.size + 1, 0, none⟩ = some default) at HG2
  obtain ⟨b0, hb0⟩ : ∃ b, w.heap.size = b := ⟨_, rfl⟩
  rw [hb0] at HG1 HG2 HF2 ⊢
  generalize (w.alloc (.cells (GLaw19Act.enc x).toArray 28)).alloc (.cells (GEntry.enc default).toArray 35) = w2 at HG1 HG2 HB HF2 ⊢
  obtain ⟨f0, f1, f2, f3⟩ := actA_cells HG1.out
  go_upto_if 8 with fail
  go_cut [3] (fun v wx => v = .int .u64 tv ∧ wx = w2)
  case first => as_aux_lemma =>
    by_cases h8 : x.time % 9 = 8
    · have HT := Lib.hid (show x.time = tv by rw [← HTV.out]; unfold timeV; rw [if_pos h8])
      go_wp2_with fail
      go_meet
      exact ⟨by rw [HT.out], rfl⟩
    · have HT := Lib.hid (show x.time % 60 = tv by rw [← HTV.out]; unfold timeV; rw [if_neg h8])
      go_wp2_with fail
      go_meet
      exact ⟨by rw [HT.out], rfl⟩
  case rest =>
    obtain ⟨rfl, hwx⟩ := hcut
    obtain rfl : w2 = wc := hwx.symm
    go_wp2_with fail
    refine (within_is x.client 4 q _ HQ.out (by omega) hc1 hc2).mono ?_
    rintro _ w3 ⟨rfl, h3⟩
    obtain rfl : w2 = w3 := by first | exact h3 | exact h3.symm
    have k2 := HG2.out
    have k3 : blkFree w2 (⟨b0 + 1, 0, none⟩ : Addr).block = true := HF2.out
    have hput := get?_put (⟨⟨q, 1⟩, default, tv⟩ : GEntry) k2
    have hbp : Bel w (World.putCells w2 ⟨b0 + 1, 0, none⟩ (GEntry.enc ⟨⟨q, 1⟩, default, tv⟩)) := Below_putCells (a := ⟨b0 + 1, 0, none⟩) HB.out (by show w.heap.size ≤ b0 + 1; omega) _
    have HP := Lib.hid hput; have HBP := Lib.hid hbp
    clear hput hbp
    go_wp2_with fail
    refine bodyPost_ret (results_cell (x := (⟨⟨q, 1⟩, default, tv⟩ : GEntry)) rfl rfl ag35 sz35 HP.out) rfl ⟨?_, HBP.out⟩
    rw [HE.out, GEntry.val_eq]
def wakePl : List U8 := [⟨114⟩, ⟨101⟩, ⟨115⟩, ⟨101⟩, ⟨114⟩, ⟨118⟩, ⟨101⟩, ⟨32⟩, ⟨97⟩]
theorem wake_does : (execA M0 2 1 (bytesB wakePl)).1 = ⟨#[111, 107]⟩ ∧ (execA M0 2 1 (bytesB wakePl)).2.n = 1 := by
  constructor <;> decide +kernel
set_option maxRecDepth 100000 in
set_option maxHeartbeats 1000000 in
theorem wakesG_any (w0 w : World) (hL : LibIs w0) (hw : Bel w0 w) : Calls Tryz.prog 14 #[] w fun e w' => e = .returned (.bool true) ∧ Bel w w' := by
  have HL := Lib.hid hL; have HW := Lib.hid hw
  clear hL hw
  go_enter Tryz.func14, Tryz.ntmps14
  go_wp2_with fail
  refine (newApp_any w).mono ?_
  rintro _ w1 ⟨a, g, r, p, q, rfl, hA, hF, hb⟩
  have HA := Lib.hid hA; have HF := Lib.hid hF; have HB := Lib.hid hb
  clear hA hF hb
  have hcv := Lib.run_convert_bytes_const (P := Tryz.prog) w1 38 5 #[.int .u8 114, .int .u8 101, .int .u8 115, .int .u8 101, .int .u8 114, .int .u8 118, .int .u8 101, .int .u8 32, .int .u8 97] 9 9 (by kernel_rfl) (by kernel_rfl)
  have hb2 := (Bel.refl w1).alloc (.cells #[.int .u8 114, .int .u8 101, .int .u8 115, .int .u8 101, .int .u8 114, .int .u8 118, .int .u8 101, .int .u8 32, .int .u8 97] 5 (9, 10))
  have hsl : Sl U8 (w1.alloc (.cells #[.int .u8 114, .int .u8 101, .int .u8 115, .int .u8 101, .int .u8 114, .int .u8 118, .int .u8 101, .int .u8 32, .int .u8 97] 5 (9, 10))) (w1.alloc (.cells #[.int .u8 114, .int .u8 101, .int .u8 115, .int .u8 101, .int .u8 114, .int .u8 118, .int .u8 101, .int .u8 32, .int .u8 97] 5 (9, 10))).heap.size (some ⟨w1.heap.size, 0, none⟩) 9 wakePl :=
    Sl.of_row (heap_alloc_new w1 _) (by rfl) rfl (by simp)
  have HS := Lib.hid hsl; have HA2 := Lib.hid (HA.out.bel hb2); have HB2 := Lib.hid (HB.out.trans hb2)
  have hl1 := HA.out.lt
  have hl2 := HA.out.house.2.lt
  have hl3 := HA.out.reg.ltr
  have hz := HW.out.size
  clear hsl hb2
  go_wp2_with fail
  change Hid (AppIs (w1.alloc (.cells #[.int .u8 114, .int .u8 101, .int .u8 115, .int .u8 101, .int .u8 114, .int .u8 118, .int .u8 101, .int .u8 32, .int .u8 97] 5 (9, 10))) a g r p q M0 0) at HA2
  refine (exec_any w0 a g r p q 0 M0 ⟨⟨2, 1⟩, default, 1⟩ (some ⟨w1.heap.size, 0, none⟩) 9 9 wakePl _ HL.out (HW.out.trans HB2.out) HA2.out ?_ HS.out ?_ (by omega) (by omega)).mono ?_
  · intro k hk
    rcases HF.out k with h | h
    · omega
    · exact absurd (.inl hk) h
  · intro _ ad e hk
    injection e with e
    subst e
    unfold footA at hk
    simp only at hk
    omega
  rintro _ w3 ⟨rfl, hA3, hC3⟩
  have HB3 := Lib.hid (show Bel w w3 from Chg.bel2 HB2.out hC3 (fun k hk => (HF.out k).resolve_right (fun h => h (.inl hk))))
  have HA3 := Lib.hid hA3
  have hn := wake_does.2
  change (execA M0 2 1 (bytesB wakePl)).2.n = 1 at hn
  have hs : (execA M0 (⟨⟨2, 1⟩, default, 1⟩ : GEntry).name.client (⟨⟨2, 1⟩, default, 1⟩ : GEntry).time (bytesB wakePl)).1 = ⟨#[111, 107]⟩ := wake_does.1
  rw [hs]
  have HN := Lib.hid hn
  clear hs hn hcv hA3 hC3
  go_wp2_with fail
  refine (count_any a g r p q (0 + 2) _ w3 HA3.out).mono ?_
  rintro _ w4 ⟨rfl, rfl⟩
  have hn2 : (execA M0 (⟨⟨2, 1⟩, default, 1⟩ : GEntry).name.client (⟨⟨2, 1⟩, default, 1⟩ : GEntry).time (bytesB wakePl)).2.n = 1 := HN.out
  rw [hn2]
  clear hn2
  go_wp2_with fail
  go_ret
  exact ⟨rfl, HB3.out⟩
end Go.Proofs.YteockodnfempfaaGreatDoor
/- Regions that leave their order open, where a call may come ahead of what looks behind it. Conditions: those named in each theorem. -/
namespace Go.Gv
open Go Go.RowKit

/-! G w w': what what looks may do; G2 w w': what any operation of the region may do: what looks sees the same behind it. -/
section
variable {P : Program} {ops : Array Oper} {md : Region.Mode} {Q : Exit → Act → World → Prop} {G G2 : World → World → Prop} {T U : List Nat}
def YieldsH (P : Program) (ops : Array Oper) (G G2 : World → World → Prop) (w : World) (o : Oper) (v : Value) (a : Act) : Prop :=
  (Region.wanted o (yielded ops a.tmps) = true ∧ ∀ w', G2 w w' → lookUponG P G w' v ((execOp a.eval o).run P w')) ∨ (Region.wanted o (yielded ops a.tmps) = false ∧ v = undef)
theorem YieldsH.of_same {w : World} {o : Oper} {v : Value} {a a' : Act} (hy : YieldsH P ops G G2 w o v a) (he : execOp a'.eval o = execOp a.eval o)
    (hw : Region.wanted o (yielded ops a'.tmps) = Region.wanted o (yielded ops a.tmps)) : YieldsH P ops G G2 w o v a' := by
  unfold YieldsH at *
  rw [he, hw]
  exact hy
theorem YieldsH.ext (ht : ∀ a b c, G2 a b → G2 b c → G2 a c) {w w1 : World} {o : Oper} {v : Value} {a : Act} (hy : YieldsH P ops G G2 w o v a) (h : G2 w w1) : YieldsH P ops G G2 w1 o v a := by
  rcases hy with ⟨h1, h2⟩ | h
  · exact .inl ⟨h1, fun w' hw' => h2 w' (ht _ _ _ h hw')⟩
  · exact .inr h
theorem YieldsH.wpOp (hrf : ∀ a, G a a) {i : Nat} {o : Oper} {v : Value} {a : Act} {w w' : World} {K : Act → World → Prop} (hi : ops[i]? = some o) (hy : YieldsH P ops G G2 w o v a) (hw' : G2 w w') (h : ∀ w'', G w' w'' → K (a.put o.dst v) w'') : wpOp P ops Q i K a w' := by
  unfold Go.wpOp
  simp only [hi]
  rcases hy with ⟨hw, hv⟩ | ⟨hw, rfl⟩
  · simp only [hw, if_true]
    refine .inl ?_
    have hz := hv w' hw'
    unfold Oper.wp
    generalize (execOp a.eval o).run P w' = r at hz
    cases r with
    | ok n w1 =>
      cases n <;> simp only [lookUponG] at hz <;> simp only [Oper.upon]
      case value u => obtain ⟨rfl, rfl⟩ := hz; exact h _ (hrf _)
      case skip => obtain ⟨rfl, rfl⟩ := hz; exact h _ (hrf _)
      case enter f args =>
        obtain ⟨rfl, hc⟩ := hz
        refine hc.mono fun e w'' ⟨he, hm⟩ => ?_
        subst he; exact h _ hm
    | halt x w1 => simp only [lookUponG] at hz
  · simp only [hw, Bool.false_eq_true, if_false]; exact h _ (hrf _)
theorem wpOp_putH {j : Nat} {oi oj : Oper} {v : Value} {w w0 : World} (hj : ops[j]? = some oj) (hap : oi.apart ops oj = true)
    (hsi : ∀ cs b, oi.op ≠ .select cs b) (hsj : ∀ cs b, oj.op ≠ .select cs b)
    (hQ : ∀ c a w, Q (.panic c) (a.put oi.dst v) w → Q (.panic c) a w) {K : Act → World → Prop} {a : Act}
    (hy : YieldsH P ops G G2 w0 oi v a) (h : wpOp P ops Q j K (a.put oi.dst v) w) :
    wpOp P ops Q j (fun a' w' => YieldsH P ops G G2 w0 oi v a' ∧ K (a'.put oi.dst v) w') a w := by
  obtain ⟨h1, h2, h3⟩ := Oper.apart_spec hap
  have keep : ∀ (a : Act), YieldsH P ops G G2 w0 oi v a → ∀ u, YieldsH P ops G G2 w0 oi v (a.put oj.dst u) := fun a hy u =>
    hy.of_same (execOp_put oi hsi a oj.dst u h3) (wanted_put oi a oj.dst u h3)
  have keepD : ∀ d, YieldsH P ops G G2 w0 oi v { a with defers := d :: a.defers } := fun d => hy.of_same rfl rfl
  unfold Go.wpOp at *
  simp only [hj] at *
  rw [wanted_put oj a oi.dst v h1] at h
  split
  · rename_i hw
    simp only [hw, if_true] at h
    rcases h with h | ⟨hasks, hlets⟩
    case inr => exact .inr ⟨by unfold Oper.asks at *; rw [execOp_put oj hsj a oi.dst v h1] at hasks; exact hasks, hlets⟩
    refine .inl ?_
    unfold Oper.wp at *
    rw [execOp_put oj hsj a oi.dst v h1] at h
    generalize (execOp a.eval oj).run P w = r at *
    cases r with
    | ok n w' =>
      cases n <;> simp only [Oper.upon] at h ⊢
      case value u => exact ⟨keep a hy u, by rw [← Act.put_comm a v u h2]; exact h⟩
      case skip => exact ⟨keep a hy _, by rw [← Act.put_comm a v undef h2]; exact h⟩
      case defer d =>
        refine ⟨keep _ (keepD d) _, ?_⟩
        rw [← Act.put_comm _ v undef h2, ← Act.put_defers]
        exact h
      case enter f args =>
        refine Calls.mono h fun e w'' he => ?_
        cases e with
        | returned u => exact ⟨keep a hy u, by rw [← Act.put_comm a v u h2]; exact he⟩
        | panicked c => exact hQ _ _ _ he
        | outgrown => exact he
      case row row args => exact Rows.mono h fun u w'' he => ⟨keep a hy u, by rw [← Act.put_comm a v u h2]; exact he⟩
    | halt x w' =>
      cases x <;> simp only [Oper.upon] at h ⊢
      case panic u => exact hQ _ _ _ h
  · rename_i hw
    simp only [hw] at h
    exact ⟨keep a hy _, by rw [← Act.put_comm a v undef h2]; exact h⟩

/-- Whatever order is picked from here on. -/
def wpH (P : Program) (md : Region.Mode) (ops : Array Oper) (Q : Exit → Act → World → Prop) (G G2 : World → World → Prop) (T U : List Nat) : Nat → Array Bool → Act → World → Prop
  | 0, listed, a, w => Region.ready md ops listed = [] ∧ ∀ w', G w w' → Q .normal a w'
  | fuel + 1, listed, a, w =>
    (Region.ready md ops listed = [] → ∀ w', G w w' → Q .normal a w') ∧
    ∀ i ∈ Region.ready md ops listed, ∀ w', G w w' → wpOp P ops Q i (fun a' w'' => (i ∉ T → G w' w'') ∧ (i ∉ U → G2 w' w'') ∧ wpH P md ops Q G G2 T U fuel (listed.setIfInBounds i true) a' w'') a w'
theorem wpH_ext (ht : ∀ a b c, G a b → G b c → G a c) {fuel : Nat} {listed : Array Bool} {a : Act} {w w1 : World} (h : wpH P md ops Q G G2 T U fuel listed a w) (h1 : G w w1) : wpH P md ops Q G G2 T U fuel listed a w1 := by
  cases fuel with
  | zero => exact ⟨h.1, fun w' hw' => h.2 _ (ht _ _ _ h1 hw')⟩
  | succ f => exact ⟨fun h0 w' hw' => h.1 h0 _ (ht _ _ _ h1 hw'), fun i hi w' hw' => h.2 i hi _ (ht _ _ _ h1 hw')⟩
theorem wpAny_of_H (hrf : ∀ a, G a a) : ∀ (fuel : Nat) (listed : Array Bool) (a : Act) (w : World), wpH P md ops Q G G2 T U fuel listed a w → wpAny P md ops Q fuel listed a w
  | 0, _, _, _, h => ⟨h.1, h.2 _ (hrf _)⟩
  | fuel + 1, _, _, _, h => ⟨fun h0 => h.1 h0 _ (hrf _), fun i hi => wpOp_mono (fun a' w' h' => wpAny_of_H hrf fuel _ a' w' h'.2.2) (h.2 i hi _ (hrf _))⟩

theorem wpH_first {i : Nat} {oi : Oper} {v : Value} (hrf : ∀ a, G a a) (ht : ∀ a b c, G a b → G b c → G a c) (ht2 : ∀ a b c, G2 a b → G2 b c → G2 a c) (hsub : ∀ a b, G a b → G2 a b) (hi : ops[i]? = some oi) (hsel : ∀ (j : Nat) (o : Oper) cs b, ops[j]? = some o → o.op ≠ .select cs b)
    (hQ : ∀ c (a a' : Act) w, a.defers = a'.defers → Q (.panic c) a w → Q (.panic c) a' w) (n : Nat) (hU : ∀ t ∈ U, i ∈ waitsFor md ops n t) :
    ∀ (fuel : Nat) (listed : Array Bool) (a : Act) (w : World), downC md ops listed →
      (∀ j oj, ops[j]? = some oj → j ≠ i → listed.getD j true = false → (∀ e ∈ oj.after, Region.binds md e = true → e.on ≠ i) → oi.apart ops oj = true) →
      i ∈ Region.ready md ops listed → YieldsH P ops G G2 w oi v a →
      wpH P md ops Q G G2 T U fuel (listed.setIfInBounds i true) (a.put oi.dst v) w → wpH P md ops Q G G2 T U (fuel + 1) listed a w := by
  intro fuel
  induction fuel with
  | zero =>
    intro listed a w hdc _ hr hy H
    refine ⟨fun h => (by rw [h] at hr; cases hr), fun j hj w' hw' => ?_⟩
    by_cases hji : j = i
    · subst hji
      exact hy.wpOp hrf hi (hsub _ _ hw') fun w'' hw'' => ⟨fun _ => hw'', fun _ => hsub _ _ hw'', wpH_ext ht H (ht _ _ _ hw' hw'')⟩
    · have := ready_mono hj hji
      rw [H.1] at this
      cases this
  | succ fuel ih =>
    intro listed a w hdc hfree hr hy H
    refine ⟨fun h => (by rw [h] at hr; cases hr), fun j hj w' hw' => ?_⟩
    by_cases hji : j = i
    · subst hji
      exact hy.wpOp hrf hi (hsub _ _ hw') fun w'' hw'' => ⟨fun _ => hw'', fun _ => hsub _ _ hw'', wpH_ext ht H (ht _ _ _ hw' hw'')⟩
    · have h1 := H.2 j (ready_mono hj hji) w' hw'
      obtain ⟨hjun, oj, hoj, hall⟩ := mem_ready.1 hj
      have hun : listed.getD i true = false := (mem_ready.1 hr).1
      have hun2 : listed.getD i false = false := by
        rcases Nat.lt_or_ge i listed.size with h' | h'
        · simpa [h'] using hun
        · simp [Array.getElem?_eq_none h'] at hun
      have hnot : ∀ e ∈ oj.after, Region.binds md e = true → e.on ≠ i := fun e he hb heq => by
        have h1 := hall e he hb
        rw [heq, hun2] at h1; cases h1
      have hjU : j ∉ U := fun hjt => by
        have := ready_waits hdc hj (hU j hjt)
        rw [hun2] at this; cases this
      have h2 := wpOp_putH (G := G) (G2 := G2) hoj (hfree j oj hoj hji hjun hnot) (fun cs b => hsel i oi cs b hi) (fun cs b => hsel j oj cs b hoj) (fun c a w h => hQ c _ _ w (by cases oi.dst <;> rfl) h) (hy.ext ht2 (hsub _ _ hw')) h1
      have hfree' : ∀ k ok, ops[k]? = some ok → k ≠ i → (listed.setIfInBounds j true).getD k true = false →
          (∀ e ∈ ok.after, Region.binds md e = true → e.on ≠ i) → oi.apart ops ok = true := fun k ok hk hki hun hno => by
        refine hfree k ok hk hki ?_ hno
        by_cases hjk : j = k
        · subst hjk; exact hjun
        · rw [getD_set_ne true hjk] at hun; exact hun
      refine wpOp_mono (fun a' w'' h3 => ⟨h3.2.1, h3.2.2.1, ?_⟩) h2
      obtain ⟨hy', _, hG2, h4⟩ := h3
      refine ih (listed.setIfInBounds j true) a' w'' (downC_set hdc hj) hfree' (ready_mono hr (Ne.symm hji)) (hy'.ext ht2 (hG2 hjU)) ?_
      rw [Array.setIfInBounds_comm _ _ hji]
      exact h4

def permE (md : Region.Mode) (ops : Array Oper) (U : List Nat) (m : Nat) : List Nat → Array Bool → Bool
  | [], _ => true
  | i :: hd, listed => (Region.ready md ops listed).contains i && Region.free md ops listed i && (U.all fun t => (waitsFor md ops m t).contains i) && permE md ops U m hd (listed.setIfInBounds i true)
theorem wpH_looks_aux {ι : Type} {W : ι → World} (hrf : ∀ a, G a a) (ht : ∀ a b c, G a b → G b c → G a c) (ht2 : ∀ a b c, G2 a b → G2 b c → G2 a c) (hsub : ∀ a b, G a b → G2 a b) (hs : Region.noSelect ops = true) (hQ : ∀ c (a a' : Act) w, a.defers = a'.defers → Q (.panic c) a w → Q (.panic c) a' w) (m fuel : Nat) (w : World) (hW : ∀ w', G2 w w' → ∃ z, w' = W z) :
    ∀ (hd : List Nat) (lh : List Oper) (listed : Array Bool) (a : Act), hd.mapM (fun i => ops[i]?) = some lh → downC md ops listed → permE md ops U m hd listed = true →
    wpLooksG P ops G W (fun a' => wpH P md ops Q G G2 T U fuel (setAll listed hd) a' w) lh a → wpH P md ops Q G G2 T U (hd.length + fuel) listed a w
  | [], lh, listed, a, hl, _, _, h => by
    simp at hl; subst hl
    have e : ([] : List Nat).length + fuel = fuel := by simp
    rw [e]; exact h
  | i :: hd, lh, listed, a, hl, hdc, hB, h => by
    simp only [List.mapM_cons, Option.bind_eq_bind, Option.pure_def] at hl
    cases hi : ops[i]? with
    | none => simp [hi] at hl
    | some o =>
      cases hr : hd.mapM (fun i => ops[i]?) with
      | none => simp [hi, hr] at hl
      | some l' =>
        simp [hi, hr] at hl
        subst hl
        simp only [permE, Bool.and_eq_true, List.all_eq_true, List.contains_iff_mem] at hB
        obtain ⟨⟨⟨hB1, hB2⟩, hB3⟩, hB4⟩ := hB
        rw [show (i :: hd).length + fuel = (hd.length + fuel) + 1 by simp; omega]
        unfold wpLooksG at h
        split at h
        · rename_i hw
          obtain ⟨v, hv, hk⟩ := h
          exact wpH_first hrf ht ht2 hsub hi (Region.noSelect_spec hs) hQ m hB3 _ listed a w hdc (Region.free_spec hi hB2) hB1 (.inl ⟨hw, fun w' hw' => by
            obtain ⟨z, rfl⟩ := hW w' hw'
            exact hv z⟩) (wpH_looks_aux hrf ht ht2 hsub hs hQ m fuel w hW hd l' _ _ hr (downC_set hdc hB1) hB4 hk)
        · rename_i hw
          exact wpH_first hrf ht ht2 hsub hi (Region.noSelect_spec hs) hQ m hB3 _ listed a w hdc (Region.free_spec hi hB2) hB1 (.inr ⟨by simpa using hw, rfl⟩) (wpH_looks_aux hrf ht ht2 hsub hs hQ m fuel w hW hd l' _ _ hr (downC_set hdc hB1) hB4 h)
/-- What looks comes first; W z: the worlds in which it may look. -/
theorem wpH_looks {l : List Oper} {n : Nat} {lh : List Oper} {listed : Array Bool} {a : Act} {w : World} (fuel m : Nat) (hd : List Nat) (hn : n = hd.length + fuel) (hrf : ∀ a, G a a) (ht : ∀ a b c, G a b → G b c → G a c) (hrf2 : ∀ a, G2 a a) (ht2 : ∀ a b c, G2 a b → G2 b c → G2 a c) (hsub : ∀ a b, G a b → G2 a b) (hs : Region.noSelect l.toArray = true) (hQ : ∀ c (a a' : Act) w, a.defers = a'.defers → Q (.panic c) a w → Q (.panic c) a' w)
    (hl : picks l hd = some lh) (hB : (downB md l.toArray listed && permE md l.toArray U m hd listed) = true)
    (h : ∀ (ι : Type) (W : ι → World), Nonempty ι → Hid (∀ z, G2 w (W z)) → wpLooksG P l.toArray G W (fun a' => wpH P md l.toArray Q G G2 T U fuel (setAll listed hd) a' w) lh a) : wpH P md l.toArray Q G G2 T U n listed a w := by
  subst hn
  rw [Bool.and_eq_true] at hB
  obtain ⟨ι, W, hne, hW, hWs⟩ := classFam (G2 w) (hrf2 w)
  exact wpH_looks_aux hrf ht ht2 hsub hs hQ m fuel w hWs hd lh listed a (picks_eq l hd lh hl) (downB_spec hB.1) hB.2 (h ι W hne (Lib.hid hW))
/-- One operation alone is ready. -/
theorem wpH_force {l : List Oper} {fuel : Nat} {listed : Array Bool} {a : Act} {w : World} (t : Nat) (o : Oper) (ho : nthO l t = some o) (hr : (Region.ready md l.toArray listed == [t]) = true) (hg : o.guard = none)
    (h : ∀ w', G w w' → ∀ K : Act → World → Prop, (∀ a' w'', (t ∉ T → G w' w'') → (t ∉ U → G2 w' w'') → wpH P md l.toArray Q G G2 T U fuel (listed.setIfInBounds t true) a' w'' → K a' w'') → o.wp P a w' K Q) : wpH P md l.toArray Q G G2 T U (fuel + 1) listed a w := by
  have ho : l.toArray[t]? = some o := by rw [← ho, nthO_eq]; simp
  have hr' : Region.ready md l.toArray listed = [t] := by simpa using hr
  refine ⟨fun h0 => (by rw [hr'] at h0; cases h0), fun i hi w' hw' => ?_⟩
  rw [hr'] at hi
  obtain rfl : i = t := by simpa using hi
  unfold Go.wpOp
  simp only [ho]
  rw [if_pos (by simp [Region.wanted, hg])]
  exact .inl (h w' hw' _ fun a' w'' h1 h2 h3 => ⟨h1, h2, h3⟩)
theorem wpH_end {listed : Array Bool} {a : Act} {w : World} (hr : (Region.ready md ops listed).isEmpty = true) (h : ∀ w', G w w' → Q .normal a w') : ∀ fuel, wpH P md ops Q G G2 T U fuel listed a w
  | 0 => ⟨by simpa using hr, h⟩
  | _ + 1 => ⟨fun _ => h, fun i hi => by
      have : Region.ready md ops listed = [] := by simpa using hr
      rw [this] at hi; cases hi⟩
/-- Two operations are ready. -/
theorem wpH_two {l : List Oper} {fuel : Nat} {listed : Array Bool} {a : Act} {w : World} (t1 t2 : Nat) (o1 o2 : Oper) (ho1 : nthO l t1 = some o1) (ho2 : nthO l t2 = some o2) (hr : (Region.ready md l.toArray listed == [t1, t2]) = true) (hg1 : o1.guard = none) (hg2 : o2.guard = none)
    (h1 : ∀ w', G w w' → ∀ K : Act → World → Prop, (∀ a' w'', (t1 ∉ T → G w' w'') → (t1 ∉ U → G2 w' w'') → wpH P md l.toArray Q G G2 T U fuel (listed.setIfInBounds t1 true) a' w'' → K a' w'') → o1.wp P a w' K Q)
    (h2 : ∀ w', G w w' → ∀ K : Act → World → Prop, (∀ a' w'', (t2 ∉ T → G w' w'') → (t2 ∉ U → G2 w' w'') → wpH P md l.toArray Q G G2 T U fuel (listed.setIfInBounds t2 true) a' w'' → K a' w'') → o2.wp P a w' K Q) : wpH P md l.toArray Q G G2 T U (fuel + 1) listed a w := by
  have ho1 : l.toArray[t1]? = some o1 := by rw [← ho1, nthO_eq]; simp
  have ho2 : l.toArray[t2]? = some o2 := by rw [← ho2, nthO_eq]; simp
  have hr' : Region.ready md l.toArray listed = [t1, t2] := by simpa using hr
  refine ⟨fun h0 => (by rw [hr'] at h0; cases h0), fun i hi w' hw' => ?_⟩
  rw [hr'] at hi
  simp only [List.mem_cons, List.not_mem_nil, or_false] at hi
  unfold Go.wpOp
  rcases hi with rfl | rfl
  · simp only [ho1]
    rw [if_pos (by simp [Region.wanted, hg1])]
    exact .inl (h1 w' hw' _ fun a' w'' k1 k2 k3 => ⟨k1, k2, k3⟩)
  · simp only [ho2]
    rw [if_pos (by simp [Region.wanted, hg2])]
    exact .inl (h2 w' hw' _ fun a' w'' k1 k2 k3 => ⟨k1, k2, k3⟩)
theorem wp_region_H {id : Nat} {a : Act} {w : World} {l : List Oper} (G G2 : World → World → Prop) (T U : List Nat) (hrf : ∀ a, G a a) (hm : P.follows .mixedOrders = true)
    (h : wpH P .any l.toArray Q G G2 T U l.toArray.size (Array.replicate l.toArray.size false) a w.drew) : (Code.region id l.toArray true).wp P Q a w :=
  wp_region_any hm (wpAny_of_H hrf _ _ _ _ h)
end
/-- What was there below B stands. -/
def GZ (B : Nat) (a b : World) : Prop := B ≤ a.heap.size → Below B a b
theorem GZ.rf (B : Nat) (a : World) : GZ B a a := fun _ => Below.refl _ _
theorem GZ.tr (B : Nat) (a b c : World) (h : GZ B a b) (k : GZ B b c) : GZ B a c := fun hb => Below.trans (h hb) (k (Nat.le_trans hb (Below.size (h hb))))
theorem GZ.sub (B : Nat) (a b : World) (h : GB a b) : GZ B a b := fun hb => Below.mono h hb
end Go.Gv
/- Two apps side by side. Conditions: those named in each theorem. -/
namespace Go.Gv
open Go Go.RowKit
section
variable {P : Program} {md : Region.Mode} {Q : Exit → Act → World → Prop} {G G2 : World → World → Prop} {T U : List Nat}
/-- Three operations are ready. -/
theorem wpH_three {l : List Oper} {fuel : Nat} {listed : Array Bool} {a : Act} {w : World} (t1 t2 t3 : Nat) (o1 o2 o3 : Oper) (ho1 : nthO l t1 = some o1) (ho2 : nthO l t2 = some o2) (ho3 : nthO l t3 = some o3) (hr : (Region.ready md l.toArray listed == [t1, t2, t3]) = true) (hg1 : o1.guard = none) (hg2 : o2.guard = none) (hg3 : o3.guard = none)
    (h1 : ∀ w', G w w' → ∀ K : Act → World → Prop, (∀ a' w'', (t1 ∉ T → G w' w'') → (t1 ∉ U → G2 w' w'') → wpH P md l.toArray Q G G2 T U fuel (listed.setIfInBounds t1 true) a' w'' → K a' w'') → o1.wp P a w' K Q)
    (h2 : ∀ w', G w w' → ∀ K : Act → World → Prop, (∀ a' w'', (t2 ∉ T → G w' w'') → (t2 ∉ U → G2 w' w'') → wpH P md l.toArray Q G G2 T U fuel (listed.setIfInBounds t2 true) a' w'' → K a' w'') → o2.wp P a w' K Q)
    (h3 : ∀ w', G w w' → ∀ K : Act → World → Prop, (∀ a' w'', (t3 ∉ T → G w' w'') → (t3 ∉ U → G2 w' w'') → wpH P md l.toArray Q G G2 T U fuel (listed.setIfInBounds t3 true) a' w'' → K a' w'') → o3.wp P a w' K Q) : wpH P md l.toArray Q G G2 T U (fuel + 1) listed a w := by
  have ho1 : l.toArray[t1]? = some o1 := by rw [← ho1, nthO_eq]; simp
  have ho2 : l.toArray[t2]? = some o2 := by rw [← ho2, nthO_eq]; simp
  have ho3 : l.toArray[t3]? = some o3 := by rw [← ho3, nthO_eq]; simp
  have hr' : Region.ready md l.toArray listed = [t1, t2, t3] := by simpa using hr
  refine ⟨fun h0 => (by rw [hr'] at h0; cases h0), fun i hi w' hw' => ?_⟩
  rw [hr'] at hi
  simp only [List.mem_cons, List.not_mem_nil, or_false] at hi
  unfold Go.wpOp
  rcases hi with rfl | rfl | rfl
  · simp only [ho1]
    rw [if_pos (by simp [Region.wanted, hg1])]
    exact .inl (h1 w' hw' _ fun a' w'' k1 k2 k3 => ⟨k1, k2, k3⟩)
  · simp only [ho2]
    rw [if_pos (by simp [Region.wanted, hg2])]
    exact .inl (h2 w' hw' _ fun a' w'' k1 k2 k3 => ⟨k1, k2, k3⟩)
  · simp only [ho3]
    rw [if_pos (by simp [Region.wanted, hg3])]
    exact .inl (h3 w' hw' _ fun a' w'' k1 k2 k3 => ⟨k1, k2, k3⟩)
end
end Go.Gv
namespace Go.Proofs.YteockodnfempfaaGreatDoor
open Go Go.RowKit Go.Gv Go.Sort Go.Proofs

/-- Two apps, apart, behind a world in which the library's variables lie. -/
structure St (w0 w : World) (a g r p q b h s u v : Nat) (Ma : MApp) (ka : Nat) (Mb : MApp) (kb : Nat) : Prop where
  one : AppIs w a g r p q Ma ka
  two : AppIs w b h s u v Mb kb
  lib : LibIs w0
  bel : Bel w0 w
  far : ∀ k, (footA a r q k ∨ footA b s v k) → w0.heap.size ≤ k
  d1 : ∀ k, (footA a r q k ∨ k = g ∨ k = p) → ¬ footA b s v k
  d2 : ∀ k, (footA b s v k ∨ k = h ∨ k = u) → ¬ footA a r q k
/-- Bytes beside both. -/
def PayAt (w : World) (a r q b s v : Nat) (A : Option Addr) (n : Nat) (ys : List U8) : Prop := Sl U8 w w.heap.size A n ys ∧ ∀ ad, A = some ad → ¬ (footA a r q ad.block ∨ footA b s v ad.block)
section
variable {w0 w w' : World} {a g r p q b h s u v ka kb : Nat} {Ma Mb : MApp}
theorem St.step (st : St w0 w a g r p q b h s u v Ma ka Mb kb) (hb : Bel w w') : St w0 w' a g r p q b h s u v Ma ka Mb kb := ⟨st.one.bel hb, st.two.bel hb, st.lib, st.bel.trans hb, st.far, st.d1, st.d2⟩
theorem PayAt.step {A : Option Addr} {n : Nat} {ys : List U8} (h : PayAt w a r q b s v A n ys) (hb : Bel w w') : PayAt w' a r q b s v A n ys := ⟨h.1.stepB hb, h.2⟩
theorem PayAt.chg {A : Option Addr} {n : Nat} {ys : List U8} (h : PayAt w a r q b s v A n ys) (hc : Chg (fun k => footA a r q k ∨ footA b s v k) w w') : PayAt w' a r q b s v A n ys := ⟨Sl.chg hc h.1 (fun _ ad e => h.2 ad e), h.2⟩
theorem St.did1 {Ma' : MApp} {ka' : Nat} (st : St w0 w a g r p q b h s u v Ma ka Mb kb) (hA : AppIs w' a g r p q Ma' ka') (hc : Chg (footA a r q) w w') : St w0 w' a g r p q b h s u v Ma' ka' Mb kb :=
  ⟨hA, st.two.off st.one.noBids hc (st.d2 b (.inl (.inl rfl))) (st.d2 h (.inr (.inl rfl))) (st.d2 s (.inl (.inr (.inl rfl)))) (st.d2 u (.inr (.inr rfl))) (st.d2 v (.inl (.inr (.inr rfl)))), st.lib, Chg.bel2 st.bel hc (fun k hk => st.far k (.inl hk)), st.far, st.d1, st.d2⟩
theorem St.did2 {Mb' : MApp} {kb' : Nat} (st : St w0 w a g r p q b h s u v Ma ka Mb kb) (hB : AppIs w' b h s u v Mb' kb') (hc : Chg (footA b s v) w w') : St w0 w' a g r p q b h s u v Ma ka Mb' kb' :=
  ⟨st.one.off st.two.noBids hc (st.d1 a (.inl (.inl rfl))) (st.d1 g (.inr (.inl rfl))) (st.d1 r (.inl (.inr (.inl rfl)))) (st.d1 p (.inr (.inr rfl))) (st.d1 q (.inl (.inr (.inr rfl)))), hB, st.lib, Chg.bel2 st.bel hc (fun k hk => st.far k (.inr hk)), st.far, st.d1, st.d2⟩
theorem St.exec1 {A : Option Addr} {n c : Nat} {ys : List U8} (st : St w0 w a g r p q b h s u v Ma ka Mb kb) (x : GEntry) (hy : PayAt w a r q b s v A n ys) (hn : n ≤ 1000000) (hk : ka ≤ 1000) :
    Calls Tryz.prog 12 #[.pointer (some ⟨a, 0, none⟩), x.val, .slice A n c] w fun e w' => e = .returned (.string (execA Ma x.name.client x.time (bytesB ys)).1) ∧ St w0 w' a g r p q b h s u v (execA Ma x.name.client x.time (bytesB ys)).2 (ka + 2) Mb kb ∧ Chg (fun k => footA a r q k ∨ footA b s v k) w w' := by
  refine (exec_any w0 a g r p q ka Ma x A n c ys w st.lib st.bel st.one (fun k hk => st.far k (.inl hk)) hy.1 (fun _ ad e hk => hy.2 ad e (.inl hk)) hn hk).mono ?_
  rintro e w' ⟨rfl, hA, hc⟩
  exact ⟨rfl, st.did1 hA hc, hc.sub fun k hk => .inl hk⟩
theorem St.exec2 {A : Option Addr} {n c : Nat} {ys : List U8} (st : St w0 w a g r p q b h s u v Ma ka Mb kb) (x : GEntry) (hy : PayAt w a r q b s v A n ys) (hn : n ≤ 1000000) (hk : kb ≤ 1000) :
    Calls Tryz.prog 12 #[.pointer (some ⟨b, 0, none⟩), x.val, .slice A n c] w fun e w' => e = .returned (.string (execA Mb x.name.client x.time (bytesB ys)).1) ∧ St w0 w' a g r p q b h s u v Ma ka (execA Mb x.name.client x.time (bytesB ys)).2 (kb + 2) ∧ Chg (fun k => footA a r q k ∨ footA b s v k) w w' := by
  refine (exec_any w0 b h s u v kb Mb x A n c ys w st.lib st.bel st.two (fun k hk => st.far k (.inr hk)) hy.1 (fun _ ad e hk => hy.2 ad e (.inr hk)) hn hk).mono ?_
  rintro e w' ⟨rfl, hB, hc⟩
  exact ⟨rfl, st.did2 hB hc, hc.sub fun k hk => .inr hk⟩
theorem St.bury1 (st : St w0 w a g r p q b h s u v Ma ka Mb kb) (x : GEntry) (hk : ka ≤ 1000) :
    Calls Tryz.prog 10 #[.pointer (some ⟨a, 0, none⟩), x.val] w fun e w' => e = .returned (.string sBuried) ∧ St w0 w' a g r p q b h s u v (settleA Ma x.time) (ka + 1) Mb kb ∧ Chg (fun k => footA a r q k ∨ footA b s v k) w w' := by
  refine (bury_any a g r p q ka Ma x w st.one hk).mono ?_
  rintro e w' ⟨rfl, hA, hc⟩
  exact ⟨rfl, st.did1 hA hc, hc.sub fun k hk => .inl hk⟩
theorem St.bury2 (st : St w0 w a g r p q b h s u v Ma ka Mb kb) (x : GEntry) (hk : kb ≤ 1000) :
    Calls Tryz.prog 10 #[.pointer (some ⟨b, 0, none⟩), x.val] w fun e w' => e = .returned (.string sBuried) ∧ St w0 w' a g r p q b h s u v Ma ka (settleA Mb x.time) (kb + 1) ∧ Chg (fun k => footA a r q k ∨ footA b s v k) w w' := by
  refine (bury_any b h s u v kb Mb x w st.two hk).mono ?_
  rintro e w' ⟨rfl, hB, hc⟩
  exact ⟨rfl, st.did2 hB hc, hc.sub fun k hk => .inr hk⟩
end
end Go.Proofs.YteockodnfempfaaGreatDoor
