/- AppFirst: who reserves first has it. Conditions: those named in each theorem. -/
import Derived.Test.YtgeimnknmljplaaDoorP8
import Derived.Test.YtgeimnknmljplaaDoorP3
import Derived.Deep.CutBlock
import Derived.Lib.SlBytesConst
import Derived.Test.YtgeimnknmljplaaDoorP4
import Derived.Test.YtgeimnknmljplaaDoorP2
/- Acts to apps: entries, the example of the document. Conditions: those named in each theorem. -/
namespace Go.Proofs.YtgeimnknmljplaaDoor
open Go Go.RowKit Go.Gv Go.Sort Go.Proofs

def timeV (t : Int) : Int := if t % 9 = 8 then t else t % 60
def wakePl : List U8 := [⟨114⟩, ⟨101⟩, ⟨115⟩, ⟨101⟩, ⟨114⟩, ⟨118⟩, ⟨101⟩, ⟨32⟩, ⟨97⟩]
theorem wake_does : (execA M0 2 1 (bytesB wakePl)).1 = ⟨#[111, 107]⟩ ∧ (execA M0 2 1 (bytesB wakePl)).2.n = 1 := by
  constructor <;> decide +kernel
set_option maxRecDepth 100000 in
set_option maxHeartbeats 1000000 in
theorem wakesG_any (w0 w : World) (hL : LibIs w0) (hw : Bel w0 w) : Calls Tryd.prog 10 #[] w fun e w' => e = .returned (.bool true) ∧ Bel w w' := by
  have HL := Lib.hid hL; have HW := Lib.hid hw
  clear hL hw
  go_enter Tryd.func10, Tryd.ntmps10
  go_wp2_with fail
  refine (newApp_any w).mono ?_
  rintro _ w1 ⟨a, g, r, p, q, rfl, hA, hF, hb⟩
  have HA := Lib.hid hA; have HF := Lib.hid hF; have HB := Lib.hid hb
  clear hA hF hb
  have hcv := Lib.run_convert_bytes_const (P := Tryd.prog) w1 35 5 #[.int .u8 114, .int .u8 101, .int .u8 115, .int .u8 101, .int .u8 114, .int .u8 118, .int .u8 101, .int .u8 32, .int .u8 97] 9 9 (by kernel_rfl) (by kernel_rfl)
  have hb2 := (Bel.refl w1).alloc (.cells #[.int .u8 114, .int .u8 101, .int .u8 115, .int .u8 101, .int .u8 114, .int .u8 118, .int .u8 101, .int .u8 32, .int .u8 97] 5 (9, 10))
  have hsl : Sl U8 (w1.alloc (.cells #[.int .u8 114, .int .u8 101, .int .u8 115, .int .u8 101, .int .u8 114, .int .u8 118, .int .u8 101, .int .u8 32, .int .u8 97] 5 (9, 10))) (w1.alloc (.cells #[.int .u8 114, .int .u8 101, .int .u8 115, .int .u8 101, .int .u8 114, .int .u8 118, .int .u8 101, .int .u8 32, .int .u8 97] 5 (9, 10))).heap.size (some ⟨w1.heap.size, 0, none⟩) 9 wakePl :=
    Sl.of_row (heap_alloc_new w1 _) (by rfl) rfl (by simp)
  have HS := Lib.hid hsl; have HA2 := Lib.hid (HA.out.bel hb2); have HB2 := Lib.hid (HB.out.trans hb2)
  have hl1 := HA.out.lt
  have hl2 := HA.out.house.2.lt
  have hl3 := HA.out.reg.ltr
  have hz := HW.out.size
  clear hsl hb2
  go_wp2_with fail
  change Hid (AppIs (w1.alloc (.cells #[.int .u8 114, .int .u8 101, .int .u8 115, .int .u8 101, .int .u8 114, .int .u8 118, .int .u8 101, .int .u8 32, .int .u8 97] 5 (9, 10))) a g r p q M0 0) at HA2
  refine (exec_any w0 a g r p q 0 M0 ⟨⟨2, 1⟩, default, 1⟩ (some ⟨w1.heap.size, 0, none⟩) 9 9 wakePl _ HL.out (HW.out.trans HB2.out) HA2.out ?_ HS.out ?_ (by omega) (by omega)).mono ?_
  · intro k hk
    rcases HF.out k with h | h
    · omega
    · exact absurd (.inl hk) h
  · intro _ ad e hk
    injection e with e
    subst e
    unfold footA at hk
    simp only at hk
    omega
  rintro _ w3 ⟨rfl, hA3, hC3⟩
  have HB3 := Lib.hid (show Bel w w3 from Chg.bel2 HB2.out hC3 (fun k hk => (HF.out k).resolve_right (fun h => h (.inl hk))))
  have HA3 := Lib.hid hA3
  have hn := wake_does.2
  change (execA M0 2 1 (bytesB wakePl)).2.n = 1 at hn
  have hs : (execA M0 (⟨⟨2, 1⟩, default, 1⟩ : GEntry).name.client (⟨⟨2, 1⟩, default, 1⟩ : GEntry).time (bytesB wakePl)).1 = ⟨#[111, 107]⟩ := wake_does.1
  rw [hs]
  have HN := Lib.hid hn
  clear hs hn hcv hA3 hC3
  go_wp2_with fail
  refine (count_any a g r p q (0 + 2) _ w3 HA3.out).mono ?_
  rintro _ w4 ⟨rfl, rfl⟩
  have hn2 : (execA M0 (⟨⟨2, 1⟩, default, 1⟩ : GEntry).name.client (⟨⟨2, 1⟩, default, 1⟩ : GEntry).time (bytesB wakePl)).2.n = 1 := HN.out
  rw [hn2]
  clear hn2
  go_wp2_with fail
  go_ret
  exact ⟨rfl, HB3.out⟩
end Go.Proofs.YtgeimnknmljplaaDoor
/- Regions that leave their order open, where a call may come ahead of what looks behind it. Conditions: those named in each theorem. -/
namespace Go.Gv
open Go Go.RowKit

/-! G w w': what what looks may do; G2 w w': what any operation of the region may do: what looks sees the same behind it. -/
section
variable {P : Program} {ops : Array Oper} {md : Region.Mode} {Q : Exit → Act → World → Prop} {G G2 : World → World → Prop} {T U : List Nat}
def YieldsH (P : Program) (ops : Array Oper) (G G2 : World → World → Prop) (w : World) (o : Oper) (v : Value) (a : Act) : Prop :=
  (Region.wanted o (yielded ops a.tmps) = true ∧ ∀ w', G2 w w' → lookUponG P G w' v ((execOp a.eval o).run P w')) ∨ (Region.wanted o (yielded ops a.tmps) = false ∧ v = undef)
theorem YieldsH.of_same {w : World} {o : Oper} {v : Value} {a a' : Act} (hy : YieldsH P ops G G2 w o v a) (he : execOp a'.eval o = execOp a.eval o)
    (hw : Region.wanted o (yielded ops a'.tmps) = Region.wanted o (yielded ops a.tmps)) : YieldsH P ops G G2 w o v a' := by
  unfold YieldsH at *
  rw [he, hw]
  exact hy
theorem YieldsH.ext (ht : ∀ a b c, G2 a b → G2 b c → G2 a c) {w w1 : World} {o : Oper} {v : Value} {a : Act} (hy : YieldsH P ops G G2 w o v a) (h : G2 w w1) : YieldsH P ops G G2 w1 o v a := by
  rcases hy with ⟨h1, h2⟩ | h
  · exact .inl ⟨h1, fun w' hw' => h2 w' (ht _ _ _ h hw')⟩
  · exact .inr h
theorem YieldsH.wpOp (hrf : ∀ a, G a a) {i : Nat} {o : Oper} {v : Value} {a : Act} {w w' : World} {K : Act → World → Prop} (hi : ops[i]? = some o) (hy : YieldsH P ops G G2 w o v a) (hw' : G2 w w') (h : ∀ w'', G w' w'' → K (a.put o.dst v) w'') : wpOp P ops Q i K a w' := by
  unfold Go.wpOp
  simp only [hi]
  rcases hy with ⟨hw, hv⟩ | ⟨hw, rfl⟩
  · simp only [hw, if_true]
    refine .inl ?_
    have hz := hv w' hw'
    unfold Oper.wp
    generalize (execOp a.eval o).run P w' = r at hz
    cases r with
    | ok n w1 =>
      cases n <;> simp only [lookUponG] at hz <;> simp only [Oper.upon]
      case value u => obtain ⟨rfl, rfl⟩ := hz; exact h _ (hrf _)
      case skip => obtain ⟨rfl, rfl⟩ := hz; exact h _ (hrf _)
      case enter f args =>
        obtain ⟨rfl, hc⟩ := hz
        refine hc.mono fun e w'' ⟨he, hm⟩ => ?_
        subst he; exact h _ hm
    | halt x w1 => simp only [lookUponG] at hz
  · simp only [hw, Bool.false_eq_true, if_false]; exact h _ (hrf _)
theorem wpOp_putH {j : Nat} {oi oj : Oper} {v : Value} {w w0 : World} (hj : ops[j]? = some oj) (hap : oi.apart ops oj = true)
    (hsi : ∀ cs b, oi.op ≠ .select cs b) (hsj : ∀ cs b, oj.op ≠ .select cs b)
    (hQ : ∀ c a w, Q (.panic c) (a.put oi.dst v) w → Q (.panic c) a w) {K : Act → World → Prop} {a : Act}
    (hy : YieldsH P ops G G2 w0 oi v a) (h : wpOp P ops Q j K (a.put oi.dst v) w) :
    wpOp P ops Q j (fun a' w' => YieldsH P ops G G2 w0 oi v a' ∧ K (a'.put oi.dst v) w') a w := by
  obtain ⟨h1, h2, h3⟩ := Oper.apart_spec hap
  have keep : ∀ (a : Act), YieldsH P ops G G2 w0 oi v a → ∀ u, YieldsH P ops G G2 w0 oi v (a.put oj.dst u) := fun a hy u =>
    hy.of_same (execOp_put oi hsi a oj.dst u h3) (wanted_put oi a oj.dst u h3)
  have keepD : ∀ d, YieldsH P ops G G2 w0 oi v { a with defers := d :: a.defers } := fun d => hy.of_same rfl rfl
  unfold Go.wpOp at *
  simp only [hj] at *
  rw [wanted_put oj a oi.dst v h1] at h
  split
  · rename_i hw
    simp only [hw, if_true] at h
    rcases h with h | ⟨hasks, hlets⟩
    case inr => exact .inr ⟨by unfold Oper.asks at *; rw [execOp_put oj hsj a oi.dst v h1] at hasks; exact hasks, hlets⟩
    refine .inl ?_
    unfold Oper.wp at *
    rw [execOp_put oj hsj a oi.dst v h1] at h
    generalize (execOp a.eval oj).run P w = r at *
    cases r with
    | ok n w' =>
      cases n <;> simp only [Oper.upon] at h ⊢
      case value u => exact ⟨keep a hy u, by rw [← Act.put_comm a v u h2]; exact h⟩
      case skip => exact ⟨keep a hy _, by rw [← Act.put_comm a v undef h2]; exact h⟩
      case defer d =>
        refine ⟨keep _ (keepD d) _, ?_⟩
        rw [← Act.put_comm _ v undef h2, ← Act.put_defers]
        exact h
      case enter f args =>
        refine Calls.mono h fun e w'' he => ?_
        cases e with
        | returned u => exact ⟨keep a hy u, by rw [← Act.put_comm a v u h2]; exact he⟩
        | panicked c => exact hQ _ _ _ he
        | outgrown => exact he
      case row row args => exact Rows.mono h fun u w'' he => ⟨keep a hy u, by rw [← Act.put_comm a v u h2]; exact he⟩
    | halt x w' =>
      cases x <;> simp only [Oper.upon] at h ⊢
      case panic u => exact hQ _ _ _ h
  · rename_i hw
    simp only [hw] at h
    exact ⟨keep a hy _, by rw [← Act.put_comm a v undef h2]; exact h⟩

/-- Whatever order is picked from here on. -/
def wpH (P : Program) (md : Region.Mode) (ops : Array Oper) (Q : Exit → Act → World → Prop) (G G2 : World → World → Prop) (T U : List Nat) : Nat → Array Bool → Act → World → Prop
  | 0, listed, a, w => Region.ready md ops listed = [] ∧ ∀ w', G w w' → Q .normal a w'
  | fuel + 1, listed, a, w =>
    (Region.ready md ops listed = [] → ∀ w', G w w' → Q .normal a w') ∧
    ∀ i ∈ Region.ready md ops listed, ∀ w', G w w' → wpOp P ops Q i (fun a' w'' => (i ∉ T → G w' w'') ∧ (i ∉ U → G2 w' w'') ∧ wpH P md ops Q G G2 T U fuel (listed.setIfInBounds i true) a' w'') a w'
theorem wpH_ext (ht : ∀ a b c, G a b → G b c → G a c) {fuel : Nat} {listed : Array Bool} {a : Act} {w w1 : World} (h : wpH P md ops Q G G2 T U fuel listed a w) (h1 : G w w1) : wpH P md ops Q G G2 T U fuel listed a w1 := by
  cases fuel with
  | zero => exact ⟨h.1, fun w' hw' => h.2 _ (ht _ _ _ h1 hw')⟩
  | succ f => exact ⟨fun h0 w' hw' => h.1 h0 _ (ht _ _ _ h1 hw'), fun i hi w' hw' => h.2 i hi _ (ht _ _ _ h1 hw')⟩
theorem wpAny_of_H (hrf : ∀ a, G a a) : ∀ (fuel : Nat) (listed : Array Bool) (a : Act) (w : World), wpH P md ops Q G G2 T U fuel listed a w → wpAny P md ops Q fuel listed a w
  | 0, _, _, _, h => ⟨h.1, h.2 _ (hrf _)⟩
  | fuel + 1, _, _, _, h => ⟨fun h0 => h.1 h0 _ (hrf _), fun i hi => wpOp_mono (fun a' w' h' => wpAny_of_H hrf fuel _ a' w' h'.2.2) (h.2 i hi _ (hrf _))⟩

theorem wpH_first {i : Nat} {oi : Oper} {v : Value} (hrf : ∀ a, G a a) (ht : ∀ a b c, G a b → G b c → G a c) (ht2 : ∀ a b c, G2 a b → G2 b c → G2 a c) (hsub : ∀ a b, G a b → G2 a b) (hi : ops[i]? = some oi) (hsel : ∀ (j : Nat) (o : Oper) cs b, ops[j]? = some o → o.op ≠ .select cs b)
    (hQ : ∀ c (a a' : Act) w, a.defers = a'.defers → Q (.panic c) a w → Q (.panic c) a' w) (n : Nat) (hU : ∀ t ∈ U, i ∈ waitsFor md ops n t) :
    ∀ (fuel : Nat) (listed : Array Bool) (a : Act) (w : World), downC md ops listed →
      (∀ j oj, ops[j]? = some oj → j ≠ i → listed.getD j true = false → (∀ e ∈ oj.after, Region.binds md e = true → e.on ≠ i) → oi.apart ops oj = true) →
      i ∈ Region.ready md ops listed → YieldsH P ops G G2 w oi v a →
      wpH P md ops Q G G2 T U fuel (listed.setIfInBounds i true) (a.put oi.dst v) w → wpH P md ops Q G G2 T U (fuel + 1) listed a w := by
  intro fuel
  induction fuel with
  | zero =>
    intro listed a w hdc _ hr hy H
    refine ⟨fun h => (by rw [h] at hr; cases hr), fun j hj w' hw' => ?_⟩
    by_cases hji : j = i
    · subst hji
      exact hy.wpOp hrf hi (hsub _ _ hw') fun w'' hw'' => ⟨fun _ => hw'', fun _ => hsub _ _ hw'', wpH_ext ht H (ht _ _ _ hw' hw'')⟩
    · have := ready_mono hj hji
      rw [H.1] at this
      cases this
  | succ fuel ih =>
    intro listed a w hdc hfree hr hy H
    refine ⟨fun h => (by rw [h] at hr; cases hr), fun j hj w' hw' => ?_⟩
    by_cases hji : j = i
    · subst hji
      exact hy.wpOp hrf hi (hsub _ _ hw') fun w'' hw'' => ⟨fun _ => hw'', fun _ => hsub _ _ hw'', wpH_ext ht H (ht _ _ _ hw' hw'')⟩
    · have h1 := H.2 j (ready_mono hj hji) w' hw'
      obtain ⟨hjun, oj, hoj, hall⟩ := mem_ready.1 hj
      have hun : listed.getD i true = false := (mem_ready.1 hr).1
      have hun2 : listed.getD i false = false := by
        rcases Nat.lt_or_ge i listed.size with h' | h'
        · simpa [h'] using hun
        · simp [Array.getElem?_eq_none h'] at hun
      have hnot : ∀ e ∈ oj.after, Region.binds md e = true → e.on ≠ i := fun e he hb heq => by
        have h1 := hall e he hb
        rw [heq, hun2] at h1; cases h1
      have hjU : j ∉ U := fun hjt => by
        have := ready_waits hdc hj (hU j hjt)
        rw [hun2] at this; cases this
      have h2 := wpOp_putH (G := G) (G2 := G2) hoj (hfree j oj hoj hji hjun hnot) (fun cs b => hsel i oi cs b hi) (fun cs b => hsel j oj cs b hoj) (fun c a w h => hQ c _ _ w (by cases oi.dst <;> rfl) h) (hy.ext ht2 (hsub _ _ hw')) h1
      have hfree' : ∀ k ok, ops[k]? = some ok → k ≠ i → (listed.setIfInBounds j true).getD k true = false →
          (∀ e ∈ ok.after, Region.binds md e = true → e.on ≠ i) → oi.apart ops ok = true := fun k ok hk hki hun hno => by
        refine hfree k ok hk hki ?_ hno
        by_cases hjk : j = k
        · subst hjk; exact hjun
        · rw [getD_set_ne true hjk] at hun; exact hun
      refine wpOp_mono (fun a' w'' h3 => ⟨h3.2.1, h3.2.2.1, ?_⟩) h2
      obtain ⟨hy', _, hG2, h4⟩ := h3
      refine ih (listed.setIfInBounds j true) a' w'' (downC_set hdc hj) hfree' (ready_mono hr (Ne.symm hji)) (hy'.ext ht2 (hG2 hjU)) ?_
      rw [Array.setIfInBounds_comm _ _ hji]
      exact h4

def permE (md : Region.Mode) (ops : Array Oper) (U : List Nat) (m : Nat) : List Nat → Array Bool → Bool
  | [], _ => true
  | i :: hd, listed => (Region.ready md ops listed).contains i && Region.free md ops listed i && (U.all fun t => (waitsFor md ops m t).contains i) && permE md ops U m hd (listed.setIfInBounds i true)
theorem wpH_looks_aux {ι : Type} {W : ι → World} (hrf : ∀ a, G a a) (ht : ∀ a b c, G a b → G b c → G a c) (ht2 : ∀ a b c, G2 a b → G2 b c → G2 a c) (hsub : ∀ a b, G a b → G2 a b) (hs : Region.noSelect ops = true) (hQ : ∀ c (a a' : Act) w, a.defers = a'.defers → Q (.panic c) a w → Q (.panic c) a' w) (m fuel : Nat) (w : World) (hW : ∀ w', G2 w w' → ∃ z, w' = W z) :
    ∀ (hd : List Nat) (lh : List Oper) (listed : Array Bool) (a : Act), hd.mapM (fun i => ops[i]?) = some lh → downC md ops listed → permE md ops U m hd listed = true →
    wpLooksG P ops G W (fun a' => wpH P md ops Q G G2 T U fuel (setAll listed hd) a' w) lh a → wpH P md ops Q G G2 T U (hd.length + fuel) listed a w
  | [], lh, listed, a, hl, _, _, h => by
    simp at hl; subst hl
    have e : ([] : List Nat).length + fuel = fuel := by simp
    rw [e]; exact h
  | i :: hd, lh, listed, a, hl, hdc, hB, h => by
    simp only [List.mapM_cons, Option.bind_eq_bind, Option.pure_def] at hl
    cases hi : ops[i]? with
    | none => simp [hi] at hl
    | some o =>
      cases hr : hd.mapM (fun i => ops[i]?) with
      | none => simp [hi, hr] at hl
      | some l' =>
        simp [hi, hr] at hl
        subst hl
        simp only [permE, Bool.and_eq_true, List.all_eq_true, List.contains_iff_mem] at hB
        obtain ⟨⟨⟨hB1, hB2⟩, hB3⟩, hB4⟩ := hB
        rw [show (i :: hd).length + fuel = (hd.length + fuel) + 1 by simp; omega]
        unfold wpLooksG at h
        split at h
        · rename_i hw
          obtain ⟨v, hv, hk⟩ := h
          exact wpH_first hrf ht ht2 hsub hi (Region.noSelect_spec hs) hQ m hB3 _ listed a w hdc (Region.free_spec hi hB2) hB1 (.inl ⟨hw, fun w' hw' => by
            obtain ⟨z, rfl⟩ := hW w' hw'
            exact hv z⟩) (wpH_looks_aux hrf ht ht2 hsub hs hQ m fuel w hW hd l' _ _ hr (downC_set hdc hB1) hB4 hk)
        · rename_i hw
          exact wpH_first hrf ht ht2 hsub hi (Region.noSelect_spec hs) hQ m hB3 _ listed a w hdc (Region.free_spec hi hB2) hB1 (.inr ⟨by simpa using hw, rfl⟩) (wpH_looks_aux hrf ht ht2 hsub hs hQ m fuel w hW hd l' _ _ hr (downC_set hdc hB1) hB4 h)
/-- What looks comes first; W z: the worlds in which it may look. -/
theorem wpH_looks {l : List Oper} {n : Nat} {lh : List Oper} {listed : Array Bool} {a : Act} {w : World} (fuel m : Nat) (hd : List Nat) (hn : n = hd.length + fuel) (hrf : ∀ a, G a a) (ht : ∀ a b c, G a b → G b c → G a c) (hrf2 : ∀ a, G2 a a) (ht2 : ∀ a b c, G2 a b → G2 b c → G2 a c) (hsub : ∀ a b, G a b → G2 a b) (hs : Region.noSelect l.toArray = true) (hQ : ∀ c (a a' : Act) w, a.defers = a'.defers → Q (.panic c) a w → Q (.panic c) a' w)
    (hl : picks l hd = some lh) (hB : (downB md l.toArray listed && permE md l.toArray U m hd listed) = true)
    (h : ∀ (ι : Type) (W : ι → World), Nonempty ι → Hid (∀ z, G2 w (W z)) → wpLooksG P l.toArray G W (fun a' => wpH P md l.toArray Q G G2 T U fuel (setAll listed hd) a' w) lh a) : wpH P md l.toArray Q G G2 T U n listed a w := by
  subst hn
  rw [Bool.and_eq_true] at hB
  obtain ⟨ι, W, hne, hW, hWs⟩ := classFam (G2 w) (hrf2 w)
  exact wpH_looks_aux hrf ht ht2 hsub hs hQ m fuel w hWs hd lh listed a (picks_eq l hd lh hl) (downB_spec hB.1) hB.2 (h ι W hne (Lib.hid hW))
/-- One operation alone is ready. -/
theorem wpH_force {l : List Oper} {fuel : Nat} {listed : Array Bool} {a : Act} {w : World} (t : Nat) (o : Oper) (ho : nthO l t = some o) (hr : (Region.ready md l.toArray listed == [t]) = true) (hg : o.guard = none)
    (h : ∀ w', G w w' → ∀ K : Act → World → Prop, (∀ a' w'', (t ∉ T → G w' w'') → (t ∉ U → G2 w' w'') → wpH P md l.toArray Q G G2 T U fuel (listed.setIfInBounds t true) a' w'' → K a' w'') → o.wp P a w' K Q) : wpH P md l.toArray Q G G2 T U (fuel + 1) listed a w := by
  have ho : l.toArray[t]? = some o := by rw [← ho, nthO_eq]; simp
  have hr' : Region.ready md l.toArray listed = [t] := by simpa using hr
  refine ⟨fun h0 => (by rw [hr'] at h0; cases h0), fun i hi w' hw' => ?_⟩
  rw [hr'] at hi
  obtain rfl : i = t := by simpa using hi
  unfold Go.wpOp
  simp only [ho]
  rw [if_pos (by simp [Region.wanted, hg])]
  exact .inl (h w' hw' _ fun a' w'' h1 h2 h3 => ⟨h1, h2, h3⟩)
theorem wpH_end {listed : Array Bool} {a : Act} {w : World} (hr : (Region.ready md ops listed).isEmpty = true) (h : ∀ w', G w w' → Q .normal a w') : ∀ fuel, wpH P md ops Q G G2 T U fuel listed a w
  | 0 => ⟨by simpa using hr, h⟩
  | _ + 1 => ⟨fun _ => h, fun i hi => by
      have : Region.ready md ops listed = [] := by simpa using hr
      rw [this] at hi; cases hi⟩
/-- Two operations are ready. -/
theorem wpH_two {l : List Oper} {fuel : Nat} {listed : Array Bool} {a : Act} {w : World} (t1 t2 : Nat) (o1 o2 : Oper) (ho1 : nthO l t1 = some o1) (ho2 : nthO l t2 = some o2) (hr : (Region.ready md l.toArray listed == [t1, t2]) = true) (hg1 : o1.guard = none) (hg2 : o2.guard = none)
    (h1 : ∀ w', G w w' → ∀ K : Act → World → Prop, (∀ a' w'', (t1 ∉ T → G w' w'') → (t1 ∉ U → G2 w' w'') → wpH P md l.toArray Q G G2 T U fuel (listed.setIfInBounds t1 true) a' w'' → K a' w'') → o1.wp P a w' K Q)
    (h2 : ∀ w', G w w' → ∀ K : Act → World → Prop, (∀ a' w'', (t2 ∉ T → G w' w'') → (t2 ∉ U → G2 w' w'') → wpH P md l.toArray Q G G2 T U fuel (listed.setIfInBounds t2 true) a' w'' → K a' w'') → o2.wp P a w' K Q) : wpH P md l.toArray Q G G2 T U (fuel + 1) listed a w := by
  have ho1 : l.toArray[t1]? = some o1 := by rw [← ho1, nthO_eq]; simp
  have ho2 : l.toArray[t2]? = some o2 := by rw [← ho2, nthO_eq]; simp
  have hr' : Region.ready md l.toArray listed = [t1, t2] := by simpa using hr
  refine ⟨fun h0 => (by rw [hr'] at h0; cases h0), fun i hi w' hw' => ?_⟩
  rw [hr'] at hi
  simp only [List.mem_cons, List.not_mem_nil, or_false] at hi
  unfold Go.wpOp
  rcases hi with rfl | rfl
  · simp only [ho1]
    rw [if_pos (by simp [Region.wanted, hg1])]
    exact .inl (h1 w' hw' _ fun a' w'' k1 k2 k3 => ⟨k1, k2, k3⟩)
  · simp only [ho2]
    rw [if_pos (by simp [Region.wanted, hg2])]
    exact .inl (h2 w' hw' _ fun a' w'' k1 k2 k3 => ⟨k1, k2, k3⟩)
theorem wp_region_H {id : Nat} {a : Act} {w : World} {l : List Oper} (G G2 : World → World → Prop) (T U : List Nat) (hrf : ∀ a, G a a) (hm : P.follows .mixedOrders = true)
    (h : wpH P .any l.toArray Q G G2 T U l.toArray.size (Array.replicate l.toArray.size false) a w.drew) : (Code.region id l.toArray true).wp P Q a w :=
  wp_region_any hm (wpAny_of_H hrf _ _ _ _ h)
end
/-- What was there below B stands. -/
def GZ (B : Nat) (a b : World) : Prop := B ≤ a.heap.size → Below B a b
theorem GZ.rf (B : Nat) (a : World) : GZ B a a := fun _ => Below.refl _ _
theorem GZ.tr (B : Nat) (a b c : World) (h : GZ B a b) (k : GZ B b c) : GZ B a c := fun hb => Below.trans (h hb) (k (Nat.le_trans hb (Below.size (h hb))))
theorem GZ.sub (B : Nat) (a b : World) (h : GB a b) : GZ B a b := fun hb => Below.mono h hb
end Go.Gv
/- A number's digits, as the document writes them. Conditions: those named in each theorem. -/
namespace Go.Proofs.YtgeimnknmljplaaDoor
open Go Go.RowKit Go.Gv Go.Sort Go.Proofs

/-- One digit, as a text. -/
theorem dig_conv (w : World) (b k : Nat) (hk : k < 10) (h0 : w.cell? ⟨b, 0, none⟩ = some (.int .u8 (48 + (k : Int)))) :
    (convert 35 9 (.slice (some ⟨b, 0, none⟩) 1 1)).run Tryd.prog w = .ok (.string ⟨#[UInt8.ofNat (48 + k)]⟩) w := by
  have := run_convert_bytes_back (P := Tryd.prog) w 35 9 5 ⟨b, 0, none⟩ 1 [UInt8.ofNat (48 + k)] (by kernel_rfl) (by kernel_rfl) (by kernel_rfl) (fun j hj => by
    match j, hj with
    | 0, _ =>
      show w.cell? ⟨b, 0, none⟩ = _
      rw [h0]
      show some (Value.int .u8 (48 + (k : Int))) = some (Value.int .u8 (((UInt8.ofNat (48 + k)).toNat : Nat) : Int))
      rw [UInt8.toNat_ofNat', show (48 + k) % 2 ^ 8 = 48 + k from by omega]
      push_cast
      rfl)
  exact this
def digS (n : Nat) : ByteArray := ⟨(Lib.decDigits n).toArray⟩
theorem digS_one {n : Nat} (h : n < 10) : digS n = ⟨#[UInt8.ofNat (48 + n)]⟩ := by unfold digS; rw [Lib.decDigits_one h]
theorem digS_more {n : Nat} (h : ¬ n < 10) : digS n = digS (n / 10) ++ ⟨#[UInt8.ofNat (48 + n % 10)]⟩ := by
  unfold digS
  conv => lhs; rw [Lib.decDigits, dif_neg h]
  apply ByteArray.ext
  rw [ByteArray.data_append]
  apply Array.ext'
  simp
theorem digS_size (n : Nat) : (digS n).size ≤ n + 1 := by
  induction n using Nat.strongRecOn with
  | _ n ih =>
    by_cases h : n < 10
    · rw [digS_one h]; show 1 ≤ n + 1; omega
    · have := ih (n / 10) (by omega)
      rw [digS_more h, ByteArray.size_append]
      show (digS (n / 10)).size + 1 ≤ n + 1
      omega
set_option maxRecDepth 100000 in
set_option maxHeartbeats 2000000 in
theorem digits_any (n : Nat) : ∀ (w : World), n ≤ 1125899906842624 →
    Calls Tryd.prog 9 #[.int .i64 (n : Int)] w fun e w' => e = .returned (.string (digS n)) ∧ Bel w w' := by
  induction n using Nat.strongRecOn with
  | _ n ih =>
    intro w hn
    by_cases h10 : n < 10
    · have h10i : (n : Int) < 10 := by omega
      have e1 : IntKind.i64.wrap (48 + (n : Int)) = 48 + (n : Int) := IntWalk.i64_in _ (by omega)
      have e2 : IntKind.u8.wrap (48 + (n : Int)) = 48 + (n : Int) := IntWalk.u8_in _ (by omega)
      have hcv : (convert 35 9 (.slice (some ⟨w.heap.size, 0, none⟩) 1 1)).run Tryd.prog (w.alloc (.cells #[.int .u8 (48 + (n : Int))] 5)) = .ok (.string ⟨#[UInt8.ofNat (48 + n)]⟩) (w.alloc (.cells #[.int .u8 (48 + (n : Int))] 5)) := by
        refine dig_conv _ _ n h10 ?_
        unfold World.cell?; rw [heap_alloc_new]; rfl
      rw [← digS_one h10] at hcv
      clear ih
      go_enter Tryd.func9, Tryd.ntmps9
      go_wp2_with fail
      go_ret
      exact ⟨rfl, (Bel.refl _).alloc _⟩
    · have h10i : ¬ (n : Int) < 10 := by omega
      obtain ⟨q, hq⟩ : ∃ q, n / 10 = q := ⟨_, rfl⟩
      obtain ⟨m, hm⟩ : ∃ m, n % 10 = m := ⟨_, rfl⟩
      have hm9 : m < 10 := by omega
      have hq9 : q < n := by omega
      have HIH := Lib.hid (ih q hq9)
      have hS := digS_more h10
      rw [hq, hm] at hS
      have hsz := digS_size q
      have HS := Lib.hid hS
      have d1 : Int.tdiv (n : Int) 10 = (q : Int) := by rw [← hq]; rfl
      have d2 : Int.tmod (n : Int) 10 = (m : Int) := by rw [← hm]; rfl
      have e0 : IntKind.i64.wrap (q : Int) = (q : Int) := IntWalk.i64_in _ (by omega)
      have e3 : IntKind.i64.wrap (m : Int) = (m : Int) := IntWalk.i64_in _ (by omega)
      have e1 : IntKind.i64.wrap (48 + (m : Int)) = 48 + (m : Int) := IntWalk.i64_in _ (by omega)
      have e2 : IntKind.u8.wrap (48 + (m : Int)) = 48 + (m : Int) := IntWalk.u8_in _ (by omega)
      obtain ⟨S, hSd⟩ : ∃ S, digS m = S := ⟨_, rfl⟩
      have hS1 : S.size = 1 := by rw [← hSd, digS_one hm9]; rfl
      obtain ⟨Q, hQd⟩ : ∃ Q, digS q = Q := ⟨_, rfl⟩
      rw [← digS_one hm9, hSd, hQd] at HS
      rw [hQd] at hsz HIH
      have hsz2 : ¬ 9223372036854775807 < Q.size + 1 := by omega
      have HSD := Lib.hid hSd
      clear hSd hQd
      clear ih hS hq hm
      go_enter Tryd.func9, Tryd.ntmps9
      go_upto_region 3 with fail
      go_cut [2] (fun v wx => v = .string (digS n) ∧ Bel w wx)
      case first => as_aux_lemma =>
        refine wp_region_G GB [] GB.rf (by kernel_rfl) ?_
        refine wpG_looks 5 11 [0,1,3,4,5,6] rfl GB.rf GB.tr (by kernel_rfl) (fun _ _ _ _ hd h => And.intro (hd ▸ And.left h) (And.right h)) rfl (by kernel_rfl) ?_
        intro ι W hne CW
        clear CW
        repeat (refine wpLooksG_step (fun K hK => ?_); go_simp; refine hK _ ?_; clear hK K)
        refine wpLooksG_nil ?_
        clear hne W ι
        --GOAL
        refine wpG_two 2 7 _ _ rfl rfl (by kernel_rfl) rfl rfl ?_ ?_
        · intro wa hq K hK
          have HB := Lib.hid (show Bel w wa from hq.undrew)
          go_simp
          refine (HIH.out wa (by omega)).mono ?_
          rintro _ wb ⟨rfl, hb⟩
          refine hK _ _ (fun _ => hb) ?_
          have HB := Lib.hid (HB.out.trans hb)
          clear hK K hq hb
          refine wpG_force 7 _ rfl (by kernel_rfl) rfl fun wc hq K hK => ?_
          have HB := Lib.hid (HB.out.trans hq)
          go_simp
          refine hK _ _ (fun _ => GB.al _ _) ?_
          clear hK K hq
          have HB := Lib.hid (HB.out.alloc (.cells #[.int .u8 (48 + (m : Int))] 5))
          have h0 : (wc.alloc (.cells #[.int .u8 (48 + (m : Int))] 5)).cell? ⟨wc.heap.size, 0, none⟩ = some (.int .u8 (48 + (m : Int))) := by unfold World.cell?; rw [heap_alloc_new]; rfl
          refine wpG_force 8 _ rfl (by kernel_rfl) rfl fun wd hq K hK => ?_
          have hcv := dig_conv wd wc.heap.size m hm9 (GB.cell hq h0)
          rw [← digS_one hm9, HSD.out] at hcv
          have HB := Lib.hid (HB.out.trans hq)
          go_simp
          refine hK _ _ (fun _ => GB.rf _) ?_
          clear hK K hq h0 hcv
          refine wpG_force 9 _ rfl (by kernel_rfl) rfl fun we hq K hK => ?_
          have HB := Lib.hid (HB.out.trans hq)
          go_simp
          refine hK _ _ (fun _ => GB.rf _) ?_
          clear hK K hq
          refine wpG_force 10 _ rfl (by kernel_rfl) rfl fun wf hq K hK => ?_
          have HB := Lib.hid (HB.out.trans hq)
          go_simp
          refine hK _ _ (fun _ => GB.rf _) ?_
          clear hK K hq
          refine wpG_end (by kernel_rfl) (fun wn hwn => ?_) _
          have HB := Lib.hid (HB.out.trans hwn)
          clear hwn
          go_wp2_with fail
          go_meet
          exact ⟨by rw [HS.out], HB.out⟩
        · intro wa hq K hK
          have HB := Lib.hid (show Bel w wa from hq.undrew)
          go_simp
          refine hK _ _ (fun _ => GB.al _ _) ?_
          clear hK K hq
          have HB := Lib.hid (HB.out.alloc (.cells #[.int .u8 (48 + (m : Int))] 5))
          have h0 : (wa.alloc (.cells #[.int .u8 (48 + (m : Int))] 5)).cell? ⟨wa.heap.size, 0, none⟩ = some (.int .u8 (48 + (m : Int))) := by unfold World.cell?; rw [heap_alloc_new]; rfl
          have H0 := Lib.hid h0
          clear h0
          refine wpG_two 2 8 _ _ rfl rfl (by kernel_rfl) rfl rfl ?_ ?_
          · intro wb hq K hK
            have HB := Lib.hid (HB.out.trans hq)
            have H0 := Lib.hid (GB.cell hq H0.out)
            go_simp
            refine (HIH.out wb (by omega)).mono ?_
            rintro _ wc ⟨rfl, hb⟩
            refine hK _ _ (fun _ => hb) ?_
            have HB := Lib.hid (HB.out.trans hb)
            have H0 := Lib.hid (GB.cell hb H0.out)
            clear hK K hq hb
            refine wpG_force 8 _ rfl (by kernel_rfl) rfl fun wd hq K hK => ?_
            have hcv := dig_conv wd wa.heap.size m hm9 (GB.cell hq H0.out)
            rw [← digS_one hm9, HSD.out] at hcv
            have HB := Lib.hid (HB.out.trans hq)
            go_simp
            refine hK _ _ (fun _ => GB.rf _) ?_
            clear hK K hq hcv
            refine wpG_force 9 _ rfl (by kernel_rfl) rfl fun we hq K hK => ?_
            have HB := Lib.hid (HB.out.trans hq)
            go_simp
            refine hK _ _ (fun _ => GB.rf _) ?_
            clear hK K hq
            refine wpG_force 10 _ rfl (by kernel_rfl) rfl fun wf hq K hK => ?_
            have HB := Lib.hid (HB.out.trans hq)
            go_simp
            refine hK _ _ (fun _ => GB.rf _) ?_
            clear hK K hq
            refine wpG_end (by kernel_rfl) (fun wn hwn => ?_) _
            have HB := Lib.hid (HB.out.trans hwn)
            clear hwn
            go_wp2_with fail
            go_meet
            exact ⟨by rw [HS.out], HB.out⟩
          · intro wb hq K hK
            have HB := Lib.hid (HB.out.trans hq)
            have hcv := dig_conv wb wa.heap.size m hm9 (GB.cell hq H0.out)
            rw [← digS_one hm9, HSD.out] at hcv
            go_simp
            refine hK _ _ (fun _ => GB.rf _) ?_
            clear hK K hq hcv
            refine wpG_force 2 _ rfl (by kernel_rfl) rfl fun wc hq K hK => ?_
            have HB := Lib.hid (HB.out.trans hq)
            go_simp
            refine (HIH.out wc (by omega)).mono ?_
            rintro _ wd ⟨rfl, hb⟩
            refine hK _ _ (fun _ => hb) ?_
            have HB := Lib.hid (HB.out.trans hb)
            clear hK K hq hb
            refine wpG_force 9 _ rfl (by kernel_rfl) rfl fun we hq K hK => ?_
            have HB := Lib.hid (HB.out.trans hq)
            go_simp
            refine hK _ _ (fun _ => GB.rf _) ?_
            clear hK K hq
            refine wpG_force 10 _ rfl (by kernel_rfl) rfl fun wf hq K hK => ?_
            have HB := Lib.hid (HB.out.trans hq)
            go_simp
            refine hK _ _ (fun _ => GB.rf _) ?_
            clear hK K hq
            refine wpG_end (by kernel_rfl) (fun wn hwn => ?_) _
            have HB := Lib.hid (HB.out.trans hwn)
            clear hwn
            go_wp2_with fail
            go_meet
            exact ⟨by rw [HS.out], HB.out⟩
      case rest =>
        obtain ⟨rfl, hb⟩ := hcut
        have HB := Lib.hid hb
        clear hb
        go_wp2_with fail
        go_ret
        exact ⟨rfl, HB.out⟩
end Go.Proofs.YtgeimnknmljplaaDoor
/- AppFirst: who reserves first has it. Conditions: those named in each theorem. -/
namespace Go.Proofs.YtgeimnknmljplaaDoor
open Go Go.RowKit Go.Gv Go.Sort Go.Proofs

/-- An app behind a world in which the library's variables lie. -/
structure AF (w wr : World) (a g r p q : Nat) (M : MApp) (kk : Nat) : Prop where
  app : AppIs wr a g r p q M kk
  bel : Bel w wr
  far : ∀ k, footA a r q k → w.heap.size ≤ k
section
variable {w wr w' : World} {a g r p q kk : Nat} {M : MApp}
theorem AF.step (h : AF w wr a g r p q M kk) (hb : Bel wr w') : AF w w' a g r p q M kk := ⟨h.app.bel hb, h.bel.trans hb, h.far⟩
theorem AF.mono {j : Nat} (h : AF w wr a g r p q M kk) (hj : kk ≤ j) : AF w wr a g r p q M j := ⟨h.app.mono hj, h.bel, h.far⟩
theorem AF.foot (h : AF w wr a g r p q M kk) : ∀ k, footA a r q k → k < wr.heap.size := fun k hk => by
  have l1 := h.app.lt; have l2 := h.app.house.2.lt; have l3 := h.app.reg.ltr
  unfold footA at hk
  omega
theorem AF.exec (h : AF w wr a g r p q M kk) (x : GEntry) (B : Option Addr) (n c : Nat) (ys : List U8) (hL : LibIs w) (hy : Sl U8 wr wr.heap.size B n ys) (hB : ∀ ad, B = some ad → ¬ footA a r q ad.block) (hn : n ≤ 1000) (hk : kk ≤ 1000) {s : ByteArray} {M' : MApp} (hE : execA M x.name.client x.time (bytesB ys) = (s, M')) :
    Calls Tryd.prog 8 #[.pointer (some ⟨a, 0, none⟩), x.val, .slice B n c] wr fun e w' => e = .returned (.string s) ∧ AF w w' a g r p q M' (kk + 2) ∧ Chg (footA a r q) wr w' := by
  refine (exec_any w a g r p q kk M x B n c ys wr hL h.bel h.app h.far hy (fun _ => hB) (by omega) hk).mono ?_
  rintro e w2 ⟨rfl, hA, hc⟩
  rw [hE] at hA ⊢
  exact ⟨rfl, ⟨hA, Chg.bel2 h.bel hc h.far, h.far⟩, hc⟩
end
def itB : ByteArray := ⟨#[105, 116]⟩
def reservePl : List U8 := [⟨114⟩, ⟨101⟩, ⟨115⟩, ⟨101⟩, ⟨114⟩, ⟨118⟩, ⟨101⟩, ⟨32⟩, ⟨105⟩, ⟨116⟩]
def releasePl : List U8 := [⟨114⟩, ⟨101⟩, ⟨108⟩, ⟨101⟩, ⟨97⟩, ⟨115⟩, ⟨101⟩, ⟨32⟩, ⟨105⟩, ⟨116⟩]
def ownerPl : List U8 := [⟨111⟩, ⟨119⟩, ⟨110⟩, ⟨101⟩, ⟨114⟩, ⟨32⟩, ⟨105⟩, ⟨116⟩]
theorem reserve_words : wordsM (bytesB reservePl) = [⟨#[114, 101, 115, 101, 114, 118, 101]⟩, itB] := by decide +kernel
theorem release_words : wordsM (bytesB releasePl) = [⟨#[114, 101, 108, 101, 97, 115, 101]⟩, itB] := by decide +kernel
theorem owner_words : wordsM (bytesB ownerPl) = [⟨#[111, 119, 110, 101, 114]⟩, itB] := by decide +kernel
theorem it_name : nameB itB = true := by decide +kernel
/-- The app whose item has this owner (below 0: none), behind n acts. -/
def MF (o n : Int) : MApp := ⟨[], if o < 0 then [] else [(itB, o)], n⟩
theorem MF_settle (o n t : Int) : settleA (MF o n) t = MF o (n + 1) := rfl
theorem MF_may {c : Int} (h0 : 0 ≤ c) (h4 : c < 4) : mayB itB c = true := by
  unfold mayB
  rw [it_name, decide_eq_true h0, decide_eq_true (show c < 100 by omega)]
  rfl
theorem told0 : toldI 0 = (⟨#[111, 107]⟩ : ByteArray) := by decide +kernel
theorem told5 : toldI 5 = (⟨#[101, 114, 114, 111, 114, 32, 53]⟩ : ByteArray) := by decide +kernel
theorem told6 : toldI 6 = (⟨#[101, 114, 114, 111, 114, 32, 54]⟩ : ByteArray) := by decide +kernel
theorem told12 : toldI 12 = (⟨#[101, 114, 114, 111, 114, 32, 49, 50]⟩ : ByteArray) := by decide +kernel
theorem doA_reserve (M : MApp) (c t : Int) : doA M [⟨#[114, 101, 115, 101, 114, 118, 101]⟩, itB] c t = (toldI (reserveR M.reg itB c), { M with reg := reserveQ M.reg itB c }) := by
  unfold doA
  rw [if_neg (by decide +kernel), if_neg (by decide +kernel), if_neg (by decide +kernel), if_neg (by decide +kernel), if_neg (by decide +kernel), if_pos (by decide +kernel)]
  rfl
theorem doA_release (M : MApp) (c t : Int) : doA M [⟨#[114, 101, 108, 101, 97, 115, 101]⟩, itB] c t = (toldI (releaseR M.reg itB c), { M with reg := releaseQ M.reg itB c }) := by
  unfold doA
  rw [if_neg (by decide +kernel), if_neg (by decide +kernel), if_neg (by decide +kernel), if_neg (by decide +kernel), if_neg (by decide +kernel), if_neg (by decide +kernel), if_pos (by decide +kernel)]
  rfl
theorem doA_owner (M : MApp) (c t : Int) : doA M [⟨#[111, 119, 110, 101, 114]⟩, itB] c t = (ownerS M itB, M) := by
  unfold doA
  rw [if_neg (by decide +kernel), if_neg (by decide +kernel), if_neg (by decide +kernel), if_neg (by decide +kernel), if_neg (by decide +kernel), if_neg (by decide +kernel), if_neg (by decide +kernel), if_pos (by decide +kernel)]
  rfl
theorem reserve_free {o c n t : Int} (ho : o < 0) (h0 : 0 ≤ c) (h4 : c < 4) : execA (MF o n) c t (bytesB reservePl) = (⟨#[111, 107]⟩, MF c (n + 1)) := by
  unfold execA
  rw [reserve_words, MF_settle, doA_reserve]
  have hr : (MF o (n + 1)).reg = [] := if_pos ho
  have h1 : reserveR [] itB c = 0 := by unfold reserveR; rw [if_pos (MF_may h0 h4)]; rfl
  have h2 : reserveQ [] itB c = [(itB, c)] := by unfold reserveQ; rw [if_pos h1]; rfl
  rw [hr, h1, h2, told0]
  unfold MF
  rw [if_neg (show ¬ c < 0 by omega)]
theorem reserve_had {o c n t : Int} (ho : ¬ o < 0) (h0 : 0 ≤ c) (h4 : c < 4) : execA (MF o n) c t (bytesB reservePl) = (⟨#[101, 114, 114, 111, 114, 32, 53]⟩, MF o (n + 1)) := by
  unfold execA
  rw [reserve_words, MF_settle, doA_reserve]
  have hr : (MF o (n + 1)).reg = [(itB, o)] := if_neg ho
  have h1 : reserveR [(itB, o)] itB c = 5 := by unfold reserveR; rw [if_pos (MF_may h0 h4)]; rfl
  have h2 : reserveQ [(itB, o)] itB c = [(itB, o)] := by unfold reserveQ; rw [h1]; rfl
  rw [hr, h1, h2, told5, ← hr]
theorem release_free {o c n t : Int} (ho : o < 0) (h0 : 0 ≤ c) (h4 : c < 4) : execA (MF o n) c t (bytesB releasePl) = (⟨#[101, 114, 114, 111, 114, 32, 54]⟩, MF o (n + 1)) := by
  unfold execA
  rw [release_words, MF_settle, doA_release]
  have hr : (MF o (n + 1)).reg = [] := if_pos ho
  have h1 : releaseR [] itB c = 6 := by unfold releaseR; rw [if_pos (MF_may h0 h4)]; rfl
  have h2 : releaseQ [] itB c = [] := by unfold releaseQ; rw [h1]; rfl
  rw [hr, h1, h2, told6, ← hr]
theorem release_own {o n t : Int} (h0 : 0 ≤ o) (h4 : o < 4) : execA (MF o n) o t (bytesB releasePl) = (⟨#[111, 107]⟩, MF (-1) (n + 1)) := by
  unfold execA
  rw [release_words, MF_settle, doA_release]
  have hr : (MF o (n + 1)).reg = [(itB, o)] := if_neg (by omega)
  have hg : mget [(itB, o)] itB = some o := by rw [mget_cons, if_pos rfl]
  have h1 : releaseR [(itB, o)] itB o = 0 := by unfold releaseR; rw [if_pos (MF_may h0 h4), hg]; simp
  have h2 : releaseQ [(itB, o)] itB o = [] := by unfold releaseQ; rw [if_pos h1]; rfl
  rw [hr, h1, h2, told0]
  rfl
theorem release_other {o c n t : Int} (ho : ¬ o < 0) (hne : o ≠ c) (h0 : 0 ≤ c) (h4 : c < 4) : execA (MF o n) c t (bytesB releasePl) = (⟨#[101, 114, 114, 111, 114, 32, 49, 50]⟩, MF o (n + 1)) := by
  unfold execA
  rw [release_words, MF_settle, doA_release]
  have hr : (MF o (n + 1)).reg = [(itB, o)] := if_neg ho
  have hg : mget [(itB, o)] itB = some o := by rw [mget_cons, if_pos rfl]
  have h1 : releaseR [(itB, o)] itB c = 12 := by unfold releaseR; rw [if_pos (MF_may h0 h4), hg]; simp [hne]
  have h2 : releaseQ [(itB, o)] itB c = [(itB, o)] := by unfold releaseQ; rw [h1]; rfl
  rw [hr, h1, h2, told12, ← hr]
theorem owner_none {o c n t : Int} (ho : o < 0) : execA (MF o n) c t (bytesB ownerPl) = (⟨#[110, 111, 110, 101]⟩, MF o (n + 1)) := by
  unfold execA
  rw [owner_words, MF_settle, doA_owner]
  have hr : (MF o (n + 1)).reg = [] := if_pos ho
  unfold ownerS
  rw [hr]
  rfl
theorem owner_some {o c n t : Int} (ho : ¬ o < 0) : execA (MF o n) c t (bytesB ownerPl) = (itoaB o, MF o (n + 1)) := by
  unfold execA
  rw [owner_words, MF_settle, doA_owner]
  have hr : (MF o (n + 1)).reg = [(itB, o)] := if_neg ho
  have hg : mget [(itB, o)] itB = some o := by rw [mget_cons, if_pos rfl]
  unfold ownerS
  rw [hr, hg]
theorem itoa_dig (n : Nat) : itoaB (n : Int) = digS n := by
  unfold itoaB digS Lib.itoa
  rw [if_neg (by omega)]
  rfl
end Go.Proofs.YtgeimnknmljplaaDoor
