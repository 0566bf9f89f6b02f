/- Regions that leave their order open, phase by phase, beside calls that make memory. Conditions: those named in each theorem. -/
import Derived.Test.YteockodnfempfaaRg2
namespace Go.Gv
open Go Go.RowKit

/-! G w w': what may come between two operations of the region (draws, new blocks ..). An operation named in T may do more; it waits for all that looks. -/
section
variable {P : Program} {ops : Array Oper} {md : Region.Mode} {Q : Exit → Act → World → Prop} {G : World → World → Prop} {T : List Nat}

@[go_sem] def lookUponG (P : Program) (G : World → World → Prop) (w : World) (v : Value) : Result Next → Prop
  | .ok (.value u) w' => w' = w ∧ u = v
  | .ok .skip w' => w' = w ∧ v = undef
  | .ok (.enter f args) w' => w' = w ∧ Calls P f args w (fun e w'' => e = .returned v ∧ G w w'')
  | _ => False
@[go_sem] def _root_.Go.Oper.looksG {ι : Type} (P : Program) (G : World → World → Prop) (o : Oper) (a : Act) (W : ι → World) (next : Act → Prop) : Prop := ∃ v, (∀ z, lookUponG P G (W z) v ((execOp a.eval o).run P (W z))) ∧ next (a.put o.dst v)

def YieldsG (P : Program) (ops : Array Oper) (G : World → World → Prop) (w : World) (o : Oper) (v : Value) (a : Act) : Prop :=
  (Region.wanted o (yielded ops a.tmps) = true ∧ ∀ w', G w w' → lookUponG P G w' v ((execOp a.eval o).run P w')) ∨ (Region.wanted o (yielded ops a.tmps) = false ∧ v = undef)
theorem YieldsG.of_same {w : World} {o : Oper} {v : Value} {a a' : Act} (hy : YieldsG P ops G w o v a) (he : execOp a'.eval o = execOp a.eval o)
    (hw : Region.wanted o (yielded ops a'.tmps) = Region.wanted o (yielded ops a.tmps)) : YieldsG P ops G w o v a' := by
  unfold YieldsG at *
  rw [he, hw]
  exact hy
theorem YieldsG.ext (ht : ∀ a b c, G a b → G b c → G a c) {w w1 : World} {o : Oper} {v : Value} {a : Act} (hy : YieldsG P ops G w o v a) (h : G w w1) : YieldsG P ops G w1 o v a := by
  rcases hy with ⟨h1, h2⟩ | h
  · exact .inl ⟨h1, fun w' hw' => h2 w' (ht _ _ _ h hw')⟩
  · exact .inr h
theorem YieldsG.wpOp (hrf : ∀ a, G a a) {i : Nat} {o : Oper} {v : Value} {a : Act} {w w' : World} {K : Act → World → Prop} (hi : ops[i]? = some o) (hy : YieldsG P ops G w o v a) (hw' : G w w') (h : ∀ w'', G w' w'' → K (a.put o.dst v) w'') : wpOp P ops Q i K a w' := by
  unfold Go.wpOp
  simp only [hi]
  rcases hy with ⟨hw, hv⟩ | ⟨hw, rfl⟩
  · simp only [hw, if_true]
    refine .inl ?_
    have hz := hv w' hw'
    unfold Oper.wp
    generalize (execOp a.eval o).run P w' = r at hz
    cases r with
    | ok n w1 =>
      cases n <;> simp only [lookUponG] at hz <;> simp only [Oper.upon]
      case value u => obtain ⟨rfl, rfl⟩ := hz; exact h _ (hrf _)
      case skip => obtain ⟨rfl, rfl⟩ := hz; exact h _ (hrf _)
      case enter f args =>
        obtain ⟨rfl, hc⟩ := hz
        refine hc.mono fun e w'' ⟨he, hm⟩ => ?_
        subst he; exact h _ hm
    | halt x w1 => simp only [lookUponG] at hz
  · simp only [hw, Bool.false_eq_true, if_false]; exact h _ (hrf _)
theorem wpOp_putG {j : Nat} {oi oj : Oper} {v : Value} {w w0 : World} (hj : ops[j]? = some oj) (hap : oi.apart ops oj = true)
    (hsi : ∀ cs b, oi.op ≠ .select cs b) (hsj : ∀ cs b, oj.op ≠ .select cs b)
    (hQ : ∀ c a w, Q (.panic c) (a.put oi.dst v) w → Q (.panic c) a w) {K : Act → World → Prop} {a : Act}
    (hy : YieldsG P ops G w0 oi v a) (h : wpOp P ops Q j K (a.put oi.dst v) w) :
    wpOp P ops Q j (fun a' w' => YieldsG P ops G w0 oi v a' ∧ K (a'.put oi.dst v) w') a w := by
  obtain ⟨h1, h2, h3⟩ := Oper.apart_spec hap
  have keep : ∀ (a : Act), YieldsG P ops G w0 oi v a → ∀ u, YieldsG P ops G w0 oi v (a.put oj.dst u) := fun a hy u =>
    hy.of_same (execOp_put oi hsi a oj.dst u h3) (wanted_put oi a oj.dst u h3)
  have keepD : ∀ d, YieldsG P ops G w0 oi v { a with defers := d :: a.defers } := fun d => hy.of_same rfl rfl
  unfold Go.wpOp at *
  simp only [hj] at *
  rw [wanted_put oj a oi.dst v h1] at h
  split
  · rename_i hw
    simp only [hw, if_true] at h
    rcases h with h | ⟨hasks, hlets⟩
    case inr => exact .inr ⟨by unfold Oper.asks at *; rw [execOp_put oj hsj a oi.dst v h1] at hasks; exact hasks, hlets⟩
    refine .inl ?_
    unfold Oper.wp at *
    rw [execOp_put oj hsj a oi.dst v h1] at h
    generalize (execOp a.eval oj).run P w = r at *
    cases r with
    | ok n w' =>
      cases n <;> simp only [Oper.upon] at h ⊢
      case value u => exact ⟨keep a hy u, by rw [← Act.put_comm a v u h2]; exact h⟩
      case skip => exact ⟨keep a hy _, by rw [← Act.put_comm a v undef h2]; exact h⟩
      case defer d =>
        refine ⟨keep _ (keepD d) _, ?_⟩
        rw [← Act.put_comm _ v undef h2, ← Act.put_defers]
        exact h
      case enter f args =>
        refine Calls.mono h fun e w'' he => ?_
        cases e with
        | returned u => exact ⟨keep a hy u, by rw [← Act.put_comm a v u h2]; exact he⟩
        | panicked c => exact hQ _ _ _ he
        | outgrown => exact he
      case row row args => exact Rows.mono h fun u w'' he => ⟨keep a hy u, by rw [← Act.put_comm a v u h2]; exact he⟩
    | halt x w' =>
      cases x <;> simp only [Oper.upon] at h ⊢
      case panic u => exact hQ _ _ _ h
  · rename_i hw
    simp only [hw] at h
    exact ⟨keep a hy _, by rw [← Act.put_comm a v undef h2]; exact h⟩

/-- Whatever order is picked from here on. -/
def wpG (P : Program) (md : Region.Mode) (ops : Array Oper) (Q : Exit → Act → World → Prop) (G : World → World → Prop) (T : List Nat) : Nat → Array Bool → Act → World → Prop
  | 0, listed, a, w => Region.ready md ops listed = [] ∧ ∀ w', G w w' → Q .normal a w'
  | fuel + 1, listed, a, w =>
    (Region.ready md ops listed = [] → ∀ w', G w w' → Q .normal a w') ∧
    ∀ i ∈ Region.ready md ops listed, ∀ w', G w w' → wpOp P ops Q i (fun a' w'' => (i ∉ T → G w' w'') ∧ wpG P md ops Q G T fuel (listed.setIfInBounds i true) a' w'') a w'
theorem wpG_ext (ht : ∀ a b c, G a b → G b c → G a c) {fuel : Nat} {listed : Array Bool} {a : Act} {w w1 : World} (h : wpG P md ops Q G T fuel listed a w) (h1 : G w w1) : wpG P md ops Q G T fuel listed a w1 := by
  cases fuel with
  | zero => exact ⟨h.1, fun w' hw' => h.2 _ (ht _ _ _ h1 hw')⟩
  | succ f => exact ⟨fun h0 w' hw' => h.1 h0 _ (ht _ _ _ h1 hw'), fun i hi w' hw' => h.2 i hi _ (ht _ _ _ h1 hw')⟩
theorem wpAny_of_G (hrf : ∀ a, G a a) : ∀ (fuel : Nat) (listed : Array Bool) (a : Act) (w : World), wpG P md ops Q G T fuel listed a w → wpAny P md ops Q fuel listed a w
  | 0, _, _, _, h => ⟨h.1, h.2 _ (hrf _)⟩
  | fuel + 1, _, _, _, h => ⟨fun h0 => h.1 h0 _ (hrf _), fun i hi => wpOp_mono (fun a' w' h' => wpAny_of_G hrf fuel _ a' w' h'.2) (h.2 i hi _ (hrf _))⟩

/-- What an operation waits for, through others. -/
def waitsFor (md : Region.Mode) (ops : Array Oper) : Nat → Nat → List Nat
  | 0, _ => []
  | n + 1, t => match ops[t]? with
    | none => []
    | some o => (o.after.toList.filter fun e => Region.binds md e).flatMap fun e => e.on :: waitsFor md ops n e.on
def downC (md : Region.Mode) (ops : Array Oper) (listed : Array Bool) : Prop := ∀ j oj, ops[j]? = some oj → listed.getD j false = true → ∀ e ∈ oj.after, Region.binds md e = true → listed.getD e.on false = true
theorem downC_waits {listed : Array Bool} (hd : downC md ops listed) : ∀ (n t : Nat), listed.getD t false = true → ∀ i ∈ waitsFor md ops n t, listed.getD i false = true
  | 0, _, _, i, hi => by simp [waitsFor] at hi
  | n + 1, t, ht, i, hi => by
    unfold waitsFor at hi
    split at hi
    · simp at hi
    · rename_i o ho
      rw [List.mem_flatMap] at hi
      obtain ⟨e, he, hi⟩ := hi
      rw [List.mem_filter] at he
      have h1 := hd t o ho ht e (by simpa using he.1) he.2
      simp only [List.mem_cons] at hi
      rcases hi with rfl | hi
      · exact h1
      · exact downC_waits hd n e.on h1 i hi
theorem ready_waits {listed : Array Bool} (hd : downC md ops listed) {t n : Nat} (hr : t ∈ Region.ready md ops listed) {i : Nat} (hi : i ∈ waitsFor md ops n t) : listed.getD i false = true := by
  obtain ⟨_, o, ho, hall⟩ := mem_ready.1 hr
  cases n with
  | zero => simp [waitsFor] at hi
  | succ n =>
    unfold waitsFor at hi
    rw [ho] at hi
    simp only at hi
    rw [List.mem_flatMap] at hi
    obtain ⟨e, he, hi⟩ := hi
    rw [List.mem_filter] at he
    have h1 := hall e (by simpa using he.1) he.2
    simp only [List.mem_cons] at hi
    rcases hi with rfl | hi
    · exact h1
    · exact downC_waits hd n e.on h1 i hi
theorem downC_set {listed : Array Bool} (hd : downC md ops listed) {i : Nat} (hr : i ∈ Region.ready md ops listed) : downC md ops (listed.setIfInBounds i true) := by
  intro j oj hj hl e he hb
  obtain ⟨_, o, ho, hall⟩ := mem_ready.1 hr
  by_cases hij : i = j
  · subst hij
    rw [ho] at hj; injection hj with hj; subst hj
    exact getD_set_true (hall e he hb)
  · rw [getD_set_ne false hij] at hl
    exact getD_set_true (hd j oj hj hl e he hb)

theorem wpG_first {i : Nat} {oi : Oper} {v : Value} (hrf : ∀ a, G a a) (ht : ∀ a b c, G a b → G b c → G a c) (hi : ops[i]? = some oi) (hsel : ∀ (j : Nat) (o : Oper) cs b, ops[j]? = some o → o.op ≠ .select cs b)
    (hQ : ∀ c (a a' : Act) w, a.defers = a'.defers → Q (.panic c) a w → Q (.panic c) a' w) (n : Nat) (hT : ∀ t ∈ T, i ∈ waitsFor md ops n t) :
    ∀ (fuel : Nat) (listed : Array Bool) (a : Act) (w : World), downC md ops listed →
      (∀ j oj, ops[j]? = some oj → j ≠ i → listed.getD j true = false → (∀ e ∈ oj.after, Region.binds md e = true → e.on ≠ i) → oi.apart ops oj = true) →
      i ∈ Region.ready md ops listed → YieldsG P ops G w oi v a →
      wpG P md ops Q G T fuel (listed.setIfInBounds i true) (a.put oi.dst v) w → wpG P md ops Q G T (fuel + 1) listed a w := by
  intro fuel
  induction fuel with
  | zero =>
    intro listed a w hdc _ hr hy H
    refine ⟨fun h => (by rw [h] at hr; cases hr), fun j hj w' hw' => ?_⟩
    by_cases hji : j = i
    · subst hji
      exact hy.wpOp hrf hi hw' fun w'' hw'' => ⟨fun _ => hw'', wpG_ext ht H (ht _ _ _ hw' hw'')⟩
    · have := ready_mono hj hji
      rw [H.1] at this
      cases this
  | succ fuel ih =>
    intro listed a w hdc hfree hr hy H
    refine ⟨fun h => (by rw [h] at hr; cases hr), fun j hj w' hw' => ?_⟩
    by_cases hji : j = i
    · subst hji
      exact hy.wpOp hrf hi hw' fun w'' hw'' => ⟨fun _ => hw'', wpG_ext ht H (ht _ _ _ hw' hw'')⟩
    · have h1 := H.2 j (ready_mono hj hji) w' hw'
      obtain ⟨hjun, oj, hoj, hall⟩ := mem_ready.1 hj
      have hun : listed.getD i true = false := (mem_ready.1 hr).1
      have hun2 : listed.getD i false = false := by
        rcases Nat.lt_or_ge i listed.size with h' | h'
        · simpa [h'] using hun
        · simp [Array.getElem?_eq_none h'] at hun
      have hnot : ∀ e ∈ oj.after, Region.binds md e = true → e.on ≠ i := fun e he hb heq => by
        have h1 := hall e he hb
        rw [heq, hun2] at h1; cases h1
      have hjT : j ∉ T := fun hjt => by
        have := ready_waits hdc hj (hT j hjt)
        rw [hun2] at this; cases this
      have h2 := wpOp_putG (G := G) hoj (hfree j oj hoj hji hjun hnot) (fun cs b => hsel i oi cs b hi) (fun cs b => hsel j oj cs b hoj) (fun c a w h => hQ c _ _ w (by cases oi.dst <;> rfl) h) (hy.ext ht hw') h1
      have hfree' : ∀ k ok, ops[k]? = some ok → k ≠ i → (listed.setIfInBounds j true).getD k true = false →
          (∀ e ∈ ok.after, Region.binds md e = true → e.on ≠ i) → oi.apart ops ok = true := fun k ok hk hki hun hno => by
        refine hfree k ok hk hki ?_ hno
        by_cases hjk : j = k
        · subst hjk; exact hjun
        · rw [getD_set_ne true hjk] at hun; exact hun
      refine wpOp_mono (fun a' w'' h3 => ⟨h3.2.1, ?_⟩) h2
      obtain ⟨hy', hG, h4⟩ := h3
      refine ih (listed.setIfInBounds j true) a' w'' (downC_set hdc hj) hfree' (ready_mono hr (Ne.symm hji)) (hy'.ext ht (hG hjT)) ?_
      rw [Array.setIfInBounds_comm _ _ hji]
      exact h4

/-- The looking operations, as they are walked. -/
def wpLooksG {ι : Type} (P : Program) (ops : Array Oper) (G : World → World → Prop) (W : ι → World) (K : Act → Prop) : List Oper → Act → Prop
  | [], a => K a
  | o :: rest, a => if Region.wanted o (yielded ops a.tmps) then o.looksG P G a W (wpLooksG P ops G W K rest) else wpLooksG P ops G W K rest (a.put o.dst undef)
theorem wpLooksG_nil {ι : Type} {W : ι → World} {K : Act → Prop} {a : Act} (h : K a) : wpLooksG P ops G W K [] a := h
theorem wpLooksG_step {ι : Type} {W : ι → World} {K0 : Act → Prop} {a : Act} {o : Oper} {rest : List Oper}
    (h : ∀ K : Act → Prop, (∀ a, wpLooksG P ops G W K0 rest a → K a) → if Region.wanted o (yielded ops a.tmps) then o.looksG P G a W K else K (a.put o.dst undef)) : wpLooksG P ops G W K0 (o :: rest) a :=
  h _ (fun _ h => h)
def permG (md : Region.Mode) (ops : Array Oper) (T : List Nat) (m : Nat) : List Nat → Array Bool → Bool
  | [], _ => true
  | i :: hd, listed => (Region.ready md ops listed).contains i && Region.free md ops listed i && (T.all fun t => (waitsFor md ops m t).contains i) && permG md ops T m hd (listed.setIfInBounds i true)
def downB (md : Region.Mode) (ops : Array Oper) (listed : Array Bool) : Bool := (List.range ops.size).all fun j => !(listed.getD j false) || ((ops[j]?).map fun o => o.after.all fun e => !(Region.binds md e) || listed.getD e.on false).getD true
theorem downB_spec {listed : Array Bool} (h : downB md ops listed = true) : downC md ops listed := by
  intro j oj hj hl e he hb
  unfold downB at h
  rw [List.all_eq_true] at h
  have := h j (List.mem_range.2 (Array.getElem?_eq_some_iff.1 hj).1)
  rw [hl, hj] at this
  simp only [Bool.not_true, Bool.false_or, Option.map_some, Option.getD_some, Array.all_eq_true_iff_forall_mem] at this
  have := this e he
  rw [hb] at this
  simpa using this
theorem wpG_looks_aux {ι : Type} {W : ι → World} (hrf : ∀ a, G a a) (ht : ∀ a b c, G a b → G b c → G a c) (hs : Region.noSelect ops = true) (hQ : ∀ c (a a' : Act) w, a.defers = a'.defers → Q (.panic c) a w → Q (.panic c) a' w) (m fuel : Nat) (w : World) (hW : ∀ w', G w w' → ∃ z, w' = W z) :
    ∀ (hd : List Nat) (lh : List Oper) (listed : Array Bool) (a : Act), hd.mapM (fun i => ops[i]?) = some lh → downC md ops listed → permG md ops T m hd listed = true →
    wpLooksG P ops G W (fun a' => wpG P md ops Q G T fuel (setAll listed hd) a' w) lh a → wpG P md ops Q G T (hd.length + fuel) listed a w
  | [], lh, listed, a, hl, _, _, h => by
    simp at hl; subst hl
    have e : ([] : List Nat).length + fuel = fuel := by simp
    rw [e]; exact h
  | i :: hd, lh, listed, a, hl, hdc, hB, h => by
    simp only [List.mapM_cons, Option.bind_eq_bind, Option.pure_def] at hl
    cases hi : ops[i]? with
    | none => simp [hi] at hl
    | some o =>
      cases hr : hd.mapM (fun i => ops[i]?) with
      | none => simp [hi, hr] at hl
      | some l' =>
        simp [hi, hr] at hl
        subst hl
        simp only [permG, Bool.and_eq_true, List.all_eq_true, List.contains_iff_mem] at hB
        obtain ⟨⟨⟨hB1, hB2⟩, hB3⟩, hB4⟩ := hB
        rw [show (i :: hd).length + fuel = (hd.length + fuel) + 1 by simp; omega]
        unfold wpLooksG at h
        split at h
        · rename_i hw
          obtain ⟨v, hv, hk⟩ := h
          exact wpG_first hrf ht hi (Region.noSelect_spec hs) hQ m hB3 _ listed a w hdc (Region.free_spec hi hB2) hB1 (.inl ⟨hw, fun w' hw' => by
            obtain ⟨z, rfl⟩ := hW w' hw'
            exact hv z⟩) (wpG_looks_aux hrf ht hs hQ m fuel w hW hd l' _ _ hr (downC_set hdc hB1) hB4 hk)
        · rename_i hw
          exact wpG_first hrf ht hi (Region.noSelect_spec hs) hQ m hB3 _ listed a w hdc (Region.free_spec hi hB2) hB1 (.inr ⟨by simpa using hw, rfl⟩) (wpG_looks_aux hrf ht hs hQ m fuel w hW hd l' _ _ hr (downC_set hdc hB1) hB4 h)
/-- The operations, written out. -/
def nthO : List Oper → Nat → Option Oper
  | [], _ => none
  | o :: _, 0 => some o
  | _ :: l, n + 1 => nthO l n
theorem nthO_eq : ∀ (l : List Oper) (n : Nat), nthO l n = l[n]?
  | [], n => by simp [nthO]
  | _ :: _, 0 => rfl
  | _ :: l, n + 1 => by unfold nthO; rw [nthO_eq l n]; rfl
def picks (l : List Oper) : List Nat → Option (List Oper)
  | [] => some []
  | i :: hd => match nthO l i, picks l hd with
    | some o, some r => some (o :: r)
    | _, _ => none
theorem picks_eq (l : List Oper) : ∀ (hd : List Nat) (lh : List Oper), picks l hd = some lh → hd.mapM (fun i => l.toArray[i]?) = some lh
  | [], lh, h => by simp [picks] at h; subst h; rfl
  | i :: hd, lh, h => by
    unfold picks at h
    split at h
    · rename_i o r h1 h2
      injection h with h; subst h
      rw [List.mapM_cons, picks_eq l hd r h2]
      rw [nthO_eq] at h1
      simp [h1]
    · cases h
/-- What looks comes first; W z: the worlds in which it may look. -/
theorem wpG_looks {l : List Oper} {n : Nat} {lh : List Oper} {listed : Array Bool} {a : Act} {w : World} (fuel m : Nat) (hd : List Nat) (hn : n = hd.length + fuel) (hrf : ∀ a, G a a) (ht : ∀ a b c, G a b → G b c → G a c) (hs : Region.noSelect l.toArray = true) (hQ : ∀ c (a a' : Act) w, a.defers = a'.defers → Q (.panic c) a w → Q (.panic c) a' w)
    (hl : picks l hd = some lh) (hB : (downB md l.toArray listed && permG md l.toArray T m hd listed) = true)
    (h : ∀ (ι : Type) (W : ι → World), Nonempty ι → Hid (∀ z, G w (W z)) → wpLooksG P l.toArray G W (fun a' => wpG P md l.toArray Q G T fuel (setAll listed hd) a' w) lh a) : wpG P md l.toArray Q G T n listed a w := by
  subst hn
  rw [Bool.and_eq_true] at hB
  obtain ⟨ι, W, hne, hW, hWs⟩ := classFam (G w) (hrf w)
  exact wpG_looks_aux hrf ht hs hQ m fuel w hWs hd lh listed a (picks_eq l hd lh hl) (downB_spec hB.1) hB.2 (h ι W hne (Lib.hid hW))
/-- One operation alone is ready. -/
theorem wpG_force {l : List Oper} {fuel : Nat} {listed : Array Bool} {a : Act} {w : World} (t : Nat) (o : Oper) (ho : nthO l t = some o) (hr : (Region.ready md l.toArray listed == [t]) = true) (hg : o.guard = none)
    (h : ∀ w', G w w' → ∀ K : Act → World → Prop, (∀ a' w'', (t ∉ T → G w' w'') → wpG P md l.toArray Q G T fuel (listed.setIfInBounds t true) a' w'' → K a' w'') → o.wp P a w' K Q) : wpG P md l.toArray Q G T (fuel + 1) listed a w := by
  have ho : l.toArray[t]? = some o := by rw [← ho, nthO_eq]; simp
  have hr' : Region.ready md l.toArray listed = [t] := by simpa using hr
  refine ⟨fun h0 => (by rw [hr'] at h0; cases h0), fun i hi w' hw' => ?_⟩
  rw [hr'] at hi
  obtain rfl : i = t := by simpa using hi
  unfold Go.wpOp
  simp only [ho]
  rw [if_pos (by simp [Region.wanted, hg])]
  exact .inl (h w' hw' _ fun a' w'' h1 h2 => ⟨h1, h2⟩)
theorem wpG_end {listed : Array Bool} {a : Act} {w : World} (hr : (Region.ready md ops listed).isEmpty = true) (h : ∀ w', G w w' → Q .normal a w') : ∀ fuel, wpG P md ops Q G T fuel listed a w
  | 0 => ⟨by simpa using hr, h⟩
  | _ + 1 => ⟨fun _ => h, fun i hi => by
      have : Region.ready md ops listed = [] := by simpa using hr
      rw [this] at hi; cases hi⟩
/-- A new variable of a struct's type, and the value stored into it. -/
theorem wpG_new {l : List Oper} {α : Type} [Enc α] {fuel : Nat} {listed : Array Bool} {t : TypeId} {a : Act} {w : World} (t1 t2 : Nat) (o1 o2 : Oper) (ho1 : nthO l t1 = some o1) (ho2 : nthO l t2 = some o2) (hr1 : (Region.ready md l.toArray listed == [t1]) = true) (hr2 : (Region.ready md l.toArray (listed.setIfInBounds t1 true) == [t2]) = true) (hg1 : o1.guard = none) (hg2 : o2.guard = none) (hT : T.contains t2 = true) (x y : Operand) (hp1 : o1.op = .alloc t) (hp2 : o2.op = .store t x y) (z u : α)
    (hal : ∀ w, (gAlloc t).run P w = .ok (.pointer (some ⟨w.heap.size, 0, none⟩)) (w.alloc (.cells (Enc.enc z).toArray t))) (ha : sizeT P t = Enc.n α)
    (hx : ∀ p, (a.put o1.dst p).eval x = p) (hy : ∀ p, (a.put o1.dst p).eval y = .agg (Enc.enc u).toArray)
    (hGa : ∀ w o, G w (w.alloc o)) (hGb : ∀ a b, G a b → Bel a b)
    (h : ∀ (g : Nat) (w1 w2 : World), G w w1 → g = w1.heap.size → Bel w1 w2 → get? α w2 ⟨g, 0, none⟩ = some u → g < w2.heap.size → wpG P md l.toArray Q G T fuel ((listed.setIfInBounds t1 true).setIfInBounds t2 true) ((a.put o1.dst (.pointer (some ⟨g, 0, none⟩))).put o2.dst undef) w2) : wpG P md l.toArray Q G T (fuel + 1 + 1) listed a w := by
  refine wpG_force t1 o1 ho1 hr1 hg1 fun w1 hw1 K hK => ?_
  have e1 := hal w1
  unfold gAlloc at e1
  unfold Oper.wp execOp
  simp only [hp1, Sem.run_bind]
  rw [e1]
  refine hK _ _ (fun _ => hGa _ _) ?_
  refine wpG_force t2 o2 ho2 hr2 hg2 fun w2 hw2 K hK => ?_
  have hbel := hGb _ _ hw2
  have hlt : w1.heap.size < (w1.alloc (.cells (Enc.enc z).toArray t)).heap.size := by simp
  have hget : get? α w2 ⟨w1.heap.size, 0, none⟩ = some z := (get?_below hbel (by exact hlt)).trans (get?_new t z)
  have hfree : blkFree w2 w1.heap.size = true := (blkFree_keep (hbel.block _ hlt)).trans (blkFree_new _ _ rfl)
  have hst := run_gStore (P := P) (t := t) (w := w2) (a := ⟨w1.heap.size, 0, none⟩) ha u (Option.isSome_iff_exists.2 ⟨z, hget⟩) hfree
  unfold gStore at hst
  unfold Oper.wp execOp
  simp only [hp2, Sem.run_bind, hx, hy]
  rw [hst]
  have hsz := hbel.size
  simp only [World.size_alloc] at hsz
  refine hK _ _ (fun hne => absurd (by simpa using hT) hne) (h _ w1 _ hw1 rfl ?_ ?_ ?_)
  · exact Below_putCells (Below.trans ((Below.refl _ _).alloc (Nat.le_refl _) _) (Below.mono hbel (by simp))) (Nat.le_refl _) _
  · rw [get?_iff]
    intro j v hj
    have hjl : j < Enc.n α := by have := (List.getElem?_eq_some_iff.1 hj).1; rwa [Enc.len] at this
    have hadd : ∀ i, (⟨w1.heap.size, 0, none⟩ : Addr).add i = ⟨w1.heap.size, i, none⟩ := fun i => by unfold Addr.add; split <;> simp_all
    rw [hadd]
    have hc := get?_iff.1 hget j ((Enc.enc z)[j]'(by rw [Enc.len]; exact hjl)) (List.getElem?_eq_getElem _)
    rw [hadd] at hc
    unfold World.putCells
    rw [cell_putFrom (a := ⟨w1.heap.size, 0, none⟩) rfl (Enc.enc u) 0 w2 ⟨w1.heap.size, j, none⟩ rfl (by rw [hc]; rfl)]
    rw [if_pos ⟨rfl, by simp, by simpa [Enc.len] using hjl⟩]
    simpa using hj
  · rw [size_putCells]; omega
theorem wp_region_G {id : Nat} {a : Act} {w : World} {l : List Oper} (G : World → World → Prop) (T : List Nat) (hrf : ∀ a, G a a) (hm : P.follows .mixedOrders = true)
    (h : wpG P .any l.toArray Q G T l.toArray.size (Array.replicate l.toArray.size false) a w.drew) : (Code.region id l.toArray true).wp P Q a w :=
  wp_region_any hm (wpAny_of_G hrf _ _ _ _ h)
end

/-- New blocks and draws; what was there stands. -/
def GB (w w' : World) : Prop := Below w.heap.size w w'
theorem GB.rf (a : World) : GB a a := Below.refl _ _
theorem GB.tr (a b c : World) (h : GB a b) (k : GB b c) : GB a c := Below.trans h (Below.mono k (Below.size h))
theorem GB.drewN (a : World) (n : Nat) : GB a (a.drewN n) := bdN (Below.refl _ _) n
theorem GB.al (w : World) (o : Obj) : GB w (w.alloc o) := (Below.refl _ _).alloc (Nat.le_refl _) o
theorem GB.bel (a b : World) (h : GB a b) : Bel a b := h
theorem GB.undrew {w w' : World} (h : GB w.drew w') : Bel w w' := by
  have h0 : Below w.drew.heap.size w.drew w' := h
  exact ⟨h0.os, h0.tape, h0.output, h0.size, h0.block⟩
theorem GB.cell {w w' : World} (h : GB w w') {p : Addr} {v : Value} (hc : w.cell? p = some v) : w'.cell? p = some v := (Below.cell h (World.block_lt_of_cell? w _ hc)).trans hc
theorem GB.get {α : Type} [Enc α] {w w' : World} (h : GB w w') {p : Addr} {x : α} (hc : get? α w p = some x) : get? α w' p = some x := (get?_below h (get?_lt hc)).trans hc
theorem quietG {P : Program} {f : FuncId} {args : Array Value} {w : World} {v : Value} {R : Ending → World → Prop} (h : Calls P f args w R) (hR : ∀ e w', R e w' → e = .returned v ∧ w' = w) : Calls P f args w fun e w' => e = .returned v ∧ GB w w' :=
  h.mono fun e w' h => by obtain ⟨h1, h2⟩ := hR e w' h; subst h2; exact ⟨h1, GB.rf _⟩
/-- .. but for one block. -/
def GX (r : Nat) (w w' : World) : Prop := w.grownBy w' (some r)
theorem GX.rf {r : Nat} (a : World) : GX r a a := ⟨rfl, rfl, rfl, Nat.le_refl _, fun _ _ _ => rfl⟩
theorem GX.tr {r : Nat} (a b c : World) (h : GX r a b) (k : GX r b c) : GX r a c := World.grownBy.trans h k
end Go.Gv
