/- The core where no rule holds; a round entered; the start. Conditions: those named in each theorem. -/
import Derived.Test.YtfhhcgldikmejaaGreatDoorP3
import Derived.Test.YtfhhcgldikmejaaGreatDoorP1
import Derived.Maps.RangeWalk
import Derived.Test.YtfhhcgldikmejaaGreatDoorP2
import Derived.RangeFuncNested
import Derived.RangeFuncBox
import Derived.RangeFuncLeaves
import Derived.RangeFuncWrites
import Derived.Shelf.Abstract
import Derived.WalkKit
import Derived.OwnWalkIn
import Derived.TacticsInMore
import Derived.LoopNIn
import Derived.LoopIn
import Derived.Maps.AppendAt
/- Regions that leave their order open, phase by phase, beside calls that make memory. Conditions: those named in each theorem. -/
namespace Go.Gv
open Go Go.RowKit

/-! G w w': what may come between two operations of the region (draws, new blocks ..). An operation named in T may do more; it waits for all that looks. -/
section
variable {P : Program} {ops : Array Oper} {md : Region.Mode} {Q : Exit → Act → World → Prop} {G : World → World → Prop} {T : List Nat}

@[go_sem] def lookUponG (P : Program) (G : World → World → Prop) (w : World) (v : Value) : Result Next → Prop
  | .ok (.value u) w' => w' = w ∧ u = v
  | .ok .skip w' => w' = w ∧ v = undef
  | .ok (.enter f args) w' => w' = w ∧ Calls P f args w (fun e w'' => e = .returned v ∧ G w w'')
  | _ => False
@[go_sem] def _root_.Go.Oper.looksG {ι : Type} (P : Program) (G : World → World → Prop) (o : Oper) (a : Act) (W : ι → World) (next : Act → Prop) : Prop := ∃ v, (∀ z, lookUponG P G (W z) v ((execOp a.eval o).run P (W z))) ∧ next (a.put o.dst v)

def YieldsG (P : Program) (ops : Array Oper) (G : World → World → Prop) (w : World) (o : Oper) (v : Value) (a : Act) : Prop :=
  (Region.wanted o (yielded ops a.tmps) = true ∧ ∀ w', G w w' → lookUponG P G w' v ((execOp a.eval o).run P w')) ∨ (Region.wanted o (yielded ops a.tmps) = false ∧ v = undef)
theorem YieldsG.of_same {w : World} {o : Oper} {v : Value} {a a' : Act} (hy : YieldsG P ops G w o v a) (he : execOp a'.eval o = execOp a.eval o)
    (hw : Region.wanted o (yielded ops a'.tmps) = Region.wanted o (yielded ops a.tmps)) : YieldsG P ops G w o v a' := by
  unfold YieldsG at *
  rw [he, hw]
  exact hy
theorem YieldsG.ext (ht : ∀ a b c, G a b → G b c → G a c) {w w1 : World} {o : Oper} {v : Value} {a : Act} (hy : YieldsG P ops G w o v a) (h : G w w1) : YieldsG P ops G w1 o v a := by
  rcases hy with ⟨h1, h2⟩ | h
  · exact .inl ⟨h1, fun w' hw' => h2 w' (ht _ _ _ h hw')⟩
  · exact .inr h
theorem YieldsG.wpOp (hrf : ∀ a, G a a) {i : Nat} {o : Oper} {v : Value} {a : Act} {w w' : World} {K : Act → World → Prop} (hi : ops[i]? = some o) (hy : YieldsG P ops G w o v a) (hw' : G w w') (h : ∀ w'', G w' w'' → K (a.put o.dst v) w'') : wpOp P ops Q i K a w' := by
  unfold Go.wpOp
  simp only [hi]
  rcases hy with ⟨hw, hv⟩ | ⟨hw, rfl⟩
  · simp only [hw, if_true]
    refine .inl ?_
    have hz := hv w' hw'
    unfold Oper.wp
    generalize (execOp a.eval o).run P w' = r at hz
    cases r with
    | ok n w1 =>
      cases n <;> simp only [lookUponG] at hz <;> simp only [Oper.upon]
      case value u => obtain ⟨rfl, rfl⟩ := hz; exact h _ (hrf _)
      case skip => obtain ⟨rfl, rfl⟩ := hz; exact h _ (hrf _)
      case enter f args =>
        obtain ⟨rfl, hc⟩ := hz
        refine hc.mono fun e w'' ⟨he, hm⟩ => ?_
        subst he; exact h _ hm
    | halt x w1 => simp only [lookUponG] at hz
  · simp only [hw, Bool.false_eq_true, if_false]; exact h _ (hrf _)
theorem wpOp_putG {j : Nat} {oi oj : Oper} {v : Value} {w w0 : World} (hj : ops[j]? = some oj) (hap : oi.apart ops oj = true)
    (hsi : ∀ cs b, oi.op ≠ .select cs b) (hsj : ∀ cs b, oj.op ≠ .select cs b)
    (hQ : ∀ c a w, Q (.panic c) (a.put oi.dst v) w → Q (.panic c) a w) {K : Act → World → Prop} {a : Act}
    (hy : YieldsG P ops G w0 oi v a) (h : wpOp P ops Q j K (a.put oi.dst v) w) :
    wpOp P ops Q j (fun a' w' => YieldsG P ops G w0 oi v a' ∧ K (a'.put oi.dst v) w') a w := by
  obtain ⟨h1, h2, h3⟩ := Oper.apart_spec hap
  have keep : ∀ (a : Act), YieldsG P ops G w0 oi v a → ∀ u, YieldsG P ops G w0 oi v (a.put oj.dst u) := fun a hy u =>
    hy.of_same (execOp_put oi hsi a oj.dst u h3) (wanted_put oi a oj.dst u h3)
  have keepD : ∀ d, YieldsG P ops G w0 oi v { a with defers := d :: a.defers } := fun d => hy.of_same rfl rfl
  unfold Go.wpOp at *
  simp only [hj] at *
  rw [wanted_put oj a oi.dst v h1] at h
  split
  · rename_i hw
    simp only [hw, if_true] at h
    rcases h with h | ⟨hasks, hlets⟩
    case inr => exact .inr ⟨by unfold Oper.asks at *; rw [execOp_put oj hsj a oi.dst v h1] at hasks; exact hasks, hlets⟩
    refine .inl ?_
    unfold Oper.wp at *
    rw [execOp_put oj hsj a oi.dst v h1] at h
    generalize (execOp a.eval oj).run P w = r at *
    cases r with
    | ok n w' =>
      cases n <;> simp only [Oper.upon] at h ⊢
      case value u => exact ⟨keep a hy u, by rw [← Act.put_comm a v u h2]; exact h⟩
      case skip => exact ⟨keep a hy _, by rw [← Act.put_comm a v undef h2]; exact h⟩
      case defer d =>
        refine ⟨keep _ (keepD d) _, ?_⟩
        rw [← Act.put_comm _ v undef h2, ← Act.put_defers]
        exact h
      case enter f args =>
        refine Calls.mono h fun e w'' he => ?_
        cases e with
        | returned u => exact ⟨keep a hy u, by rw [← Act.put_comm a v u h2]; exact he⟩
        | panicked c => exact hQ _ _ _ he
        | outgrown => exact he
      case row row args => exact Rows.mono h fun u w'' he => ⟨keep a hy u, by rw [← Act.put_comm a v u h2]; exact he⟩
    | halt x w' =>
      cases x <;> simp only [Oper.upon] at h ⊢
      case panic u => exact hQ _ _ _ h
  · rename_i hw
    simp only [hw] at h
    exact ⟨keep a hy _, by rw [← Act.put_comm a v undef h2]; exact h⟩

/-- Whatever order is picked from here on. -/
def wpG (P : Program) (md : Region.Mode) (ops : Array Oper) (Q : Exit → Act → World → Prop) (G : World → World → Prop) (T : List Nat) : Nat → Array Bool → Act → World → Prop
  | 0, listed, a, w => Region.ready md ops listed = [] ∧ ∀ w', G w w' → Q .normal a w'
  | fuel + 1, listed, a, w =>
    (Region.ready md ops listed = [] → ∀ w', G w w' → Q .normal a w') ∧
    ∀ i ∈ Region.ready md ops listed, ∀ w', G w w' → wpOp P ops Q i (fun a' w'' => (i ∉ T → G w' w'') ∧ wpG P md ops Q G T fuel (listed.setIfInBounds i true) a' w'') a w'
theorem wpG_ext (ht : ∀ a b c, G a b → G b c → G a c) {fuel : Nat} {listed : Array Bool} {a : Act} {w w1 : World} (h : wpG P md ops Q G T fuel listed a w) (h1 : G w w1) : wpG P md ops Q G T fuel listed a w1 := by
  cases fuel with
  | zero => exact ⟨h.1, fun w' hw' => h.2 _ (ht _ _ _ h1 hw')⟩
  | succ f => exact ⟨fun h0 w' hw' => h.1 h0 _ (ht _ _ _ h1 hw'), fun i hi w' hw' => h.2 i hi _ (ht _ _ _ h1 hw')⟩
theorem wpAny_of_G (hrf : ∀ a, G a a) : ∀ (fuel : Nat) (listed : Array Bool) (a : Act) (w : World), wpG P md ops Q G T fuel listed a w → wpAny P md ops Q fuel listed a w
  | 0, _, _, _, h => ⟨h.1, h.2 _ (hrf _)⟩
  | fuel + 1, _, _, _, h => ⟨fun h0 => h.1 h0 _ (hrf _), fun i hi => wpOp_mono (fun a' w' h' => wpAny_of_G hrf fuel _ a' w' h'.2) (h.2 i hi _ (hrf _))⟩

/-- What an operation waits for, through others. -/
def waitsFor (md : Region.Mode) (ops : Array Oper) : Nat → Nat → List Nat
  | 0, _ => []
  | n + 1, t => match ops[t]? with
    | none => []
    | some o => (o.after.toList.filter fun e => Region.binds md e).flatMap fun e => e.on :: waitsFor md ops n e.on
def downC (md : Region.Mode) (ops : Array Oper) (listed : Array Bool) : Prop := ∀ j oj, ops[j]? = some oj → listed.getD j false = true → ∀ e ∈ oj.after, Region.binds md e = true → listed.getD e.on false = true
theorem downC_waits {listed : Array Bool} (hd : downC md ops listed) : ∀ (n t : Nat), listed.getD t false = true → ∀ i ∈ waitsFor md ops n t, listed.getD i false = true
  | 0, _, _, i, hi => by simp [waitsFor] at hi
  | n + 1, t, ht, i, hi => by
    unfold waitsFor at hi
    split at hi
    · simp at hi
    · rename_i o ho
      rw [List.mem_flatMap] at hi
      obtain ⟨e, he, hi⟩ := hi
      rw [List.mem_filter] at he
      have h1 := hd t o ho ht e (by simpa using he.1) he.2
      simp only [List.mem_cons] at hi
      rcases hi with rfl | hi
      · exact h1
      · exact downC_waits hd n e.on h1 i hi
theorem ready_waits {listed : Array Bool} (hd : downC md ops listed) {t n : Nat} (hr : t ∈ Region.ready md ops listed) {i : Nat} (hi : i ∈ waitsFor md ops n t) : listed.getD i false = true := by
  obtain ⟨_, o, ho, hall⟩ := mem_ready.1 hr
  cases n with
  | zero => simp [waitsFor] at hi
  | succ n =>
    unfold waitsFor at hi
    rw [ho] at hi
    simp only at hi
    rw [List.mem_flatMap] at hi
    obtain ⟨e, he, hi⟩ := hi
    rw [List.mem_filter] at he
    have h1 := hall e (by simpa using he.1) he.2
    simp only [List.mem_cons] at hi
    rcases hi with rfl | hi
    · exact h1
    · exact downC_waits hd n e.on h1 i hi
theorem downC_set {listed : Array Bool} (hd : downC md ops listed) {i : Nat} (hr : i ∈ Region.ready md ops listed) : downC md ops (listed.setIfInBounds i true) := by
  intro j oj hj hl e he hb
  obtain ⟨_, o, ho, hall⟩ := mem_ready.1 hr
  by_cases hij : i = j
  · subst hij
    rw [ho] at hj; injection hj with hj; subst hj
    exact getD_set_true (hall e he hb)
  · rw [getD_set_ne false hij] at hl
    exact getD_set_true (hd j oj hj hl e he hb)

theorem wpG_first {i : Nat} {oi : Oper} {v : Value} (hrf : ∀ a, G a a) (ht : ∀ a b c, G a b → G b c → G a c) (hi : ops[i]? = some oi) (hsel : ∀ (j : Nat) (o : Oper) cs b, ops[j]? = some o → o.op ≠ .select cs b)
    (hQ : ∀ c (a a' : Act) w, a.defers = a'.defers → Q (.panic c) a w → Q (.panic c) a' w) (n : Nat) (hT : ∀ t ∈ T, i ∈ waitsFor md ops n t) :
    ∀ (fuel : Nat) (listed : Array Bool) (a : Act) (w : World), downC md ops listed →
      (∀ j oj, ops[j]? = some oj → j ≠ i → listed.getD j true = false → (∀ e ∈ oj.after, Region.binds md e = true → e.on ≠ i) → oi.apart ops oj = true) →
      i ∈ Region.ready md ops listed → YieldsG P ops G w oi v a →
      wpG P md ops Q G T fuel (listed.setIfInBounds i true) (a.put oi.dst v) w → wpG P md ops Q G T (fuel + 1) listed a w := by
  intro fuel
  induction fuel with
  | zero =>
    intro listed a w hdc _ hr hy H
    refine ⟨fun h => (by rw [h] at hr; cases hr), fun j hj w' hw' => ?_⟩
    by_cases hji : j = i
    · subst hji
      exact hy.wpOp hrf hi hw' fun w'' hw'' => ⟨fun _ => hw'', wpG_ext ht H (ht _ _ _ hw' hw'')⟩
    · have := ready_mono hj hji
      rw [H.1] at this
      cases this
  | succ fuel ih =>
    intro listed a w hdc hfree hr hy H
    refine ⟨fun h => (by rw [h] at hr; cases hr), fun j hj w' hw' => ?_⟩
    by_cases hji : j = i
    · subst hji
      exact hy.wpOp hrf hi hw' fun w'' hw'' => ⟨fun _ => hw'', wpG_ext ht H (ht _ _ _ hw' hw'')⟩
    · have h1 := H.2 j (ready_mono hj hji) w' hw'
      obtain ⟨hjun, oj, hoj, hall⟩ := mem_ready.1 hj
      have hun : listed.getD i true = false := (mem_ready.1 hr).1
      have hun2 : listed.getD i false = false := by
        rcases Nat.lt_or_ge i listed.size with h' | h'
        · simpa [h'] using hun
        · simp [Array.getElem?_eq_none h'] at hun
      have hnot : ∀ e ∈ oj.after, Region.binds md e = true → e.on ≠ i := fun e he hb heq => by
        have h1 := hall e he hb
        rw [heq, hun2] at h1; cases h1
      have hjT : j ∉ T := fun hjt => by
        have := ready_waits hdc hj (hT j hjt)
        rw [hun2] at this; cases this
      have h2 := wpOp_putG (G := G) hoj (hfree j oj hoj hji hjun hnot) (fun cs b => hsel i oi cs b hi) (fun cs b => hsel j oj cs b hoj) (fun c a w h => hQ c _ _ w (by cases oi.dst <;> rfl) h) (hy.ext ht hw') h1
      have hfree' : ∀ k ok, ops[k]? = some ok → k ≠ i → (listed.setIfInBounds j true).getD k true = false →
          (∀ e ∈ ok.after, Region.binds md e = true → e.on ≠ i) → oi.apart ops ok = true := fun k ok hk hki hun hno => by
        refine hfree k ok hk hki ?_ hno
        by_cases hjk : j = k
        · subst hjk; exact hjun
        · rw [getD_set_ne true hjk] at hun; exact hun
      refine wpOp_mono (fun a' w'' h3 => ⟨h3.2.1, ?_⟩) h2
      obtain ⟨hy', hG, h4⟩ := h3
      refine ih (listed.setIfInBounds j true) a' w'' (downC_set hdc hj) hfree' (ready_mono hr (Ne.symm hji)) (hy'.ext ht (hG hjT)) ?_
      rw [Array.setIfInBounds_comm _ _ hji]
      exact h4

/-- The looking operations, as they are walked. -/
def wpLooksG {ι : Type} (P : Program) (ops : Array Oper) (G : World → World → Prop) (W : ι → World) (K : Act → Prop) : List Oper → Act → Prop
  | [], a => K a
  | o :: rest, a => if Region.wanted o (yielded ops a.tmps) then o.looksG P G a W (wpLooksG P ops G W K rest) else wpLooksG P ops G W K rest (a.put o.dst undef)
theorem wpLooksG_nil {ι : Type} {W : ι → World} {K : Act → Prop} {a : Act} (h : K a) : wpLooksG P ops G W K [] a := h
theorem wpLooksG_step {ι : Type} {W : ι → World} {K0 : Act → Prop} {a : Act} {o : Oper} {rest : List Oper}
    (h : ∀ K : Act → Prop, (∀ a, wpLooksG P ops G W K0 rest a → K a) → if Region.wanted o (yielded ops a.tmps) then o.looksG P G a W K else K (a.put o.dst undef)) : wpLooksG P ops G W K0 (o :: rest) a :=
  h _ (fun _ h => h)
def permG (md : Region.Mode) (ops : Array Oper) (T : List Nat) (m : Nat) : List Nat → Array Bool → Bool
  | [], _ => true
  | i :: hd, listed => (Region.ready md ops listed).contains i && Region.free md ops listed i && (T.all fun t => (waitsFor md ops m t).contains i) && permG md ops T m hd (listed.setIfInBounds i true)
def downB (md : Region.Mode) (ops : Array Oper) (listed : Array Bool) : Bool := (List.range ops.size).all fun j => !(listed.getD j false) || ((ops[j]?).map fun o => o.after.all fun e => !(Region.binds md e) || listed.getD e.on false).getD true
theorem downB_spec {listed : Array Bool} (h : downB md ops listed = true) : downC md ops listed := by
  intro j oj hj hl e he hb
  unfold downB at h
  rw [List.all_eq_true] at h
  have := h j (List.mem_range.2 (Array.getElem?_eq_some_iff.1 hj).1)
  rw [hl, hj] at this
  simp only [Bool.not_true, Bool.false_or, Option.map_some, Option.getD_some, Array.all_eq_true_iff_forall_mem] at this
  have := this e he
  rw [hb] at this
  simpa using this
theorem wpG_looks_aux {ι : Type} {W : ι → World} (hrf : ∀ a, G a a) (ht : ∀ a b c, G a b → G b c → G a c) (hs : Region.noSelect ops = true) (hQ : ∀ c (a a' : Act) w, a.defers = a'.defers → Q (.panic c) a w → Q (.panic c) a' w) (m fuel : Nat) (w : World) (hW : ∀ w', G w w' → ∃ z, w' = W z) :
    ∀ (hd : List Nat) (lh : List Oper) (listed : Array Bool) (a : Act), hd.mapM (fun i => ops[i]?) = some lh → downC md ops listed → permG md ops T m hd listed = true →
    wpLooksG P ops G W (fun a' => wpG P md ops Q G T fuel (setAll listed hd) a' w) lh a → wpG P md ops Q G T (hd.length + fuel) listed a w
  | [], lh, listed, a, hl, _, _, h => by
    simp at hl; subst hl
    have e : ([] : List Nat).length + fuel = fuel := by simp
    rw [e]; exact h
  | i :: hd, lh, listed, a, hl, hdc, hB, h => by
    simp only [List.mapM_cons, Option.bind_eq_bind, Option.pure_def] at hl
    cases hi : ops[i]? with
    | none => simp [hi] at hl
    | some o =>
      cases hr : hd.mapM (fun i => ops[i]?) with
      | none => simp [hi, hr] at hl
      | some l' =>
        simp [hi, hr] at hl
        subst hl
        simp only [permG, Bool.and_eq_true, List.all_eq_true, List.contains_iff_mem] at hB
        obtain ⟨⟨⟨hB1, hB2⟩, hB3⟩, hB4⟩ := hB
        rw [show (i :: hd).length + fuel = (hd.length + fuel) + 1 by simp; omega]
        unfold wpLooksG at h
        split at h
        · rename_i hw
          obtain ⟨v, hv, hk⟩ := h
          exact wpG_first hrf ht hi (Region.noSelect_spec hs) hQ m hB3 _ listed a w hdc (Region.free_spec hi hB2) hB1 (.inl ⟨hw, fun w' hw' => by
            obtain ⟨z, rfl⟩ := hW w' hw'
            exact hv z⟩) (wpG_looks_aux hrf ht hs hQ m fuel w hW hd l' _ _ hr (downC_set hdc hB1) hB4 hk)
        · rename_i hw
          exact wpG_first hrf ht hi (Region.noSelect_spec hs) hQ m hB3 _ listed a w hdc (Region.free_spec hi hB2) hB1 (.inr ⟨by simpa using hw, rfl⟩) (wpG_looks_aux hrf ht hs hQ m fuel w hW hd l' _ _ hr (downC_set hdc hB1) hB4 h)
/-- The operations, written out. -/
def nthO : List Oper → Nat → Option Oper
  | [], _ => none
  | o :: _, 0 => some o
  | _ :: l, n + 1 => nthO l n
theorem nthO_eq : ∀ (l : List Oper) (n : Nat), nthO l n = l[n]?
  | [], n => by simp [nthO]
  | _ :: _, 0 => rfl
  | _ :: l, n + 1 => by unfold nthO; rw [nthO_eq l n]; rfl
def picks (l : List Oper) : List Nat → Option (List Oper)
  | [] => some []
  | i :: hd => match nthO l i, picks l hd with
    | some o, some r => some (o :: r)
    | _, _ => none
theorem picks_eq (l : List Oper) : ∀ (hd : List Nat) (lh : List Oper), picks l hd = some lh → hd.mapM (fun i => l.toArray[i]?) = some lh
  | [], lh, h => by simp [picks] at h; subst h; rfl
  | i :: hd, lh, h => by
    unfold picks at h
    split at h
    · rename_i o r h1 h2
      injection h with h; subst h
      rw [List.mapM_cons, picks_eq l hd r h2]
      rw [nthO_eq] at h1
      simp [h1]
    · cases h
/-- What looks comes first; W z: the worlds in which it may look. -/
theorem wpG_looks {l : List Oper} {n : Nat} {lh : List Oper} {listed : Array Bool} {a : Act} {w : World} (fuel m : Nat) (hd : List Nat) (hn : n = hd.length + fuel) (hrf : ∀ a, G a a) (ht : ∀ a b c, G a b → G b c → G a c) (hs : Region.noSelect l.toArray = true) (hQ : ∀ c (a a' : Act) w, a.defers = a'.defers → Q (.panic c) a w → Q (.panic c) a' w)
    (hl : picks l hd = some lh) (hB : (downB md l.toArray listed && permG md l.toArray T m hd listed) = true)
    (h : ∀ (ι : Type) (W : ι → World), Nonempty ι → Hid (∀ z, G w (W z)) → wpLooksG P l.toArray G W (fun a' => wpG P md l.toArray Q G T fuel (setAll listed hd) a' w) lh a) : wpG P md l.toArray Q G T n listed a w := by
  subst hn
  rw [Bool.and_eq_true] at hB
  obtain ⟨ι, W, hne, hW, hWs⟩ := classFam (G w) (hrf w)
  exact wpG_looks_aux hrf ht hs hQ m fuel w hWs hd lh listed a (picks_eq l hd lh hl) (downB_spec hB.1) hB.2 (h ι W hne (Lib.hid hW))
/-- One operation alone is ready. -/
theorem wpG_force {l : List Oper} {fuel : Nat} {listed : Array Bool} {a : Act} {w : World} (t : Nat) (o : Oper) (ho : nthO l t = some o) (hr : (Region.ready md l.toArray listed == [t]) = true) (hg : o.guard = none)
    (h : ∀ w', G w w' → ∀ K : Act → World → Prop, (∀ a' w'', (t ∉ T → G w' w'') → wpG P md l.toArray Q G T fuel (listed.setIfInBounds t true) a' w'' → K a' w'') → o.wp P a w' K Q) : wpG P md l.toArray Q G T (fuel + 1) listed a w := by
  have ho : l.toArray[t]? = some o := by rw [← ho, nthO_eq]; simp
  have hr' : Region.ready md l.toArray listed = [t] := by simpa using hr
  refine ⟨fun h0 => (by rw [hr'] at h0; cases h0), fun i hi w' hw' => ?_⟩
  rw [hr'] at hi
  obtain rfl : i = t := by simpa using hi
  unfold Go.wpOp
  simp only [ho]
  rw [if_pos (by simp [Region.wanted, hg])]
  exact .inl (h w' hw' _ fun a' w'' h1 h2 => ⟨h1, h2⟩)
theorem wpG_end {listed : Array Bool} {a : Act} {w : World} (hr : (Region.ready md ops listed).isEmpty = true) (h : ∀ w', G w w' → Q .normal a w') : ∀ fuel, wpG P md ops Q G T fuel listed a w
  | 0 => ⟨by simpa using hr, h⟩
  | _ + 1 => ⟨fun _ => h, fun i hi => by
      have : Region.ready md ops listed = [] := by simpa using hr
      rw [this] at hi; cases hi⟩
theorem wp_region_G {id : Nat} {a : Act} {w : World} {l : List Oper} (G : World → World → Prop) (T : List Nat) (hrf : ∀ a, G a a) (hm : P.follows .mixedOrders = true)
    (h : wpG P .any l.toArray Q G T l.toArray.size (Array.replicate l.toArray.size false) a w.drew) : (Code.region id l.toArray true).wp P Q a w :=
  wp_region_any hm (wpAny_of_G hrf _ _ _ _ h)
end

/-- New blocks and draws; what was there stands. -/
def GB (w w' : World) : Prop := Below w.heap.size w w'
theorem GB.rf (a : World) : GB a a := Below.refl _ _
theorem GB.tr (a b c : World) (h : GB a b) (k : GB b c) : GB a c := Below.trans h (Below.mono k (Below.size h))
theorem GB.al (w : World) (o : Obj) : GB w (w.alloc o) := (Below.refl _ _).alloc (Nat.le_refl _) o
theorem GB.undrew {w w' : World} (h : GB w.drew w') : Bel w w' := by
  have h0 : Below w.drew.heap.size w.drew w' := h
  exact ⟨h0.os, h0.tape, h0.output, h0.size, h0.block⟩
theorem GB.cell {w w' : World} (h : GB w w') {p : Addr} {v : Value} (hc : w.cell? p = some v) : w'.cell? p = some v := (Below.cell h (World.block_lt_of_cell? w _ hc)).trans hc
theorem GB.get {α : Type} [Enc α] {w w' : World} (h : GB w w') {p : Addr} {x : α} (hc : get? α w p = some x) : get? α w' p = some x := (get?_below h (get?_lt hc)).trans hc
theorem quietG {P : Program} {f : FuncId} {args : Array Value} {w : World} {v : Value} {R : Ending → World → Prop} (h : Calls P f args w R) (hR : ∀ e w', R e w' → e = .returned v ∧ w' = w) : Calls P f args w fun e w' => e = .returned v ∧ GB w w' :=
  h.mono fun e w' h => by obtain ⟨h1, h2⟩ := hR e w' h; subst h2; exact ⟨h1, GB.rf _⟩
/-- .. but for one block. -/
def GX (r : Nat) (w w' : World) : Prop := w.grownBy w' (some r)
end Go.Gv
/- Regions with two operations ready at once; a field of a struct written. Conditions: those named in each theorem. -/
namespace Go.Gv
open Go Go.RowKit
section
variable {P : Program} {md : Region.Mode} {Q : Exit → Act → World → Prop} {G : World → World → Prop} {T : List Nat}
end
theorem get?_poke {α : Type} [Enc α] {w : World} {g j : Nat} {x y : α} {v : Value} (h : get? α w ⟨g, 0, none⟩ = some x) (hy : Enc.enc y = (Enc.enc x).set j v) : get? α (w.setCell ⟨g, j, none⟩ v) ⟨g, 0, none⟩ = some y := by
  have hadd : ∀ i, (⟨g, 0, none⟩ : Addr).add i = ⟨g, i, none⟩ := fun i => by unfold Addr.add; split <;> simp_all
  rw [get?_iff] at h ⊢
  intro i u hu
  have hlen : (Enc.enc x).length = Enc.n α := Enc.len x
  rw [hadd]
  have hi : i < (Enc.enc x).length := by have := (List.getElem?_eq_some_iff.1 hu).1; rw [Enc.len] at this; omega
  have hx := h i _ (List.getElem?_eq_getElem hi)
  rw [hadd] at hx
  rw [hy] at hu
  by_cases e : j = i
  · subst e
    rw [World.cell?_setCell_same w _ v hx]
    rw [List.getElem?_set_self hi] at hu; exact hu
  · rw [World.cell?_setCell_other w _ _ v (fun h => e (by injection h)), hx]
    rw [List.getElem?_set_ne e, List.getElem?_eq_getElem hi] at hu; exact hu
end Go.Gv
/- Ranging over a map that reads as a list. Conditions: those named in each theorem. -/
namespace Go.Gv
open Go Go.RowKit Go.ChangeMaps Go.MapKept
set_option linter.unusedSectionVars false

theorem leftOf_push (es : Array MapEntry) (seen : Array Nat) (k : Nat) : (leftOf es (seen.push k)).toList = (leftOf es seen).toList.filter fun x => !(x.born == k) := by
  unfold leftOf
  rw [Array.toList_filter, Array.toList_filter, List.filter_filter]
  apply List.filter_congr
  intro x _
  rw [Go.contains_push]
  cases seen.contains x.born <;> cases (x.born == k) <;> rfl
theorem filter_born {a b : List MapEntry} {e : MapEntry} (hp : (a ++ e :: b).Pairwise fun x y => x.born < y.born) : (a ++ e :: b).filter (fun x => !(x.born == e.born)) = a ++ b := by
  rw [List.pairwise_append] at hp
  obtain ⟨_, h2, h3⟩ := hp
  rw [List.pairwise_cons] at h2
  rw [List.filter_append, List.filter_cons]
  have ha : a.filter (fun x => !(x.born == e.born)) = a := by
    rw [List.filter_eq_self]
    intro x hx
    have := h3 x hx e (by simp)
    simp; omega
  have hb : b.filter (fun x => !(x.born == e.born)) = b := by
    rw [List.filter_eq_self]
    intro x hx
    have := h2.1 x hx
    simp; omega
  simp [ha, hb]
section
variable {K V : Type} [DecidableEq K] [KEnc K] [VEnc V] {P : Program} {w w' : World} {r it : Nat} {m left : List (K × V)}
/-- Block it is an iterator over the map in block r, which reads as m; left: what is still to come. -/
def Ranges (w : World) (r it : Nat) (m left : List (K × V)) : Prop :=
  ∃ es clock since seen c0, w.heap[r]? = some (.map es clock) ∧ es.toList.map (fun e => (e.key, e.val)) = m.map (fun p => (KEnc.kv p.1, VEnc.vv p.2)) ∧ (m.map (·.1)).Nodup ∧
    es.toList.Pairwise (fun a b => a.born < b.born) ∧ (∀ e ∈ es.toList, e.born < clock) ∧
    w.heap[it]? = some (.mapIter (some r) since seen c0) ∧ (∀ x ∈ es.toList, x.born < since) ∧ since ≤ c0 ∧ since ≤ clock ∧
    (leftOf es seen).toList.map (fun e => (e.key, e.val)) = left.map (fun p => (KEnc.kv p.1, VEnc.vv p.2))
theorem Ranges.ne (h : Ranges w r it m left) : it ≠ r := by
  obtain ⟨es, clock, since, seen, c0, hb, _, _, _, _, hi, _⟩ := h
  intro e
  rw [e, hb] at hi
  cases hi
theorem Ranges.leftN (h : Ranges w r it m left) : w.rangeLeft r it = left.length := by
  obtain ⟨es, clock, since, seen, c0, hb, _, _, _, _, hi, _, _, _, hl⟩ := h
  simp only [World.rangeLeft, hb, hi]
  have := congrArg List.length hl
  simpa using this
/-- 'range m'. -/
theorem ranges_start {tM tK tV : TypeId} (hM : P.underlying tM = some (.map tK tV)) (h : mapAt K V w r = some m) :
    ∃ o, (Instr.range tM (.map (some r))).run P w = .ok (.pointer (some ⟨w.heap.size, 0, none⟩)) (w.alloc o) ∧ Ranges (w.alloc o) r w.heap.size m m := by
  have hlt := mapAt_lt h
  obtain ⟨es, clock, hb, he, hn, hp, hc⟩ := mapAt_iff.1 h
  refine ⟨_, run_range_map w tM tK tV r es clock hM hb, es, clock, clock, #[], clock, (Go.heap_alloc_old w _ hlt).trans hb, he, hn, hp, hc, Go.heap_alloc_new w _, hc, Nat.le_refl _, Nat.le_refl _, ?_⟩
  rw [← he]
  unfold leftOf
  rw [Array.toList_filter, List.filter_eq_self.2 (by intro x _; simp)]
/-- The step: nothing is left, or one that is left comes, whichever. -/
theorem Ranges.next (P : Program) (h : Ranges w r it m left) :
    (left = [] ∧ ∀ ty : TypeId, (Instr.next (.pointer (some ⟨it, 0, none⟩)) false ty).run P w = .ok (.tuple #[.bool false]) w) ∨
    ∃ l1 p l2 w', left = l1 ++ p :: l2 ∧ (∀ ty : TypeId, (Instr.next (.pointer (some ⟨it, 0, none⟩)) false ty).run P w = .ok (.tuple #[.bool true, KEnc.kv p.1, VEnc.vv p.2]) w') ∧ Ranges w' r it m (l1 ++ l2) ∧
      w.grownBy w' (some it) ∧ w'.heap.size = w.heap.size ∧ (Instr.entry (.pointer (some ⟨it, 0, none⟩))).run P w' = .ok (.tuple #[KEnc.kv p.1, VEnc.vv p.2]) w' := by
  have hne := h.ne
  obtain ⟨es, clock, since, seen, c0, hb, he, hn, hp, hc, hit, hold, hsc, hsk, hl⟩ := h
  rcases run_next_at (P := P) w 0 it r since c0 seen es clock hit hb hold hsc with ⟨h0, hrun⟩ | ⟨e, hel, w1, hal, hrun⟩
  · refine .inl ⟨?_, fun _ => hrun⟩
    have := congrArg List.length hl
    simp only [List.length_map, Array.length_toList, h0] at this
    exact List.eq_nil_of_length_eq_zero this.symm
  · obtain ⟨hem, hes⟩ := mem_left hel
    obtain ⟨a, b, hab⟩ := List.append_of_mem hel
    have hl2 := hl
    rw [hab, List.map_append, List.map_cons] at hl2
    obtain ⟨l1, lr, rfl, e1, e2⟩ := List.map_eq_append_iff.1 hl2.symm
    obtain ⟨p, l2, rfl, e3, e4⟩ := List.map_eq_cons_iff.1 e2
    simp only [Prod.mk.injEq] at e3
    have hr1 : w1.heap[it]? = some (.mapIter (some r) since seen c0) := by rcases hal with rfl | rfl <;> exact hit
    have hb1 : w1.heap[r]? = some (.map es clock) := by rcases hal with rfl | rfl <;> exact hb
    have hset := heap_set (o' := .mapIter (some r) since (seen.push e.born) clock) hr1
    have hb' : (setBlock w1 it (.mapIter (some r) since (seen.push e.born) clock)).heap[r]? = some (.map es clock) := (hset.2 r (fun e1 => hne e1.symm)).trans hb1
    have hborn : (es.toList.map (·.born)).Nodup := by
      rw [List.Nodup, List.pairwise_map]
      exact hp.imp fun h => by omega
    refine .inr ⟨l1, p, l2, _, rfl, fun ty => by rw [e3.1, e3.2]; exact hrun, ⟨es, clock, since, seen.push e.born, clock, hb', he, hn, hp, hc, hset.1, hold, hsk, hsk, ?_⟩, ?_, ?_, ?_⟩
    · rw [leftOf_push, hab, filter_born, List.map_append, List.map_append, e1, e4]
      rw [← hab]
      unfold leftOf
      rw [Array.toList_filter]
      exact hp.filter _
    · rcases hal with rfl | rfl <;> exact ⟨rfl, rfl, rfl, by simp [setBlock], fun i _ hi => hset.2 i (fun e1 => hi (by rw [e1]))⟩
    · rcases hal with rfl | rfl <;> simp [setBlock]
    · rw [e3.1, e3.2]
      exact run_entry_at _ it r since seen es clock e hset.1 hb' hem hborn
end
end Go.Gv
/- Two lists, place by place. Conditions: those named in each theorem. -/
namespace Go.Gv
/-- Two lists, place by place. -/
def R2 {α β : Type} (R : α → β → Prop) : List α → List β → Prop
  | [], [] => True
  | a :: l, b :: m => R a b ∧ R2 R l m
  | _, _ => False
section
variable {α β : Type} {R R' : α → β → Prop}
end
end Go.Gv
/- Worlds that differ in some blocks alone; slices by the blocks they lie in. Conditions: those named in each theorem. -/
namespace Go.Proofs.YtfhhcgldikmejaaGreatDoor
open Go Go.RowKit Go.Gv

/-- w' is w but for the blocks S, and new ones. -/
structure Chg (S : Nat → Prop) (w w' : World) : Prop where
  os : w'.os = w.os
  tape : w'.tape = w.tape
  output : w'.output = w.output
  size : w.heap.size ≤ w'.heap.size
  block : ∀ k, k < w.heap.size → ¬ S k → w'.heap[k]? = w.heap[k]?
theorem Chg.sub {S S' : Nat → Prop} {w w' : World} (h : Chg S w w') (hS : ∀ k, S k → S' k) : Chg S' w w' := ⟨h.os, h.tape, h.output, h.size, fun k hk hn => h.block k hk (fun hs => hn (hS k hs))⟩
section
variable {S S' : Nat → Prop} {w w' w2 : World}
theorem Chg.refl (S : Nat → Prop) (w : World) : Chg S w w := ⟨rfl, rfl, rfl, Nat.le_refl _, fun _ _ _ => rfl⟩
theorem Chg.trans (h : Chg S w w') (k : Chg S' w' w2) (hS : ∀ k, S' k → S k ∨ w.heap.size ≤ k) : Chg S w w2 :=
  ⟨k.os.trans h.os, k.tape.trans h.tape, k.output.trans h.output, Nat.le_trans h.size k.size, fun i hi hn => (k.block i (Nat.lt_of_lt_of_le hi h.size) (fun hs => by rcases hS i hs with h1 | h1; exact hn h1; omega)).trans (h.block i hi hn)⟩
theorem Chg.tr (h : Chg S w w') (k : Chg S w' w2) : Chg S w w2 := h.trans k fun _ h => .inl h
theorem Chg.of_bel (h : Bel w w') (S : Nat → Prop) : Chg S w w' := ⟨Below.os h, Below.tape h, Below.output h, Below.size h, fun k hk _ => Below.block h k hk⟩
theorem Chg.of_grown {row : Option Nat} (h : w.grownBy w' row) (hS : ∀ k, row = some k → S k) : Chg S w w' := ⟨h.os, h.tape, h.output, h.size, fun k hk hn => h.block k hk (fun e => hn (hS k e.symm))⟩
theorem Chg.bel (h : Chg S w w') (hS : ∀ k, S k → w.heap.size ≤ k) : Bel w w' := ⟨h.os, h.tape, h.output, h.size, fun k hk => h.block k hk (fun hs => by have := hS k hs; omega)⟩
theorem Chg.bel2 {w0 : World} (hb : Bel w0 w) (h : Chg S w w') (hS : ∀ k, S k → w0.heap.size ≤ k) : Bel w0 w' :=
  ⟨h.os.trans (Below.os hb), h.tape.trans (Below.tape hb), h.output.trans (Below.output hb), Nat.le_trans hb.size h.size, fun k hk => (h.block k (Nat.lt_of_lt_of_le hk hb.size) (fun hs => by have := hS k hs; omega)).trans (Below.block hb k hk)⟩
theorem Chg.cell {p : Addr} {v : Value} (h : Chg S w w') (hc : w.cell? p = some v) (hp : ¬ S p.block) : w'.cell? p = some v :=
  (World.cell?_of_block (w := w) (h.block _ (World.block_lt_of_cell? w _ hc) hp)).trans hc
theorem Chg.get {α : Type} [Enc α] {a : Addr} {x : α} (h : Chg S w w') (hg : get? α w a = some x) (hp : ¬ S a.block) : get? α w' a = some x := (get?_keep (h.block _ (get?_lt hg) hp)).trans hg
theorem Chg.free {n : Nat} (h : Chg S w w') (hf : blkFree w n = true) (hl : n < w.heap.size) (hn : ¬ S n) : blkFree w' n = true := (blkFree_keep (h.block _ hl hn)).trans hf
theorem Chg.map {K V : Type} [DecidableEq K] [KEnc K] [VEnc V] {r : Nat} {m : List (K × V)} (h : Chg S w w') (hm : mapAt K V w r = some m) (hr : ¬ S r) : mapAt K V w' r = some m := (mapAt_keep (h.block _ (mapAt_lt hm) hr)).trans hm
/-- A slice whose block, if it has elements, is one of Q. -/
def SlQ (α : Type) [Enc α] (Q : Nat → Prop) (w : World) (h : Hdr) (xs : List α) : Prop := Sl α w w.heap.size h.a h.len xs ∧ h.len ≤ h.cap ∧ h.cap ≤ maxLen ∧ (0 < h.len → ∀ ad, h.a = some ad → Q ad.block)
theorem _root_.Go.Gv.Sl.chg {α : Type} [Enc α] {A : Option Addr} {n : Nat} {xs : List α} (h : Chg S w w') (hs : Sl α w w.heap.size A n xs) (hx : 0 < n → ∀ ad, A = some ad → ¬ S ad.block) : Sl α w' w'.heap.size A n xs := by
  refine ⟨hs.1, fun hn => ?_⟩
  obtain ⟨ad, e, hb, hc⟩ := hs.2 hn
  exact ⟨ad, e, Nat.lt_of_lt_of_le hb h.size, fun k x hx' => Chg.get h (hc k x hx') (by rw [add_block]; exact hx hn ad e)⟩
theorem _root_.Go.Gv.OwnS.keep {α : Type} [Enc α] {base : Nat} {e : TypeId} {v : Value} {xs : List α} (h : OwnS w base e v xs) (hk : ∀ k, v.ownBlock = some k → w'.heap[k]? = w.heap[k]?) : OwnS w' base e v xs := by
  refine ⟨h.1, ?_⟩
  rcases h.2 with ⟨h1, h2⟩ | ⟨g, cap, cur, hv, hb, hh, rest⟩
  · exact .inl ⟨h1, h2⟩
  · exact .inr ⟨g, cap, cur, hv, hb, (hk g (by rw [hv]; rfl)).trans hh, rest⟩
theorem _root_.Go.Gv.OwnS.chg {α : Type} [Enc α] {base : Nat} {e : TypeId} {v : Value} {xs : List α} (h : OwnS w base e v xs) (hc : Chg S w w') (hS : ∀ k, v.ownBlock = some k → ¬ S k) : OwnS w' base e v xs :=
  h.keep fun k hk => hc.block k (h.lt k hk).2 (hS k hk)
end
end Go.Proofs.YtfhhcgldikmejaaGreatDoor
/- Sizes of a service. Conditions: those named in each theorem. -/
namespace Go.Proofs.YtfhhcgldikmejaaGreatDoor
open Go Go.RowKit Go.Gv Go.Proofs

def validB (c : GConf) : Bool := decide (1 ≤ c.f) && (decide (c.f ≤ 21) && (decide (1 ≤ c.clients) && decide (c.clients ≤ 100)))
theorem validB_iff {c : GConf} : validB c = true ↔ 1 ≤ c.f ∧ c.f ≤ 21 ∧ 1 ≤ c.clients ∧ c.clients ≤ 100 := by unfold validB; simp
def inB (c : GConf) (i : Int) : Bool := decide (0 ≤ i) && decide (i < 3 * c.f + 1)
set_option maxRecDepth 100000 in
theorem valid_any (c : GConf) (w : World) : Calls Tryz.prog 74 #[c.val] w fun e w' => e = .returned (.bool (validB c)) ∧ Bel w w' := by
  by_cases h0 : 1 ≤ c.f
  · skip
    by_cases h1 : c.f ≤ 21
    · skip
      by_cases h2 : 1 ≤ c.clients
      · skip
        by_cases h3 : c.clients ≤ 100
        · skip
          go_enter Tryz.func74, Tryz.ntmps74
          go_wp2_with fail
          go_ret
          exact ⟨ret_bool (by unfold validB; simp <;> omega), (Bel.refl w).alloc _⟩
        · skip
          go_enter Tryz.func74, Tryz.ntmps74
          go_wp2_with fail
          go_ret
          exact ⟨ret_bool (by unfold validB; simp <;> omega), (Bel.refl w).alloc _⟩
      · skip
        go_enter Tryz.func74, Tryz.ntmps74
        go_wp2_with fail
        go_ret
        exact ⟨ret_bool (by unfold validB; simp <;> omega), (Bel.refl w).alloc _⟩
    · skip
      go_enter Tryz.func74, Tryz.ntmps74
      go_wp2_with fail
      go_ret
      exact ⟨ret_bool (by unfold validB; simp <;> omega), (Bel.refl w).alloc _⟩
  · skip
    go_enter Tryz.func74, Tryz.ntmps74
    go_wp2_with fail
    go_ret
    exact ⟨ret_bool (by unfold validB; simp <;> omega), (Bel.refl w).alloc _⟩
set_option maxRecDepth 100000 in
theorem n_any (c : GConf) (w : World) (h1 : -1000000 ≤ c.f) (h2 : c.f ≤ 1000000) : Calls Tryz.prog 90 #[c.val] w fun e w' => e = .returned (.int .i64 (3 * c.f + 1)) ∧ Bel w w' := by
  have e1 : IntKind.i64.wrap (3 * c.f) = 3 * c.f := IntWalk.i64_in _ (by omega)
  have e2 : IntKind.i64.wrap (3 * c.f + 1) = 3 * c.f + 1 := IntWalk.i64_in _ (by omega)
  go_enter Tryz.func90, Tryz.ntmps90
  go_wp2_with fail
  go_ret
  exact ⟨rfl, (Bel.refl w).alloc _⟩
set_option maxRecDepth 100000 in
theorem q_any (c : GConf) (w : World) (h1 : -1000000 ≤ c.f) (h2 : c.f ≤ 1000000) : Calls Tryz.prog 112 #[c.val] w fun e w' => e = .returned (.int .i64 (2 * c.f + 1)) ∧ Bel w w' := by
  have e1 : IntKind.i64.wrap (2 * c.f) = 2 * c.f := IntWalk.i64_in _ (by omega)
  have e2 : IntKind.i64.wrap (2 * c.f + 1) = 2 * c.f + 1 := IntWalk.i64_in _ (by omega)
  go_enter Tryz.func112, Tryz.ntmps112
  go_wp2_with fail
  go_ret
  exact ⟨rfl, (Bel.refl w).alloc _⟩
set_option maxRecDepth 100000 in
theorem in_any (c : GConf) (i : Int) (w : World) (h1 : -1000000 ≤ c.f) (h2 : c.f ≤ 1000000) : Calls Tryz.prog 75 #[c.val, .int .i64 i] w fun e w' => e = .returned (.bool (inB c i)) ∧ Bel w w' := by
  have HB := Lib.hid ((Bel.refl w).alloc (.cells (GConf.enc c).toArray 24))
  by_cases h0 : 0 ≤ i
  · go_enter Tryz.func75, Tryz.ntmps75
    go_wp2_with fail
    refine (n_any c _ h1 h2).mono ?_
    rintro _ w1 ⟨rfl, hb⟩
    have HB1 := Lib.hid (HB.out.trans hb)
    clear hb
    go_wp2_with fail
    go_ret
    exact ⟨ret_bool (by unfold inB; simp <;> omega), HB1.out⟩
  · go_enter Tryz.func75, Tryz.ntmps75
    go_wp2_with fail
    go_ret
    exact ⟨ret_bool (by unfold inB; simp <;> omega), HB.out⟩
theorem in_is (b : Bool) (c : GConf) (i : Int) (w : World) (hb : inB c i = b) (h1 : -1000000 ≤ c.f) (h2 : c.f ≤ 1000000) : Calls Tryz.prog 75 #[c.val, .int .i64 i] w fun e w' => e = .returned (.bool b) ∧ Bel w w' := by subst hb; exact in_any c i w h1 h2
theorem valid_is (b : Bool) (c : GConf) (w : World) (hb : validB c = b) : Calls Tryz.prog 74 #[c.val] w fun e w' => e = .returned (.bool b) ∧ Bel w w' := by subst hb; exact valid_any c w
def mayR (c : GConf) (i : Int) : Bool := validB c && inB c i
end Go.Proofs.YtfhhcgldikmejaaGreatDoor
/- Zero values written as literals. Conditions: none. -/
namespace Go.Proofs.YtfhhcgldikmejaaGreatDoor
open Go Go.RowKit Go.Gv

theorem gBuild_zero {α : Type} [Enc α] {P : Program} {t : TypeId} {x : α} (val : α → Value) (hv : val x = .agg (Enc.enc x).toArray) (h : P.built t [] = some (Enc.enc x).toArray) (w : World) : (gBuild t #[]).run P w = .ok (val x) w := by
  rw [hv]
  unfold gBuild
  exact run_build w t #[] _ h
@[go_sem ↓ high] theorem xd0_350 (ρ : Operand → Value) (dst : Option Tmp) (ps : Array (Nat × Operand)) (ty : TypeId) (pos : String) (after : Array Edge) (guard : Option (Nat × Bool)) : execOp ρ { dst, op := .build 350 ps, type := ty, pos, after, guard } = (do pure (.value (← gBuild 350 (ps.map fun (i, x) => (i, ρ x))))) := ex_build ..
@[go_sem ↓ high] theorem bd0_350 (w : World) : (gBuild 350 #[]).run Tryz.prog w = .ok (GCodeWriter.val default) w := gBuild_zero GCodeWriter.val (GCodeWriter.val_eq _) (by kernel_rfl) w
@[go_sem ↓ high] theorem xd0_35 (ρ : Operand → Value) (dst : Option Tmp) (ps : Array (Nat × Operand)) (ty : TypeId) (pos : String) (after : Array Edge) (guard : Option (Nat × Bool)) : execOp ρ { dst, op := .build 35 ps, type := ty, pos, after, guard } = (do pure (.value (← gBuild 35 (ps.map fun (i, x) => (i, ρ x))))) := ex_build ..
@[go_sem ↓ high] theorem bd0_35 (w : World) : (gBuild 35 #[]).run Tryz.prog w = .ok (GHash.val default) w := gBuild_zero GHash.val (GHash.val_eq _) (by kernel_rfl) w
end Go.Proofs.YtfhhcgldikmejaaGreatDoor
/- Numbers and rows as bytes: what the writer writes. Conditions: those named in each theorem. -/
namespace Go.Proofs.YtfhhcgldikmejaaGreatDoor
open Go Go.RowKit Go.Gv Go.Proofs

theorem chg_setCell {S : Nat → Prop} {w : World} {p : Addr} (hp : S p.block) (u : Value) : Chg S w (w.setCell p u) :=
  ⟨rfl, rfl, rfl, by simp, fun k _ hn => Below.heap_setCell _ _ _ _ (fun e => hn (e ▸ hp))⟩
/-- A number's bytes. -/
def numL (n : Nat) : List U8 := if n < 128 then [⟨UInt8.ofNat n⟩] else ⟨UInt8.ofNat (n % 128 + 128)⟩ :: numL (n / 128)
termination_by n
decreasing_by omega
theorem numL_small {n : Nat} (h : n < 128) : numL n = [⟨UInt8.ofNat n⟩] := by rw [numL, if_pos h]
theorem numL_big {n : Nat} (h : ¬ n < 128) : numL n = ⟨UInt8.ofNat (n % 128 + 128)⟩ :: numL (n / 128) := by rw [numL, if_neg h]
theorem numL_len : ∀ (k n : Nat), n < 128 ^ (k + 1) → (numL n).length ≤ k + 1
  | 0, n, h => by rw [numL_small (by simpa using h)]; simp
  | k + 1, n, h => by
    by_cases h1 : n < 128
    · rw [numL_small h1]; simp
    · rw [numL_big h1, List.length_cons]
      have := numL_len k (n / 128) (by rw [Nat.pow_succ] at h; omega)
      omega
theorem numL_le {n : Nat} (h : n < 18446744073709551616) : (numL n).length ≤ 10 := numL_len 9 n (Nat.lt_of_lt_of_le h (by decide))
def intL (n : Int) : List U8 := numL (max 0 n).toNat
theorem intL_le {n : Int} (h : n ≤ 9223372036854775807) : (intL n).length ≤ 10 := numL_le (by omega)
def rowL (l : List U8) : List U8 := intL l.length ++ l
def hashL (h : GHash) : List U8 := h.l.map U8.mk
theorem hashL_len (h : GHash) : (hashL h).length = 32 := by unfold hashL; rw [List.length_map, h.h]
def bytesL (s : ByteArray) : List U8 := s.data.toList.map U8.mk

/-- At p lies a writer whose bytes are bs; all of it is new since w0. -/
structure WrIs (w0 w : World) (p : Nat) (bs : List U8) : Prop where
  bel : Bel w0 w
  own : ∃ hd : Hdr, get? GCodeWriter w ⟨p, 0, none⟩ = some ⟨hd⟩ ∧ OwnS w w0.heap.size 5 hd.val bs ∧ hd.val.ownBlock ≠ some p
  lt : w0.heap.size ≤ p
  free : blkFree w p = true
section
variable {w0 w w' : World} {p : Nat} {bs ys : List U8}
theorem WrIs.step (h : WrIs w0 w p bs) (hb : Bel w w') : WrIs w0 w' p bs := by
  obtain ⟨hd, h1, h2, h3⟩ := h.own
  exact ⟨h.bel.trans hb, ⟨hd, GB.get hb h1, h2.step hb, h3⟩, h.lt, (blkFree_keep (Below.block hb _ (get?_lt h1))).trans h.free⟩
/-- The blocks that a writer writes. -/
def wrFoot (w : World) (p : Nat) (k : Nat) : Prop := k = p ∨ ∃ hd : Hdr, get? GCodeWriter w ⟨p, 0, none⟩ = some ⟨hd⟩ ∧ hd.val.ownBlock = some k
/-- The writer's bytes are ys now; nothing else was changed. -/
structure WrDid (w0 w : World) (p : Nat) (ys : List U8) (w' : World) : Prop where
  is : WrIs w0 w' p ys
  chg : Chg (wrFoot w p) w w'
  foot : ∀ k, wrFoot w' p k → wrFoot w p k ∨ w.heap.size ≤ k
theorem WrDid.refl (h : WrIs w0 w p bs) : WrDid w0 w p bs w := ⟨h, Chg.refl _ _, fun _ hk => .inl hk⟩
theorem WrDid.trans {w2 : World} {zs : List U8} (h : WrDid w0 w p ys w') (k : WrDid w0 w' p zs w2) : WrDid w0 w p zs w2 :=
  ⟨k.is, h.chg.trans k.chg h.foot, fun i hi => by
    rcases k.foot i hi with h1 | h1
    · exact h.foot i h1
    · exact .inr (Nat.le_trans h.chg.size h1)⟩
theorem wrFoot_bel (h : WrIs w0 w p bs) (hb : Bel w w') {k : Nat} (hk : wrFoot w' p k) : wrFoot w p k := by
  obtain ⟨hd, h1, _⟩ := h.own
  rcases hk with rfl | ⟨hd', h2, h3⟩
  · exact .inl rfl
  · rw [GB.get hb h1] at h2
    injection h2 with h2
    exact .inr ⟨hd, h1, by rw [show hd = hd' by injection h2]; exact h3⟩
theorem WrDid.bel {w2 : World} {zs : List U8} (h : WrIs w0 w p bs) (hb : Bel w w') (k : WrDid w0 w' p zs w2) : WrDid w0 w p zs w2 :=
  WrDid.trans (w' := w') (ys := bs) ⟨h.step hb, Chg.of_bel hb _, fun _i hi => .inl (wrFoot_bel h hb hi)⟩ k
/-- A writer behind an append whose header is stored. -/
theorem WrIs.put {hd : Hdr} {v' : Value} {n c : Nat} {A : Option Addr} (hbel : Bel w0 w) (hg : get? GCodeWriter w ⟨p, 0, none⟩ = some ⟨hd⟩) (ho : OwnS w w0.heap.size 5 hd.val bs) (hne : hd.val.ownBlock ≠ some p) (hlt : w0.heap.size ≤ p) (hf : blkFree w p = true)
    (ho' : OwnS w' w0.heap.size 5 v' ys) (hv : v' = .slice A n c) (hgr : w.grownBy w' hd.val.ownBlock) (hob : v'.ownBlock = hd.val.ownBlock ∨ v'.ownBlock = some w.heap.size) :
    WrDid w0 w p ys (w'.setCell ⟨p, 0, none⟩ v') := by
  have hpl := get?_lt hg
  have hg' : get? GCodeWriter w' ⟨p, 0, none⟩ = some ⟨hd⟩ := (get?_keep (hgr.block p hpl (fun e => hne e.symm))).trans hg
  have hne' : v'.ownBlock ≠ some p := by
    rcases hob with h | h
    · rw [h]; exact hne
    · rw [h]; intro e; injection e with e; simp only at hpl; omega
  have hc : Chg (fun k => k = p) w' (w'.setCell ⟨p, 0, none⟩ v') := chg_setCell (S := fun k => k = p) (p := ⟨p, 0, none⟩) rfl _
  have hb1 : Bel w0 w' := Below.grown hbel hgr hbel.size (fun k hk => (ho.lt k hk).1)
  have hgp : get? GCodeWriter (w'.setCell ⟨p, 0, none⟩ v') ⟨p, 0, none⟩ = some ⟨⟨A, n, c⟩⟩ := get?_poke (y := (⟨⟨A, n, c⟩⟩ : GCodeWriter)) (j := 0) (v := v') hg' (by rw [hv]; rfl)
  refine ⟨?_, (Chg.of_grown (S := wrFoot w p) hgr (fun k hk => .inr ⟨hd, hg, hk⟩)).tr (hc.sub (fun k hk => .inl hk)), ?_⟩
  rotate_left
  · rintro k (rfl | ⟨hd', h1, h2⟩)
    · exact .inl (.inl rfl)
    · rw [hgp] at h1
      injection h1 with h1
      rw [show hd' = ⟨A, n, c⟩ by injection h1 with h1; exact h1.symm] at h2
      have h3 : v'.ownBlock = some k := by rw [hv]; exact h2
      rcases hob with h | h
      · exact .inl (.inr ⟨hd, hg, by rw [← h]; exact h3⟩)
      · rw [h] at h3; injection h3 with h3; exact .inr (by omega)
  refine ⟨Chg.bel2 hb1 hc (fun k hk => by rw [hk]; exact hlt), ⟨⟨A, n, c⟩, ?_, ?_, ?_⟩, hlt, ?_⟩
  · exact hgp
  · have := ho'.chg hc (fun k hk e => hne' (by rw [hk, e]))
    rwa [hv] at this ⊢
  · rw [hv] at hne'; exact hne'
  · rw [blkFree_setCell]
    exact (blkFree_keep (hgr.block p hpl (fun e => hne e.symm))).trans hf
end
end Go.Proofs.YtfhhcgldikmejaaGreatDoor
/- Maps read as lists: an entry taken out. Conditions: those named in each theorem. -/
namespace Go.Gv
open Go Go.RowKit

section
set_option linter.unusedSectionVars false
variable {K V : Type} [DecidableEq K] [KEnc K] [VEnc V] {P : Program} {tK tM tV : TypeId}
end
end Go.Gv
/- Results that lie in memory. Conditions: those named in each theorem. -/
namespace Go.Proofs.YtfhhcgldikmejaaGreatDoor
open Go Go.RowKit Go.Gv
theorem results_cell_tmp {P : Program} {fn : Func} {α : Type} [Enc α] {a u : Tmp} {t : TypeId} {tmps : Array Value} {w : World} {ad : Addr} {x : α} (hres : fn.results = #[.cell a t, .tmp u]) (ha : tmps.getD a undef = .pointer (some ad)) (h1 : aggT P t = true) (h2 : sizeT P t = Enc.n α) (hg : get? α w ad = some x) :
    (results fn tmps).run P w = .ok (.tuple #[.agg (Enc.enc x).toArray, tmps.getD u undef]) w := by
  have hl := run_loadVar_get (P := P) h1 h2 hg
  simp only [Array.getD_eq_getD_getElem?] at ha
  simp [results, hres, ha, asAddr, hl]
theorem results_cell {P : Program} {fn : Func} {α : Type} [Enc α] {a : Tmp} {t : TypeId} {tmps : Array Value} {w : World} {ad : Addr} {x : α} (hres : fn.results = #[.cell a t]) (ha : tmps.getD a undef = .pointer (some ad)) (h1 : aggT P t = true) (h2 : sizeT P t = Enc.n α) (hg : get? α w ad = some x) :
    (results fn tmps).run P w = .ok (.agg (Enc.enc x).toArray) w := by
  have hl := run_loadVar_get (P := P) h1 h2 hg
  simp only [Array.getD_eq_getD_getElem?] at ha
  simp [results, hres, ha, asAddr, hl]
end Go.Proofs.YtfhhcgldikmejaaGreatDoor
/- Where own lists lie. Conditions: those named in each theorem. -/
namespace Go.Gv
open Go
theorem addN (blk off n : Nat) : (⟨blk, off, none⟩ : Addr).add n = ⟨blk, off + n, none⟩ := by
  unfold Addr.add
  by_cases h : n = 0
  · subst h; rfl
  · rw [if_neg h]
end Go.Gv
namespace Go.Proofs.YtfhhcgldikmejaaGreatDoor
open Go Go.RowKit Go.Gv
end Go.Proofs.YtfhhcgldikmejaaGreatDoor
/- Stores into blocks of cells, and what they leave alone. Conditions: those named in each theorem. -/
namespace Go.Proofs.YtfhhcgldikmejaaGreatDoor
open Go Go.RowKit Go.Gv

theorem atPokeV {w : World} {g : Nat} {cs : List Value} (h : At w ⟨g, 0, none⟩ cs) {j : Nat} (hj : j < cs.length) (v : Value) : At (w.setCell ⟨g, j, none⟩ v) ⟨g, 0, none⟩ (cs.set j v) := by
  intro i u hu
  rw [addN, Nat.zero_add]
  have hi : i < cs.length := by have := (List.getElem?_eq_some_iff.1 hu).1; simpa using this
  have hx := h i _ (List.getElem?_eq_getElem hi)
  rw [addN, Nat.zero_add] at hx
  by_cases e : j = i
  · subst e
    rw [World.cell?_setCell_same w _ v hx]
    rw [List.getElem?_set_self hj] at hu; exact hu
  · rw [World.cell?_setCell_other w _ _ v (fun h => e (by injection h)), hx]
    rw [List.getElem?_set_ne e, List.getElem?_eq_getElem hi] at hu; exact hu
theorem atPutSegV {g j : Nat} : ∀ (vs : List Value) (i : Nat) (w : World) (cs : List Value), At w ⟨g, 0, none⟩ cs → j + i + vs.length ≤ cs.length → At (World.putFrom w ⟨g, j, none⟩ i vs) ⟨g, 0, none⟩ (setSeg cs (j + i) vs)
  | [], _, _, _, h, _ => h
  | v :: vs, i, w, cs, h, hl => by
    simp only [List.length_cons] at hl
    unfold World.putFrom setSeg
    rw [addN]
    exact atPutSegV vs (i + 1) _ _ (atPokeV h (by omega) v) (by rw [List.length_set]; omega)
theorem get?_putSegV {α : Type} [Enc α] {w : World} {g j : Nat} {x y : α} {vs : List Value} (h : get? α w ⟨g, 0, none⟩ = some x) (hl : j + vs.length ≤ Enc.n α) (hy : Enc.enc y = setSeg (Enc.enc x) j vs) : get? α (World.putCells w ⟨g, j, none⟩ vs) ⟨g, 0, none⟩ = some y := by
  rw [get?_iff] at h ⊢
  rw [hy]
  unfold World.putCells
  exact atPutSegV vs 0 w _ h (by rw [Enc.len]; omega)
theorem get?_putV {α : Type} [Enc α] {w : World} {b o : Nat} {y : α} (x : α) (h : get? α w ⟨b, o, none⟩ = some y) : get? α (World.putCells w ⟨b, o, none⟩ (Enc.enc x)) ⟨b, o, none⟩ = some x := by
  refine get?_iff.2 fun j v hv => ?_
  have hj : j < (Enc.enc x).length := (List.getElem?_eq_some_iff.1 hv).1
  have hjy : j < (Enc.enc y).length := by rw [Enc.len] at hj ⊢; exact hj
  have hc := (get?_iff.1 h) j _ (List.getElem?_eq_getElem hjy)
  rw [addN] at hc ⊢
  unfold World.putCells
  rw [cell_putFrom rfl _ _ _ _ rfl (by rw [hc]; rfl), if_pos ⟨rfl, by simp, by simp; exact hj⟩]
  simpa using hv
theorem chg_put {S : Nat → Prop} {w : World} {b o : Nat} (hb : S b) (vs : List Value) : Chg S w (World.putCells w ⟨b, o, none⟩ vs) := by
  unfold World.putCells
  have key : ∀ (vs : List Value) (i : Nat) (w1 : World), Chg S w w1 → Chg S w (World.putFrom w1 ⟨b, o, none⟩ i vs) := by
    intro vs
    induction vs with
    | nil => intro i w1 h; exact h
    | cons v vs ih =>
      intro i w1 h
      refine ih _ _ (h.tr ⟨rfl, rfl, rfl, by simp, fun k _ hn => Below.heap_setCell _ _ _ _ (fun e => hn ?_)⟩)
      rw [add_block] at e
      exact e ▸ hb
  exact key vs 0 w (Chg.refl _ _)
theorem chg_cell {S : Nat → Prop} {w : World} {b o : Nat} (hb : S b) (u : Value) : Chg S w (w.setCell ⟨b, o, none⟩ u) :=
  ⟨rfl, rfl, rfl, by simp, fun k _ hn => Below.heap_setCell _ _ _ _ (fun e => hn (e ▸ hb))⟩
theorem chg_new {S : Nat → Prop} {w w' : World} (h : Chg (fun k => S k ∨ w.heap.size ≤ k) w w') : Chg S w w' :=
  ⟨h.os, h.tape, h.output, h.size, fun k hk hn => h.block k hk (by rintro (h1 | h1); exact hn h1; omega)⟩
theorem chg_after {S T : Nat → Prop} {w wx w' : World} (hb : Bel w wx) (h : Chg T wx w') (hT : ∀ k, T k → S k ∨ w.heap.size ≤ k) : Chg S w w' := chg_new ((Chg.of_bel hb _).tr (h.sub hT))
theorem blkFree_put {w : World} {b o n : Nat} (vs : List Value) : blkFree (World.putCells w ⟨b, o, none⟩ vs) n = blkFree w n := by
  unfold World.putCells
  have key : ∀ (vs : List Value) (i : Nat) (w1 : World), blkFree (World.putFrom w1 ⟨b, o, none⟩ i vs) n = blkFree w1 n := by
    intro vs
    induction vs with
    | nil => intro i w1; rfl
    | cons v vs ih => intro i w1; exact (ih _ _).trans (blkFree_setCell _ _ _)
  exact key vs 0 w
theorem get_not_mapV {α : Type} [Enc α] {K V : Type} [DecidableEq K] [KEnc K] [VEnc V] {w : World} {r : Nat} {m : List (K × V)} (hm : mapAt K V w r = some m) {a : Addr} {x : α} (h : get? α w a = some x) : a.block ≠ r := by
  intro e
  obtain ⟨es, c, hb, _⟩ := mapAt_iff.1 hm
  have h0 : (Enc.enc x)[0]? = some ((Enc.enc x)[0]'(by rw [Enc.len]; exact Enc.pos)) := List.getElem?_eq_getElem _
  have := get?_iff.1 h 0 _ h0
  simp [World.cell?, add_block, e, hb] at this
end Go.Proofs.YtfhhcgldikmejaaGreatDoor
/- The book of signatures. Conditions: those named in each theorem. -/
namespace Go.Proofs.YtfhhcgldikmejaaGreatDoor
open Go Go.RowKit Go.Gv Go.Proofs

def strB (ys : List U8) : ByteArray := ⟨(ys.map U8.v).toArray⟩
theorem str_conv {w : World} {B0 : Nat} {B : Option Addr} {n c : Nat} {ys : List U8} (h : Sl U8 w B0 B n ys) : (convert 61 9 (.slice B n c)).run Tryz.prog w = .ok (.string (strB ys)) w := by
  cases B with
  | none =>
    have hn : n = 0 := by
      rcases Nat.eq_zero_or_pos n with h0 | h0
      · exact h0
      · obtain ⟨ad, e, _⟩ := h.2 h0; cases e
    subst hn
    obtain rfl : ys = [] := List.length_eq_zero_iff.1 h.1
    rw [run_convert_bytes_string w _ _ 5 none 0 c (by kernel_rfl) (by kernel_rfl) (by kernel_rfl)]
    rfl
  | some ad =>
    have hl : (ys.map U8.v).length = n := by rw [List.length_map]; exact h.1
    have := run_convert_bytes_back (P := Tryz.prog) w 61 9 5 ad c (ys.map U8.v) (by kernel_rfl) (by kernel_rfl) (by kernel_rfl) (fun j hj => by
      have hj2 : j < n := by rw [← hl]; exact hj
      obtain ⟨ad', x, e, _, hx, hg⟩ := h.at_ (k := j) hj2
      injection e with e
      subst e
      have hc := get1 (α := U8) rfl hg
      rw [show Enc.n U8 = 1 from rfl, Nat.mul_one] at hc
      rw [hc]
      have hxj : (ys.map U8.v)[j] = x.v := by
        have h1 : (ys.map U8.v)[j]? = some x.v := by rw [List.getElem?_map, hx]; rfl
        rw [List.getElem?_eq_getElem hj] at h1
        exact Option.some.inj h1
      rw [hxj]
      rfl)
    rw [hl] at this
    exact this
abbrev MBook := List (GBookSigned × Int)
/-- At block g lies a book over the map in block m. -/
def BookIs (w : World) (g m : Nat) (B : MBook) : Prop := get? GBookBook w ⟨g, 0, none⟩ = some ⟨some m⟩ ∧ mapAt GBookSigned Int w m = some B
section
variable {w w' : World} {g m : Nat} {B : MBook}
theorem BookIs.chg {S : Nat → Prop} (h : BookIs w g m B) (hc : Chg S w w') (hg : ¬ S g) (hm : ¬ S m) : BookIs w' g m B := ⟨hc.get h.1 hg, hc.map h.2 hm⟩
theorem BookIs.step (h : BookIs w g m B) (hb : Bel w w') : BookIs w' g m B := h.chg (S := fun _ => False) (Chg.of_bel hb _) id id
theorem BookIs.ltg (h : BookIs w g m B) : g < w.heap.size := get?_lt h.1
theorem BookIs.ltm (h : BookIs w g m B) : m < w.heap.size := mapAt_lt h.2
end
/-- The mark of a text, when it is signed. -/
def markOf (B : MBook) (k : GBookSigned) : Int := if (mget B k).getD 0 = 0 then (B.length : Int) + 1 else (mget B k).getD 0
def signB (B : MBook) (k : GBookSigned) : MBook := if (mget B k).getD 0 = 0 then mset B k ((B.length : Int) + 1) else B
def rightB (B : MBook) (k : GBookSigned) (mark : Int) : Bool := decide (0 < (mget B k).getD 0) && decide ((mget B k).getD 0 = mark)
set_option maxRecDepth 100000 in
set_option maxHeartbeats 400000 in
theorem newBook_any (w : World) : Calls Tryz.prog 19 #[] w fun e w' => ∃ g m : Nat, e = .returned (.pointer (some ⟨g, 0, none⟩)) ∧ BookIs w' g m [] ∧ w.heap.size ≤ g ∧ w.heap.size ≤ m ∧ Bel w w' := by
  have hmm := @run_makeMap Tryz.prog
  go_enter Tryz.func19, Tryz.ntmps19
  go_wp2
  go_ret
  exact ⟨w.heap.size + 1, w.heap.size, rfl, ⟨nw112 (w.alloc (.map #[] 0)) (w.heap.size + 1) ⟨some w.heap.size⟩ (by simp), mapAt_alloc _ (mapAt_new _ _ w)⟩, by omega, by omega, ((Bel.refl w).alloc _).alloc _⟩
set_option maxRecDepth 100000 in
set_option maxHeartbeats 1000000 in
theorem sign_any (g m : Nat) (B : MBook) (d : Int) (A : Option Addr) (n c : Nat) (ys : List U8) (w : World) (h : BookIs w g m B) (hy : Sl U8 w w.heap.size A n ys) (hl : B.length ≤ 1000000000) :
    Calls Tryz.prog 12 #[.pointer (some ⟨g, 0, none⟩), .int .i64 d, .slice A n c] w fun e w' => e = .returned (GSig.val ⟨d, markOf B ⟨d, strB ys⟩⟩) ∧ BookIs w' g m (signB B ⟨d, strB ys⟩) ∧ Chg (fun k => k = m) w w' := by
  have HH := Lib.hid h
  obtain ⟨hg, hm⟩ := h
  have f0 : w.cell? ⟨g, 0, none⟩ = some (.map (some m)) := cell_zero (GBookBook.at_marks hg)
  have hcv := fun o => str_conv (c := c) (hy.stepB ((Bel.refl w).alloc o))
  obtain ⟨z, hz⟩ : ∃ z, (mget B ⟨d, strB ys⟩).getD 0 = z := ⟨_, rfl⟩
  have HZ := Lib.hid hz
  obtain ⟨s, hs⟩ : ∃ s, strB ys = s := ⟨_, rfl⟩
  rw [hs] at hcv hz HZ ⊢
  clear hy hs
  go_enter Tryz.func12, Tryz.ntmps12
  go_wp2_with fail
  have b6 : get? GSig ((w.alloc (.cells (GSig.enc default).toArray 37)).alloc (.cells (GBookSigned.enc ⟨d, s⟩).toArray 109)) ⟨w.heap.size, 0, none⟩ = some default := get?_alloc _ (get?_new _ _)
  have c6 : blkFree ((w.alloc (.cells (GSig.enc default).toArray 37)).alloc (.cells (GBookSigned.enc ⟨d, s⟩).toArray 109)) w.heap.size = true := by rw [blkFree_past _ _ (by simp)]; exact blkFree_new _ _ rfl
  have b7 : get? GBookSigned ((w.alloc (.cells (GSig.enc default).toArray 37)).alloc (.cells (GBookSigned.enc ⟨d, s⟩).toArray 109)) ⟨w.heap.size + 1, 0, none⟩ = some ⟨d, s⟩ := by
    have := get?_new (w := w.alloc (.cells (GSig.enc default).toArray 37)) 109 (⟨d, s⟩ : GBookSigned)
    rwa [World.size_alloc] at this
  have HB := Lib.hid (((Bel.refl w).alloc (.cells (GSig.enc default).toArray 37)).alloc (.cells (GBookSigned.enc ⟨d, s⟩).toArray 109))
  have hml := HH.out.ltm
  have hgl := HH.out.ltg
  obtain ⟨q, hq⟩ : ∃ q, w.heap.size = q := ⟨_, rfl⟩
  have HQ := Lib.hid hq
  rw [hq] at b6 b7 c6 hml hgl ⊢
  generalize (w.alloc (.cells (GSig.enc default).toArray 37)).alloc (.cells (GBookSigned.enc ⟨d, s⟩).toArray 109) = wx at b6 c6 b7 HB ⊢
  have hX := HH.out.step HB.out
  have fm := hX.2
  have f1 : wx.cell? ⟨g, 0, none⟩ = some (.map (some m)) := cell_zero (GBookBook.at_marks hX.1)
  obtain ⟨nb, hnb⟩ : ∃ nb, B.length = nb := ⟨_, rfl⟩
  have hlen : (Builtin.len_ #[110] 3 #[.map (some m)]).run Tryz.prog wx.drew.drew = .ok (.int .i64 (nb : Int)) wx.drew.drew := by
    rw [Gv.run_len_map kl109 um110 (show mapAt GBookSigned Int wx.drew.drew m = some B from fm) _, hnb]
  have HNB := Lib.hid hnb
  have e1 : IntKind.i64.wrap ((nb : Int) + 1) = (nb : Int) + 1 := IntWalk.i64_in _ (by omega)
  clear hm f0 hcv hg hX hnb hq
  go_region
  have HXB := Lib.hid (HH.out.step HB.out)
  have hqm : q ≠ m := get_not_mapV fm b6
  have hq1 : q + 1 ≠ m := get_not_mapV fm b7
  have hgm : g ≠ m := get_not_mapV fm HXB.out.1
  by_cases h0 : z = 0
  · go_wp2_with fail
    go_region
    have hm2 := mapAt_mput kl109 um110 (show mapAt GBookSigned Int wx.drew.drew m = some B from fm) (⟨d, s⟩ : GBookSigned) ((nb : Int) + 1)
    have hgr : Chg (fun k => k = m) wx (mput Tryz.prog 110 wx.drew.drew m (⟨d, s⟩ : GBookSigned) ((nb : Int) + 1)) :=
      (show Chg (fun k => k = m) wx wx.drew.drew from Chg.of_bel ((Bel.refl wx).drew.drew) _).tr (Chg.of_grown (mput_grown kl109 um110 (show mapAt GBookSigned Int wx.drew.drew m = some B from fm) (⟨d, s⟩ : GBookSigned) ((nb : Int) + 1)) (fun k e => by injection e with e; exact e.symm))
    generalize mput Tryz.prog 110 wx.drew.drew m (⟨d, s⟩ : GBookSigned) ((nb : Int) + 1) = wm at hm2 hgr ⊢
    have k6 := hgr.get b6 hqm
    have k7 := hgr.get b7 hq1
    have kc := hgr.free c6 (get?_lt b6) hqm
    have k1 := hgr.cell f1 hgm
    have hz2 : (mget (mset B (⟨d, s⟩ : GBookSigned) ((nb : Int) + 1)) ⟨d, s⟩).getD 0 = (nb : Int) + 1 := by rw [mget_mset_same]; rfl
    have HM2 := Lib.hid hm2; have HGR := Lib.hid hgr
    clear hgr b6 b7 c6 f1 fm hlen hgm hq1
    go_wp2_with fail
    go_region
    have HG : get? GSig (World.putCells wm ⟨q, 0, none⟩ (GSig.enc ⟨d, (nb : Int) + 1⟩)) ⟨q, 0, none⟩ = some ⟨d, (nb : Int) + 1⟩ := get?_putV _ k6
    have hc2 : Chg (fun k => k = m ∨ k = q) wx (World.putCells wm ⟨q, 0, none⟩ (GSig.enc ⟨d, (nb : Int) + 1⟩)) := (HGR.out.sub fun k e => .inl e).tr (chg_put (.inr rfl) _)
    have hB2 : BookIs (World.putCells wm ⟨q, 0, none⟩ (GSig.enc ⟨d, (nb : Int) + 1⟩)) g m (mset B ⟨d, s⟩ ((nb : Int) + 1)) :=
      ⟨hc2.get HXB.out.1 (fun e => e.elim (fun e => get_not_mapV HXB.out.2 HXB.out.1 e) (fun e => by simp only at e; omega)), (chg_put (S := fun k => k = q) rfl _).map HM2.out (fun e => hqm e.symm)⟩
    go_wp2_with fail
    refine bodyPost_ret (results_cell (x := (⟨d, (nb : Int) + 1⟩ : GSig)) rfl rfl ag37 sz37 (show get? GSig (World.putCells wm ⟨q, 0, none⟩ (GSig.enc ⟨d, (nb : Int) + 1⟩)).drew _ = _ by simp only [get?_drew]; exact HG)) rfl ⟨?_, ?_, ?_⟩
    · rw [show markOf B ⟨d, s⟩ = (nb : Int) + 1 by unfold markOf; rw [HZ.out, if_pos h0, HNB.out], GSig.val_eq]
    · rw [show signB B ⟨d, s⟩ = mset B ⟨d, s⟩ ((nb : Int) + 1) by unfold signB; rw [HZ.out, if_pos h0, HNB.out]]
      exact hB2.step ((Bel.refl _).drew)
    · exact chg_after HB.out (hc2.tr (Chg.of_bel ((Bel.refl _).drew) _)) (by rintro k (e | e); exact .inl e; right; rw [HQ.out]; omega)
  · go_wp2_with fail
    go_region
    have HG : get? GSig (World.putCells wx ⟨q, 0, none⟩ (GSig.enc ⟨d, z⟩)) ⟨q, 0, none⟩ = some ⟨d, z⟩ := get?_putV _ b6
    have hc2 : Chg (fun k => k = q) wx (World.putCells wx ⟨q, 0, none⟩ (GSig.enc ⟨d, z⟩)) := chg_put (S := fun k => k = q) rfl _
    have hB2 : BookIs (World.putCells wx ⟨q, 0, none⟩ (GSig.enc ⟨d, z⟩)) g m B := HXB.out.chg hc2 (by omega) (fun e => hqm e.symm)
    go_wp2_with fail
    refine bodyPost_ret (results_cell (x := (⟨d, z⟩ : GSig)) rfl rfl ag37 sz37 (show get? GSig (World.putCells wx ⟨q, 0, none⟩ (GSig.enc ⟨d, z⟩)).drew.drew _ = _ by simp only [get?_drew]; exact HG)) rfl ⟨?_, ?_, ?_⟩
    · rw [show markOf B ⟨d, s⟩ = z by unfold markOf; rw [HZ.out, if_neg h0], GSig.val_eq]
    · rw [show signB B ⟨d, s⟩ = B by unfold signB; rw [HZ.out, if_neg h0]]
      exact hB2.step ((Bel.refl _).drew.drew)
    · exact chg_after HB.out (hc2.tr (Chg.of_bel ((Bel.refl _).drew.drew) _)) (by rintro k e; right; rw [HQ.out]; omega)
end Go.Proofs.YtfhhcgldikmejaaGreatDoor
/- The writer's methods: what they write. Conditions: those named in each theorem. -/
namespace Go.Proofs.YtfhhcgldikmejaaGreatDoor
open Go Go.RowKit Go.Gv Go.Proofs

section
variable {w0 w w' : World} {p : Nat} {bs ys : List U8}
theorem or_bits : ∀ k < 256, bits .or .u8 ((k : Nat) : Int) 128 = ((k % 128 + 128 : Nat) : Int) := by decide +kernel
/-- What an append to a writer does: its run, and the writer behind the header's store. -/
theorem WrIs.app (h : WrIs w0 w p bs) {A : Option Addr} {m c : Nat} (hy : Sl U8 w w.heap.size A m ys) (hl : bs.length + m ≤ 1000000000) :
    ∃ (A0 : Option Addr) (n0 c0 : Nat) (A1 : Option Addr) (n1 c1 : Nat) (w1 : World), w.cell? ⟨p, 0, none⟩ = some (.slice A0 n0 c0) ∧ (gAppend #[61, 61] 61 #[.slice A0 n0 c0, .slice A m c]).run Tryz.prog w = .ok (.slice A1 n1 c1) w1 ∧
      w1.cell? ⟨p, 0, none⟩ = some (.slice A0 n0 c0) ∧ w1.frozen? ⟨p, 0, none⟩ = false ∧ WrDid w0 w p (bs ++ ys) (w1.setCell ⟨p, 0, none⟩ (.slice A1 n1 c1)) := by
  obtain ⟨⟨A0, n0, c0⟩, hg, ho, hne⟩ := h.own
  obtain ⟨v', w1, hrun, ho', hgr, hob⟩ := gAppend_S (P := Tryz.prog) ei61 (t := 61) ho (c := c) hy (by unfold maxLen; omega) (by omega) h.bel.size 61
  have hpl := get?_lt hg
  have hk : w1.heap[p]? = w.heap[p]? := hgr.block p hpl (fun e => hne e.symm)
  have hg1 : get? GCodeWriter w1 ⟨p, 0, none⟩ = some ⟨⟨A0, n0, c0⟩⟩ := (get?_keep hk).trans hg
  obtain ⟨A1, c1, hv, _⟩ := OwnS.ownA ho'
  have hdid := WrIs.put h.bel hg ho hne h.lt h.free ho' hv hgr hob
  subst hv
  exact ⟨A0, n0, c0, A1, _, c1, w1, cell_zero (GCodeWriter.at_b hg), hrun, cell_zero (GCodeWriter.at_b hg1), frozen_of_free (by rw [show blkFree w1 p = blkFree w p from blkFree_keep hk]; exact h.free), hdid⟩
end
theorem sl_byte (w : World) (m : Nat) (hm : m < 256) : Sl U8 (w.alloc (.cells #[.int .u8 m] 5)) (w.alloc (.cells #[.int .u8 m] 5)).heap.size (some ⟨w.heap.size, 0, none⟩) 1 [⟨UInt8.ofNat m⟩] :=
  Sl.new_ (by
    show [Value.int .u8 (m : Int)] = [encU8 (UInt8.ofNat m)]
    unfold encU8
    rw [UInt8.toNat_ofNat']
    congr 2
    omega) rfl rfl (by simp)
set_option maxRecDepth 100000 in
set_option maxHeartbeats 1000000 in
theorem num_any (w0 : World) (p : Nat) (bs : List U8) (n : Nat) (w : World) (h : WrIs w0 w p bs) (hn : n < 18446744073709551616) (hl : bs.length ≤ 900000000) :
    Calls Tryz.prog 191 #[.pointer (some ⟨p, 0, none⟩), .int .u64 n] w fun e w' => e = .returned (.pointer (some ⟨p, 0, none⟩)) ∧ WrDid w0 w p (bs ++ numL n) w' := by
  have HW := Lib.hid h
  clear h
  go_enter Tryz.func191, Tryz.ntmps191
  go_wp2_with fail
  go_loopw [1] (fun iv wr => ∃ (m : Nat) (cs : List U8), iv = .int .u64 m ∧ Hid (WrDid w0 w p cs wr) ∧ cs ++ numL m = bs ++ numL n ∧ m < 18446744073709551616 ∧ cs.length + (numL m).length ≤ 900000010) (fun iv _ => (intOf iv).toNat)
  case atStart => exact ⟨n, bs, rfl, Lib.hid (WrDid.refl HW.out), rfl, hn, by have := numL_le hn; omega⟩
  case round =>
    obtain ⟨m, cs, rfl, hwr, hEq, hm, hcl⟩ := hrel
    have HEQ := Lib.hid hEq
    clear hEq HW
    by_cases hb : m < 128
    · have hb2 : ¬ (128 : Int) ≤ (m : Int) := by omega
      have hst := hwr.out.is.step ((Bel.refl wr).alloc (.cells #[.int .u8 m] 5))
      have e1 : numL m = [⟨UInt8.ofNat m⟩] := numL_small hb
      rw [e1] at hcl
      simp only [List.length_singleton] at hcl
      obtain ⟨A0, n0, c0, A1, n1, c1, w1, f0, hrun, f1, f2, hW1⟩ := hst.app (c := 1) (sl_byte wr m (by omega)) (by omega)
      have f0' : wr.cell? ⟨p, 0, none⟩ = some (.slice A0 n0 c0) := by
        obtain ⟨⟨A1, n1, c1⟩, hg, ho, hne⟩ := hwr.out.is.own
        have h1 := cell_zero (GCodeWriter.at_b hg)
        have h2 := GB.cell (GB.al wr (.cells #[.int .u8 m] 5)) h1
        rw [f0] at h2
        exact h1.trans h2.symm
      have HW1 := Lib.hid (hwr.out.trans (WrDid.bel hwr.out.is ((Bel.refl wr).alloc _) hW1))
      have HE1 := Lib.hid (show cs ++ [⟨UInt8.ofNat m⟩] = bs ++ numL n by rw [← e1]; exact HEQ.out)
      clear hst hW1 f0 hcl e1
      go_wp2_with fail
      go_ret
      exact ⟨rfl, by have := HW1.out; rw [HE1.out] at this; exact this⟩
    · have hb2 : (128 : Int) ≤ (m : Int) := by omega
      have hor : bits .or .u8 ((m : Int) % 256) 128 = ((m % 128 + 128 : Nat) : Int) := by
        have := or_bits (m % 256) (by omega)
        rw [show m % 256 % 128 = m % 128 by omega] at this
        rwa [show ((m % 256 : Nat) : Int) = (m : Int) % 256 by omega] at this
      have hshr : ∃ q, q = m / 128 := ⟨_, rfl⟩
      have hst := hwr.out.is.step ((Bel.refl wr).alloc (.cells #[.int .u8 ((m % 128 + 128 : Nat) : Int)] 5))
      have e1 : numL m = ⟨UInt8.ofNat (m % 128 + 128)⟩ :: numL (m / 128) := numL_big hb
      rw [e1] at hcl
      simp only [List.length_cons] at hcl
      obtain ⟨A0, n0, c0, A1, n1, c1, w1, f0, hrun, f1, f2, hW1⟩ := hst.app (c := 1) (sl_byte wr (m % 128 + 128) (by omega)) (by omega)
      have f0' : wr.cell? ⟨p, 0, none⟩ = some (.slice A0 n0 c0) := by
        obtain ⟨⟨A1, n1, c1⟩, hg, ho, hne⟩ := hwr.out.is.own
        have h1 := cell_zero (GCodeWriter.at_b hg)
        have h2 := GB.cell (GB.al wr (.cells #[.int .u8 ((m % 128 + 128 : Nat) : Int)] 5)) h1
        rw [f0] at h2
        exact h1.trans h2.symm
      have HW1 := Lib.hid (hwr.out.trans (WrDid.bel hwr.out.is ((Bel.refl wr).alloc _) hW1))
      have HE1 := Lib.hid (show (cs ++ [⟨UInt8.ofNat (m % 128 + 128)⟩]) ++ numL (m / 128) = bs ++ numL n by rw [← HEQ.out, e1]; simp)
      obtain ⟨bt, hbt⟩ : ∃ b : Int, ((m % 128 + 128 : Nat) : Int) = b := ⟨_, rfl⟩
      rw [hbt] at hor hrun
      have HCL := Lib.hid hcl
      clear hst hW1 f0 e1 hshr hbt hcl
      go_wp2_with fail
      exact ⟨⟨m / 128, cs ++ [⟨UInt8.ofNat (m % 128 + 128)⟩], by rw [Int.natCast_ediv]; rfl, Lib.hid HW1.out, HE1.out, by omega, by have := HCL.out; rw [List.length_append, List.length_singleton]; omega⟩, by simp [intOf]; omega⟩
set_option maxRecDepth 100000 in
set_option maxHeartbeats 400000 in
theorem int_any (w0 : World) (p : Nat) (bs : List U8) (n : Int) (w : World) (h : WrIs w0 w p bs) (hn : n ≤ 9223372036854775807) (hl : bs.length ≤ 900000000) :
    Calls Tryz.prog 138 #[.pointer (some ⟨p, 0, none⟩), .int .i64 n] w fun e w' => e = .returned (.pointer (some ⟨p, 0, none⟩)) ∧ WrDid w0 w p (bs ++ intL n) w' := by
  have HW := Lib.hid h
  clear h
  by_cases h0 : 0 < n
  · obtain ⟨k, rfl⟩ := Int.eq_ofNat_of_zero_le (show 0 ≤ n by omega)
    have hk0 : 0 < k := by omega
    have HK := Lib.hid (show intL (k : Int) = numL k by unfold intL; congr 1)
    have hw : IntKind.u64.wrap (k : Int) = (k : Int) := IntWalk.u64_in _ (by omega)
    go_enter Tryz.func138, Tryz.ntmps138
    go_wp2_with fail
    refine (num_any w0 p bs k w HW.out (by omega) hl).mono ?_
    rintro _ w1 ⟨rfl, hw1⟩
    have HW1 := Lib.hid hw1
    clear hw1
    go_wp2_with fail
    go_ret
    exact ⟨rfl, by rw [HK.out]; exact HW1.out⟩
  · have HK := Lib.hid (show intL n = numL 0 by unfold intL; congr 1; omega)
    go_enter Tryz.func138, Tryz.ntmps138
    go_wp2_with fail
    refine (num_any w0 p bs 0 w HW.out (by omega) hl).mono ?_
    rintro _ w1 ⟨rfl, hw1⟩
    have HW1 := Lib.hid hw1
    clear hw1
    go_wp2_with fail
    go_ret
    exact ⟨rfl, by rw [HK.out]; exact HW1.out⟩
/-- A slice that is none of the writer's blocks stands behind what the writer does. -/
theorem WrDid.sl {α : Type} [Enc α] {w0 w w' : World} {p : Nat} {ys : List U8} {A : Option Addr} {n : Nat} {xs : List α} (h : WrDid w0 w p ys w') (hs : Sl α w w.heap.size A n xs) (hA : ∀ ad, A = some ad → ¬ wrFoot w p ad.block) : Sl α w' w'.heap.size A n xs :=
  Sl.chg h.chg hs (fun _ ad e => hA ad e)
set_option maxRecDepth 100000 in
set_option maxHeartbeats 400000 in
theorem row_any (w0 : World) (p : Nat) (bs : List U8) (A : Option Addr) (n c : Nat) (ys : List U8) (w : World) (h : WrIs w0 w p bs) (hy : Sl U8 w w.heap.size A n ys) (hA : ∀ ad, A = some ad → ¬ wrFoot w p ad.block) (hn : n ≤ 1000000) (hl : bs.length ≤ 800000000) :
    Calls Tryz.prog 190 #[.pointer (some ⟨p, 0, none⟩), .slice A n c] w fun e w' => e = .returned (.pointer (some ⟨p, 0, none⟩)) ∧ WrDid w0 w p (bs ++ rowL ys) w' := by
  have HW := Lib.hid h; have HY := Lib.hid hy; have HA := Lib.hid hA
  have hyl := hy.1
  clear h hy hA
  go_enter Tryz.func190, Tryz.ntmps190
  go_wp2_with fail
  refine (int_any w0 p bs n w HW.out (by omega) (by omega)).mono ?_
  rintro _ w1 ⟨rfl, hw1⟩
  have hil : (intL (n : Int)).length ≤ 10 := intL_le (by omega)
  obtain ⟨A0, n0, c0, A1, n1, c1, w2, f0, hrun, f1, f2, hW2⟩ := hw1.is.app (c := c) (hw1.sl HY.out HA.out) (by rw [List.length_append]; omega)
  have HD := Lib.hid (hw1.trans hW2)
  have HR := Lib.hid (show bs ++ intL (n : Int) ++ ys = bs ++ rowL ys by unfold rowL; rw [hyl]; simp)
  clear hw1 hW2 hil hyl
  go_wp2_with fail
  go_ret
  exact ⟨rfl, by rw [← HR.out]; exact HD.out⟩
set_option maxRecDepth 100000 in
set_option maxHeartbeats 400000 in
theorem hash_any (w0 : World) (p : Nat) (bs : List U8) (x : GHash) (w : World) (h : WrIs w0 w p bs) (hl : bs.length ≤ 800000000) :
    Calls Tryz.prog 157 #[.pointer (some ⟨p, 0, none⟩), x.val] w fun e w' => e = .returned (.pointer (some ⟨p, 0, none⟩)) ∧ WrDid w0 w p (bs ++ hashL x) w' := by
  have HW := Lib.hid h
  have hg := get?_new (w := w) 35 x
  have hs : Sl U8 (w.alloc (.cells (GHash.enc x).toArray 35)) (w.alloc (.cells (GHash.enc x).toArray 35)).heap.size (some ⟨w.heap.size, 0, none⟩) 32 (hashL x) :=
    Sl.new_ (by
      show x.l.map encU8 = (hashL x).flatMap Enc.enc
      unfold hashL
      induction x.l with
      | nil => rfl
      | cons a l ih => rw [List.map_cons, List.map_cons, List.flatMap_cons, ih]; rfl) (hashL_len x) rfl (by simp)
  have hst := h.step ((Bel.refl w).alloc (.cells (GHash.enc x).toArray 35)).drew
  obtain ⟨A0, n0, c0, A1, n1, c1, w2, f0, hrun, f1, f2, hW2⟩ := hst.app (c := 32) hs.drew_ (by omega)
  have HD := Lib.hid (WrDid.bel h ((Bel.refl w).alloc _).drew hW2)
  clear hst hW2 hs hg h
  go_enter Tryz.func157, Tryz.ntmps157
  go_wp2_with fail
  go_region
  go_wp2_with fail
  go_ret
  exact ⟨rfl, HD.out⟩
set_option maxRecDepth 100000 in
set_option maxHeartbeats 400000 in
theorem newWriter_any (w0 w : World) (hb : Bel w0 w) : Calls Tryz.prog 158 #[] w fun e w' => ∃ p : Nat, e = .returned (.pointer (some ⟨p, 0, none⟩)) ∧ w.heap.size ≤ p ∧ WrIs w0 w' p [] ∧ Bel w w' ∧ (∀ k, wrFoot w' p k → w.heap.size ≤ k) := by
  have hz := hb.size
  have hg := get?_new (w := w) 350 (default : GCodeWriter)
  go_enter Tryz.func158, Tryz.ntmps158
  go_wp2_with fail
  go_ret
  refine ⟨_, rfl, Nat.le_refl _, ⟨hb.alloc _, ⟨⟨none, 0, 0⟩, hg, OwnS.nil _ _ _, by intro e; cases e⟩, hz, blkFree_new _ _ rfl⟩, (Bel.refl w).alloc _, ?_⟩
  rintro k (rfl | ⟨hd, h1, h2⟩)
  · exact Nat.le_refl _
  · have h1 := Option.some.inj (hg.symm.trans h1)
    rw [show hd = (default : GCodeWriter).b by rw [h1]] at h2
    cases h2
set_option maxRecDepth 100000 in
set_option maxHeartbeats 400000 in
theorem bytes_any (w0 : World) (p : Nat) (bs : List U8) (w : World) (h : WrIs w0 w p bs) (hl : bs.length ≤ 800000000) :
    Calls Tryz.prog 139 #[.pointer (some ⟨p, 0, none⟩)] w fun e w' => ∃ (A : Option Addr) (c : Nat), e = .returned (.slice A bs.length c) ∧ Sl U8 w' w'.heap.size A bs.length bs ∧ Bel w w' ∧ (∀ ad, A = some ad → w.heap.size ≤ ad.block) := by
  obtain ⟨⟨A0, n0, c0⟩, hg, ho, hne⟩ := h.own
  obtain ⟨A1, c1, hv, hA⟩ := OwnS.ownA ho
  have f0 : w.cell? ⟨p, 0, none⟩ = some (.slice A0 n0 c0) := cell_zero (GCodeWriter.at_b hg)
  have hv2 : Value.slice A0 n0 c0 = .slice A1 bs.length c1 := hv
  injection hv2 with e1 e2 e3
  obtain ⟨A2, c2, hs2, hsl, _⟩ := OwnS.shape ho
  have hs2' : Value.slice A0 n0 c0 = .slice A2 bs.length c2 := hs2
  injection hs2' with e4 e5 e6
  rw [← e4, ← e5] at hsl
  obtain ⟨v', w1, hrun, ho', hgr, hob⟩ := gAppend_S (P := Tryz.prog) ei61 (t := 61) (OwnS.nil (α := U8) w w.heap.size 5) (c := c0) hsl (by unfold maxLen; simp; omega) (by simp; omega) (Nat.le_refl _) 61
  obtain ⟨A3, c3, hv3, hsl3, _, _, hbl⟩ := OwnS.shape ho'
  have HS := Lib.hid (show Sl U8 w1 w1.heap.size A3 bs.length bs by simpa using hsl3)
  have HB := Lib.hid (show Bel w w1 from Below.grown (Bel.refl w) hgr (Nat.le_refl _) (fun k hk => by cases hk))
  have HN := Lib.hid (show ∀ ad, A3 = some ad → w.heap.size ≤ ad.block from fun ad e => (hbl ad e).1)
  rw [hv3] at hrun
  simp only [List.nil_append] at hrun
  clear hsl hgr hob ho' hv3 hsl3 hbl hs2 hv hg ho hne e1 e2 e3 e4 e5 e6 hA h
  go_enter Tryz.func139, Tryz.ntmps139
  go_wp2_with fail
  go_ret
  exact ⟨A3, c3, rfl, HS.out, HB.out, HN.out⟩
end Go.Proofs.YtfhhcgldikmejaaGreatDoor
/- Regions that leave their order open, where a call may come ahead of what looks behind it. Conditions: those named in each theorem. -/
namespace Go.Gv
open Go Go.RowKit

/-! G w w': what what looks may do; G2 w w': what any operation of the region may do: what looks sees the same behind it. -/
section
variable {P : Program} {ops : Array Oper} {md : Region.Mode} {Q : Exit → Act → World → Prop} {G G2 : World → World → Prop} {T U : List Nat}
def YieldsH (P : Program) (ops : Array Oper) (G G2 : World → World → Prop) (w : World) (o : Oper) (v : Value) (a : Act) : Prop :=
  (Region.wanted o (yielded ops a.tmps) = true ∧ ∀ w', G2 w w' → lookUponG P G w' v ((execOp a.eval o).run P w')) ∨ (Region.wanted o (yielded ops a.tmps) = false ∧ v = undef)
theorem YieldsH.of_same {w : World} {o : Oper} {v : Value} {a a' : Act} (hy : YieldsH P ops G G2 w o v a) (he : execOp a'.eval o = execOp a.eval o)
    (hw : Region.wanted o (yielded ops a'.tmps) = Region.wanted o (yielded ops a.tmps)) : YieldsH P ops G G2 w o v a' := by
  unfold YieldsH at *
  rw [he, hw]
  exact hy
theorem YieldsH.ext (ht : ∀ a b c, G2 a b → G2 b c → G2 a c) {w w1 : World} {o : Oper} {v : Value} {a : Act} (hy : YieldsH P ops G G2 w o v a) (h : G2 w w1) : YieldsH P ops G G2 w1 o v a := by
  rcases hy with ⟨h1, h2⟩ | h
  · exact .inl ⟨h1, fun w' hw' => h2 w' (ht _ _ _ h hw')⟩
  · exact .inr h
theorem YieldsH.wpOp (hrf : ∀ a, G a a) {i : Nat} {o : Oper} {v : Value} {a : Act} {w w' : World} {K : Act → World → Prop} (hi : ops[i]? = some o) (hy : YieldsH P ops G G2 w o v a) (hw' : G2 w w') (h : ∀ w'', G w' w'' → K (a.put o.dst v) w'') : wpOp P ops Q i K a w' := by
  unfold Go.wpOp
  simp only [hi]
  rcases hy with ⟨hw, hv⟩ | ⟨hw, rfl⟩
  · simp only [hw, if_true]
    refine .inl ?_
    have hz := hv w' hw'
    unfold Oper.wp
    generalize (execOp a.eval o).run P w' = r at hz
    cases r with
    | ok n w1 =>
      cases n <;> simp only [lookUponG] at hz <;> simp only [Oper.upon]
      case value u => obtain ⟨rfl, rfl⟩ := hz; exact h _ (hrf _)
      case skip => obtain ⟨rfl, rfl⟩ := hz; exact h _ (hrf _)
      case enter f args =>
        obtain ⟨rfl, hc⟩ := hz
        refine hc.mono fun e w'' ⟨he, hm⟩ => ?_
        subst he; exact h _ hm
    | halt x w1 => simp only [lookUponG] at hz
  · simp only [hw, Bool.false_eq_true, if_false]; exact h _ (hrf _)
theorem wpOp_putH {j : Nat} {oi oj : Oper} {v : Value} {w w0 : World} (hj : ops[j]? = some oj) (hap : oi.apart ops oj = true)
    (hsi : ∀ cs b, oi.op ≠ .select cs b) (hsj : ∀ cs b, oj.op ≠ .select cs b)
    (hQ : ∀ c a w, Q (.panic c) (a.put oi.dst v) w → Q (.panic c) a w) {K : Act → World → Prop} {a : Act}
    (hy : YieldsH P ops G G2 w0 oi v a) (h : wpOp P ops Q j K (a.put oi.dst v) w) :
    wpOp P ops Q j (fun a' w' => YieldsH P ops G G2 w0 oi v a' ∧ K (a'.put oi.dst v) w') a w := by
  obtain ⟨h1, h2, h3⟩ := Oper.apart_spec hap
  have keep : ∀ (a : Act), YieldsH P ops G G2 w0 oi v a → ∀ u, YieldsH P ops G G2 w0 oi v (a.put oj.dst u) := fun a hy u =>
    hy.of_same (execOp_put oi hsi a oj.dst u h3) (wanted_put oi a oj.dst u h3)
  have keepD : ∀ d, YieldsH P ops G G2 w0 oi v { a with defers := d :: a.defers } := fun d => hy.of_same rfl rfl
  unfold Go.wpOp at *
  simp only [hj] at *
  rw [wanted_put oj a oi.dst v h1] at h
  split
  · rename_i hw
    simp only [hw, if_true] at h
    rcases h with h | ⟨hasks, hlets⟩
    case inr => exact .inr ⟨by unfold Oper.asks at *; rw [execOp_put oj hsj a oi.dst v h1] at hasks; exact hasks, hlets⟩
    refine .inl ?_
    unfold Oper.wp at *
    rw [execOp_put oj hsj a oi.dst v h1] at h
    generalize (execOp a.eval oj).run P w = r at *
    cases r with
    | ok n w' =>
      cases n <;> simp only [Oper.upon] at h ⊢
      case value u => exact ⟨keep a hy u, by rw [← Act.put_comm a v u h2]; exact h⟩
      case skip => exact ⟨keep a hy _, by rw [← Act.put_comm a v undef h2]; exact h⟩
      case defer d =>
        refine ⟨keep _ (keepD d) _, ?_⟩
        rw [← Act.put_comm _ v undef h2, ← Act.put_defers]
        exact h
      case enter f args =>
        refine Calls.mono h fun e w'' he => ?_
        cases e with
        | returned u => exact ⟨keep a hy u, by rw [← Act.put_comm a v u h2]; exact he⟩
        | panicked c => exact hQ _ _ _ he
        | outgrown => exact he
      case row row args => exact Rows.mono h fun u w'' he => ⟨keep a hy u, by rw [← Act.put_comm a v u h2]; exact he⟩
    | halt x w' =>
      cases x <;> simp only [Oper.upon] at h ⊢
      case panic u => exact hQ _ _ _ h
  · rename_i hw
    simp only [hw] at h
    exact ⟨keep a hy _, by rw [← Act.put_comm a v undef h2]; exact h⟩

/-- Whatever order is picked from here on. -/
def wpH (P : Program) (md : Region.Mode) (ops : Array Oper) (Q : Exit → Act → World → Prop) (G G2 : World → World → Prop) (T U : List Nat) : Nat → Array Bool → Act → World → Prop
  | 0, listed, a, w => Region.ready md ops listed = [] ∧ ∀ w', G w w' → Q .normal a w'
  | fuel + 1, listed, a, w =>
    (Region.ready md ops listed = [] → ∀ w', G w w' → Q .normal a w') ∧
    ∀ i ∈ Region.ready md ops listed, ∀ w', G w w' → wpOp P ops Q i (fun a' w'' => (i ∉ T → G w' w'') ∧ (i ∉ U → G2 w' w'') ∧ wpH P md ops Q G G2 T U fuel (listed.setIfInBounds i true) a' w'') a w'
theorem wpH_ext (ht : ∀ a b c, G a b → G b c → G a c) {fuel : Nat} {listed : Array Bool} {a : Act} {w w1 : World} (h : wpH P md ops Q G G2 T U fuel listed a w) (h1 : G w w1) : wpH P md ops Q G G2 T U fuel listed a w1 := by
  cases fuel with
  | zero => exact ⟨h.1, fun w' hw' => h.2 _ (ht _ _ _ h1 hw')⟩
  | succ f => exact ⟨fun h0 w' hw' => h.1 h0 _ (ht _ _ _ h1 hw'), fun i hi w' hw' => h.2 i hi _ (ht _ _ _ h1 hw')⟩
theorem wpAny_of_H (hrf : ∀ a, G a a) : ∀ (fuel : Nat) (listed : Array Bool) (a : Act) (w : World), wpH P md ops Q G G2 T U fuel listed a w → wpAny P md ops Q fuel listed a w
  | 0, _, _, _, h => ⟨h.1, h.2 _ (hrf _)⟩
  | fuel + 1, _, _, _, h => ⟨fun h0 => h.1 h0 _ (hrf _), fun i hi => wpOp_mono (fun a' w' h' => wpAny_of_H hrf fuel _ a' w' h'.2.2) (h.2 i hi _ (hrf _))⟩

theorem wpH_first {i : Nat} {oi : Oper} {v : Value} (hrf : ∀ a, G a a) (ht : ∀ a b c, G a b → G b c → G a c) (ht2 : ∀ a b c, G2 a b → G2 b c → G2 a c) (hsub : ∀ a b, G a b → G2 a b) (hi : ops[i]? = some oi) (hsel : ∀ (j : Nat) (o : Oper) cs b, ops[j]? = some o → o.op ≠ .select cs b)
    (hQ : ∀ c (a a' : Act) w, a.defers = a'.defers → Q (.panic c) a w → Q (.panic c) a' w) (n : Nat) (hU : ∀ t ∈ U, i ∈ waitsFor md ops n t) :
    ∀ (fuel : Nat) (listed : Array Bool) (a : Act) (w : World), downC md ops listed →
      (∀ j oj, ops[j]? = some oj → j ≠ i → listed.getD j true = false → (∀ e ∈ oj.after, Region.binds md e = true → e.on ≠ i) → oi.apart ops oj = true) →
      i ∈ Region.ready md ops listed → YieldsH P ops G G2 w oi v a →
      wpH P md ops Q G G2 T U fuel (listed.setIfInBounds i true) (a.put oi.dst v) w → wpH P md ops Q G G2 T U (fuel + 1) listed a w := by
  intro fuel
  induction fuel with
  | zero =>
    intro listed a w hdc _ hr hy H
    refine ⟨fun h => (by rw [h] at hr; cases hr), fun j hj w' hw' => ?_⟩
    by_cases hji : j = i
    · subst hji
      exact hy.wpOp hrf hi (hsub _ _ hw') fun w'' hw'' => ⟨fun _ => hw'', fun _ => hsub _ _ hw'', wpH_ext ht H (ht _ _ _ hw' hw'')⟩
    · have := ready_mono hj hji
      rw [H.1] at this
      cases this
  | succ fuel ih =>
    intro listed a w hdc hfree hr hy H
    refine ⟨fun h => (by rw [h] at hr; cases hr), fun j hj w' hw' => ?_⟩
    by_cases hji : j = i
    · subst hji
      exact hy.wpOp hrf hi (hsub _ _ hw') fun w'' hw'' => ⟨fun _ => hw'', fun _ => hsub _ _ hw'', wpH_ext ht H (ht _ _ _ hw' hw'')⟩
    · have h1 := H.2 j (ready_mono hj hji) w' hw'
      obtain ⟨hjun, oj, hoj, hall⟩ := mem_ready.1 hj
      have hun : listed.getD i true = false := (mem_ready.1 hr).1
      have hun2 : listed.getD i false = false := by
        rcases Nat.lt_or_ge i listed.size with h' | h'
        · simpa [h'] using hun
        · simp [Array.getElem?_eq_none h'] at hun
      have hnot : ∀ e ∈ oj.after, Region.binds md e = true → e.on ≠ i := fun e he hb heq => by
        have h1 := hall e he hb
        rw [heq, hun2] at h1; cases h1
      have hjU : j ∉ U := fun hjt => by
        have := ready_waits hdc hj (hU j hjt)
        rw [hun2] at this; cases this
      have h2 := wpOp_putH (G := G) (G2 := G2) hoj (hfree j oj hoj hji hjun hnot) (fun cs b => hsel i oi cs b hi) (fun cs b => hsel j oj cs b hoj) (fun c a w h => hQ c _ _ w (by cases oi.dst <;> rfl) h) (hy.ext ht2 (hsub _ _ hw')) h1
      have hfree' : ∀ k ok, ops[k]? = some ok → k ≠ i → (listed.setIfInBounds j true).getD k true = false →
          (∀ e ∈ ok.after, Region.binds md e = true → e.on ≠ i) → oi.apart ops ok = true := fun k ok hk hki hun hno => by
        refine hfree k ok hk hki ?_ hno
        by_cases hjk : j = k
        · subst hjk; exact hjun
        · rw [getD_set_ne true hjk] at hun; exact hun
      refine wpOp_mono (fun a' w'' h3 => ⟨h3.2.1, h3.2.2.1, ?_⟩) h2
      obtain ⟨hy', _, hG2, h4⟩ := h3
      refine ih (listed.setIfInBounds j true) a' w'' (downC_set hdc hj) hfree' (ready_mono hr (Ne.symm hji)) (hy'.ext ht2 (hG2 hjU)) ?_
      rw [Array.setIfInBounds_comm _ _ hji]
      exact h4

def permE (md : Region.Mode) (ops : Array Oper) (U : List Nat) (m : Nat) : List Nat → Array Bool → Bool
  | [], _ => true
  | i :: hd, listed => (Region.ready md ops listed).contains i && Region.free md ops listed i && (U.all fun t => (waitsFor md ops m t).contains i) && permE md ops U m hd (listed.setIfInBounds i true)
theorem wpH_looks_aux {ι : Type} {W : ι → World} (hrf : ∀ a, G a a) (ht : ∀ a b c, G a b → G b c → G a c) (ht2 : ∀ a b c, G2 a b → G2 b c → G2 a c) (hsub : ∀ a b, G a b → G2 a b) (hs : Region.noSelect ops = true) (hQ : ∀ c (a a' : Act) w, a.defers = a'.defers → Q (.panic c) a w → Q (.panic c) a' w) (m fuel : Nat) (w : World) (hW : ∀ w', G2 w w' → ∃ z, w' = W z) :
    ∀ (hd : List Nat) (lh : List Oper) (listed : Array Bool) (a : Act), hd.mapM (fun i => ops[i]?) = some lh → downC md ops listed → permE md ops U m hd listed = true →
    wpLooksG P ops G W (fun a' => wpH P md ops Q G G2 T U fuel (setAll listed hd) a' w) lh a → wpH P md ops Q G G2 T U (hd.length + fuel) listed a w
  | [], lh, listed, a, hl, _, _, h => by
    simp at hl; subst hl
    have e : ([] : List Nat).length + fuel = fuel := by simp
    rw [e]; exact h
  | i :: hd, lh, listed, a, hl, hdc, hB, h => by
    simp only [List.mapM_cons, Option.bind_eq_bind, Option.pure_def] at hl
    cases hi : ops[i]? with
    | none => simp [hi] at hl
    | some o =>
      cases hr : hd.mapM (fun i => ops[i]?) with
      | none => simp [hi, hr] at hl
      | some l' =>
        simp [hi, hr] at hl
        subst hl
        simp only [permE, Bool.and_eq_true, List.all_eq_true, List.contains_iff_mem] at hB
        obtain ⟨⟨⟨hB1, hB2⟩, hB3⟩, hB4⟩ := hB
        rw [show (i :: hd).length + fuel = (hd.length + fuel) + 1 by simp; omega]
        unfold wpLooksG at h
        split at h
        · rename_i hw
          obtain ⟨v, hv, hk⟩ := h
          exact wpH_first hrf ht ht2 hsub hi (Region.noSelect_spec hs) hQ m hB3 _ listed a w hdc (Region.free_spec hi hB2) hB1 (.inl ⟨hw, fun w' hw' => by
            obtain ⟨z, rfl⟩ := hW w' hw'
            exact hv z⟩) (wpH_looks_aux hrf ht ht2 hsub hs hQ m fuel w hW hd l' _ _ hr (downC_set hdc hB1) hB4 hk)
        · rename_i hw
          exact wpH_first hrf ht ht2 hsub hi (Region.noSelect_spec hs) hQ m hB3 _ listed a w hdc (Region.free_spec hi hB2) hB1 (.inr ⟨by simpa using hw, rfl⟩) (wpH_looks_aux hrf ht ht2 hsub hs hQ m fuel w hW hd l' _ _ hr (downC_set hdc hB1) hB4 h)
/-- What looks comes first; W z: the worlds in which it may look. -/
theorem wpH_looks {l : List Oper} {n : Nat} {lh : List Oper} {listed : Array Bool} {a : Act} {w : World} (fuel m : Nat) (hd : List Nat) (hn : n = hd.length + fuel) (hrf : ∀ a, G a a) (ht : ∀ a b c, G a b → G b c → G a c) (hrf2 : ∀ a, G2 a a) (ht2 : ∀ a b c, G2 a b → G2 b c → G2 a c) (hsub : ∀ a b, G a b → G2 a b) (hs : Region.noSelect l.toArray = true) (hQ : ∀ c (a a' : Act) w, a.defers = a'.defers → Q (.panic c) a w → Q (.panic c) a' w)
    (hl : picks l hd = some lh) (hB : (downB md l.toArray listed && permE md l.toArray U m hd listed) = true)
    (h : ∀ (ι : Type) (W : ι → World), Nonempty ι → Hid (∀ z, G2 w (W z)) → wpLooksG P l.toArray G W (fun a' => wpH P md l.toArray Q G G2 T U fuel (setAll listed hd) a' w) lh a) : wpH P md l.toArray Q G G2 T U n listed a w := by
  subst hn
  rw [Bool.and_eq_true] at hB
  obtain ⟨ι, W, hne, hW, hWs⟩ := classFam (G2 w) (hrf2 w)
  exact wpH_looks_aux hrf ht ht2 hsub hs hQ m fuel w hWs hd lh listed a (picks_eq l hd lh hl) (downB_spec hB.1) hB.2 (h ι W hne (Lib.hid hW))
/-- One operation alone is ready. -/
theorem wpH_force {l : List Oper} {fuel : Nat} {listed : Array Bool} {a : Act} {w : World} (t : Nat) (o : Oper) (ho : nthO l t = some o) (hr : (Region.ready md l.toArray listed == [t]) = true) (hg : o.guard = none)
    (h : ∀ w', G w w' → ∀ K : Act → World → Prop, (∀ a' w'', (t ∉ T → G w' w'') → (t ∉ U → G2 w' w'') → wpH P md l.toArray Q G G2 T U fuel (listed.setIfInBounds t true) a' w'' → K a' w'') → o.wp P a w' K Q) : wpH P md l.toArray Q G G2 T U (fuel + 1) listed a w := by
  have ho : l.toArray[t]? = some o := by rw [← ho, nthO_eq]; simp
  have hr' : Region.ready md l.toArray listed = [t] := by simpa using hr
  refine ⟨fun h0 => (by rw [hr'] at h0; cases h0), fun i hi w' hw' => ?_⟩
  rw [hr'] at hi
  obtain rfl : i = t := by simpa using hi
  unfold Go.wpOp
  simp only [ho]
  rw [if_pos (by simp [Region.wanted, hg])]
  exact .inl (h w' hw' _ fun a' w'' h1 h2 h3 => ⟨h1, h2, h3⟩)
theorem wpH_end {listed : Array Bool} {a : Act} {w : World} (hr : (Region.ready md ops listed).isEmpty = true) (h : ∀ w', G w w' → Q .normal a w') : ∀ fuel, wpH P md ops Q G G2 T U fuel listed a w
  | 0 => ⟨by simpa using hr, h⟩
  | _ + 1 => ⟨fun _ => h, fun i hi => by
      have : Region.ready md ops listed = [] := by simpa using hr
      rw [this] at hi; cases hi⟩
/-- Two operations are ready. -/
theorem wpH_two {l : List Oper} {fuel : Nat} {listed : Array Bool} {a : Act} {w : World} (t1 t2 : Nat) (o1 o2 : Oper) (ho1 : nthO l t1 = some o1) (ho2 : nthO l t2 = some o2) (hr : (Region.ready md l.toArray listed == [t1, t2]) = true) (hg1 : o1.guard = none) (hg2 : o2.guard = none)
    (h1 : ∀ w', G w w' → ∀ K : Act → World → Prop, (∀ a' w'', (t1 ∉ T → G w' w'') → (t1 ∉ U → G2 w' w'') → wpH P md l.toArray Q G G2 T U fuel (listed.setIfInBounds t1 true) a' w'' → K a' w'') → o1.wp P a w' K Q)
    (h2 : ∀ w', G w w' → ∀ K : Act → World → Prop, (∀ a' w'', (t2 ∉ T → G w' w'') → (t2 ∉ U → G2 w' w'') → wpH P md l.toArray Q G G2 T U fuel (listed.setIfInBounds t2 true) a' w'' → K a' w'') → o2.wp P a w' K Q) : wpH P md l.toArray Q G G2 T U (fuel + 1) listed a w := by
  have ho1 : l.toArray[t1]? = some o1 := by rw [← ho1, nthO_eq]; simp
  have ho2 : l.toArray[t2]? = some o2 := by rw [← ho2, nthO_eq]; simp
  have hr' : Region.ready md l.toArray listed = [t1, t2] := by simpa using hr
  refine ⟨fun h0 => (by rw [hr'] at h0; cases h0), fun i hi w' hw' => ?_⟩
  rw [hr'] at hi
  simp only [List.mem_cons, List.not_mem_nil, or_false] at hi
  unfold Go.wpOp
  rcases hi with rfl | rfl
  · simp only [ho1]
    rw [if_pos (by simp [Region.wanted, hg1])]
    exact .inl (h1 w' hw' _ fun a' w'' k1 k2 k3 => ⟨k1, k2, k3⟩)
  · simp only [ho2]
    rw [if_pos (by simp [Region.wanted, hg2])]
    exact .inl (h2 w' hw' _ fun a' w'' k1 k2 k3 => ⟨k1, k2, k3⟩)
theorem wp_region_H {id : Nat} {a : Act} {w : World} {l : List Oper} (G G2 : World → World → Prop) (T U : List Nat) (hrf : ∀ a, G a a) (hm : P.follows .mixedOrders = true)
    (h : wpH P .any l.toArray Q G G2 T U l.toArray.size (Array.replicate l.toArray.size false) a w.drew) : (Code.region id l.toArray true).wp P Q a w :=
  wp_region_any hm (wpAny_of_H hrf _ _ _ _ h)
end
/-- What was there below B stands. -/
def GZ (B : Nat) (a b : World) : Prop := B ≤ a.heap.size → Below B a b
end Go.Gv
/- What is signed, as bytes. Conditions: those named in each theorem. -/
namespace Go.Proofs.YtfhhcgldikmejaaGreatDoor
open Go Go.RowKit Go.Gv Go.Proofs

/-- A writer on its way through a region that began at ws; S: what may be changed. -/
structure WrAt (w0 ws : World) (S : Nat → Prop) (w : World) (p : Nat) (acc : List U8) : Prop where
  is : WrIs w0 w p acc
  foot : ∀ k, wrFoot w p k → S k
  new : ∀ k, ws.heap.size ≤ k → S k
  chg : Chg S ws w
section
variable {w0 ws w w' : World} {S : Nat → Prop} {p : Nat} {acc acc' : List U8}
theorem WrAt.step (h : WrAt w0 ws S w p acc) (hb : Bel w w') : WrAt w0 ws S w' p acc :=
  ⟨h.is.step hb, fun _ hk => h.foot _ (wrFoot_bel h.is hb hk), h.new, h.chg.tr (Chg.of_bel hb _)⟩
theorem WrAt.did (h : WrAt w0 ws S w p acc) (hd : WrDid w0 w p acc' w') : WrAt w0 ws S w' p acc' ∧ Chg S w w' :=
  ⟨⟨hd.is, fun k hk => by
    rcases hd.foot k hk with h1 | h1
    · exact h.foot k h1
    · exact h.new k (Nat.le_trans h.chg.size h1), h.new, h.chg.tr (hd.chg.sub h.foot)⟩, hd.chg.sub h.foot⟩
end
theorem bytes_is (n : Nat) (w0 : World) (p : Nat) (bs : List U8) (w : World) (hn : bs.length = n) (h : WrIs w0 w p bs) (hl : bs.length ≤ 800000000) :
    Calls Tryz.prog 139 #[.pointer (some ⟨p, 0, none⟩)] w fun e w' => ∃ (A : Option Addr) (c : Nat), e = .returned (.slice A n c) ∧ Sl U8 w' w'.heap.size A n bs ∧ Bel w w' ∧ (∀ ad, A = some ad → w.heap.size ≤ ad.block) := by subst hn; exact bytes_any w0 p bs w h hl
theorem flat_bytes : ∀ l : List UInt8, (l.map U8.mk).flatMap Enc.enc = l.map fun b => Value.int .u8 b.toNat
  | [] => rfl
  | b :: l => by rw [List.map_cons, List.flatMap_cons, flat_bytes l]; rfl
theorem rowL_le {l : List U8} (h : l.length ≤ 1000) : (rowL l).length ≤ 1010 := by
  unfold rowL
  rw [List.length_append]
  have := intL_le (n := (l.length : Int)) (by omega)
  omega
theorem bytesL_len (s : ByteArray) : (bytesL s).length = s.size := by unfold bytesL; simp
theorem conv_str (w : World) (s : ByteArray) :
    ∃ (c : Nat) (w' : World), (convert 9 61 (.string s)).run Tryz.prog w = .ok (.slice (some ⟨w.heap.size, 0, none⟩) s.size c) w' ∧ Sl U8 w' w'.heap.size (some ⟨w.heap.size, 0, none⟩) s.size (bytesL s) ∧ Bel w w' := by
  refine ⟨_, _, run_bytes_of_string (P := Tryz.prog) w 9 61 5 s (by kernel_rfl) (by kernel_rfl) (by kernel_rfl), Sl.of_row (heap_alloc_new w.drew _) ?_ (bytesL_len s) (by simp), (Bel.refl w).drew.alloc _⟩
  unfold bytesRow bytesL
  rw [flat_bytes, Array.toList_append, Array.toList_map]
  rw [show s.size * Enc.n U8 = (s.data.toList.map fun b => Value.int .u8 b.toNat).length by simp [show Enc.n U8 = 1 from rfl]]
  rw [List.take_left']
  rfl
set_option maxRecDepth 100000 in
set_option maxHeartbeats 400000 in
theorem text_any (w0 w : World) (hb : Bel w0 w) (s : ByteArray) (hs : s.size ≤ 1000) :
    Calls Tryz.prog 137 #[.string s] w fun e w' => ∃ p : Nat, e = .returned (.pointer (some ⟨p, 0, none⟩)) ∧ WrIs w0 w' p (rowL (bytesL s)) ∧ Bel w w' ∧ (∀ k, wrFoot w' p k → w.heap.size ≤ k) := by
  go_enter Tryz.func137, Tryz.ntmps137
  go_wp2_with fail
  refine (newWriter_any w0 w hb).mono ?_
  rintro _ w1 ⟨p, rfl, hp, hW, hb1, hF⟩
  obtain ⟨c, w2, hcv, hs2, hb2⟩ := conv_str w1 s
  have HW := Lib.hid (hW.step hb2)
  have HNF := Lib.hid (show ∀ ad : Addr, some (⟨w1.heap.size, 0, none⟩ : Addr) = some ad → ¬ wrFoot w2 p ad.block from fun ad e hk => by
    injection e with e; subst e
    rcases wrFoot_bel hW hb2 hk with h | ⟨hd, h1, h2⟩
    · have := get?_lt (hW.own.choose_spec.1); simp only at h this; omega
    · obtain ⟨hd', g1, g2, _⟩ := hW.own
      have e1 := Option.some.inj (h1.symm.trans g1)
      have := (g2.lt _ (by rw [show hd' = hd by injection e1 with e1; exact e1.symm]; exact h2)).2
      simp only at this; omega)
  have HF := Lib.hid (show ∀ k, wrFoot w2 p k → w.heap.size ≤ k from fun k hk => hF k (wrFoot_bel hW hb2 hk))
  have HB := Lib.hid (hb1.trans hb2)
  have HS := Lib.hid hs2
  clear hW hb1 hb2 hF hs2 hp
  go_wp2_with fail
  refine (row_any w0 p [] _ s.size c (bytesL s) w2 HW.out HS.out HNF.out (by omega) (by simp)).mono ?_
  rintro _ w3 ⟨rfl, hd⟩
  have HD := Lib.hid hd
  clear hd
  go_wp2_with fail
  go_ret
  refine ⟨p, rfl, HD.out.is, Chg.bel2 HB.out HD.out.chg (fun k hk => HF.out k hk), fun k hk => ?_⟩
  rcases HD.out.foot k hk with h | h
  · exact HF.out k h
  · exact Nat.le_trans HB.out.size h
def voteText (x : GVote) : List U8 := rowL (bytesL ⟨#[118, 111, 116, 101]⟩) ++ intL x.kind ++ intL x.epoch ++ intL x.round ++ intL x.replica ++ hashL x.hash
def stampText (tm : Nat) (x : GStamp) : List U8 := rowL (bytesL ⟨#[115, 116, 97, 109, 112]⟩) ++ intL x.replica ++ intL x.name.client ++ intL x.name.seq ++ hashL x.hash ++ numL tm
def promiseText0 (tm : Nat) (x : GPromise) : List U8 := rowL (bytesL ⟨#[112, 114, 111, 109, 105, 115, 101]⟩) ++ intL x.replica ++ intL x.epoch ++ numL tm ++ intL 0
set_option maxRecDepth 100000 in
set_option maxHeartbeats 2000000 in
theorem voteText_any (x : GVote) (w : World) (h1 : x.kind ≤ 9223372036854775807) (h2 : x.epoch ≤ 9223372036854775807) (h3 : x.round ≤ 9223372036854775807) (h4 : x.replica ≤ 9223372036854775807) :
    Calls Tryz.prog 109 #[x.val] w fun e w' => ∃ (A : Option Addr) (c : Nat), e = .returned (.slice A (voteText x).length c) ∧ Sl U8 w' w'.heap.size A (voteText x).length (voteText x) ∧ Bel w w' := by
  have HG := Lib.hid (get?_new (w := w) 58 x)
  have HB := Lib.hid ((Bel.refl w).alloc (.cells (GVote.enc x).toArray 58))
  have HN := Lib.hid (show ¬ (w.alloc (.cells (GVote.enc x).toArray 58)).heap.size ≤ w.heap.size by simp)
  have l1 := intL_le h1
  have l2 := intL_le h2
  have l3 := intL_le h3
  have l4 := intL_le h4
  have l5 := hashL_len x.hash
  obtain ⟨n, hn⟩ : ∃ n, (voteText x).length = n := ⟨_, rfl⟩
  have HL := Lib.hid hn
  clear hn
  have l0 := rowL_le (l := bytesL ⟨#[118, 111, 116, 101]⟩) (by rw [bytesL_len]; decide)
  go_enter Tryz.func109, Tryz.ntmps109
  go_wp2_with fail
  change Hid (get? GVote (w.alloc (.cells (GVote.enc x).toArray 58)) ⟨w.heap.size, 0, none⟩ = some x) at HG
  generalize w.alloc (.cells (GVote.enc x).toArray 58) = ws at HG HB HN ⊢
  obtain ⟨g, hg⟩ : ∃ g, w.heap.size = g := ⟨_, rfl⟩
  rw [hg] at HG HN ⊢
  have HBS := HB
  refine wp_region_H GB (Chg (fun k => ws.heap.size ≤ k)) [0, 3, 6, 9, 12, 15, 16, 17] [] GB.rf (by kernel_rfl) ?_
  refine wpH_looks 8 18 [1, 2, 4, 5, 7, 8, 10, 11, 13, 14] rfl GB.rf GB.tr (Chg.refl _) (fun _ _ _ h k => h.tr k) (fun _ _ h => Chg.of_bel h _) (by kernel_rfl) (fun _ _ _ _ hd h => And.intro (hd ▸ And.left h) (And.right h)) rfl (by kernel_rfl) ?_
  intro ι W hne CW
  have k0 := GVote.at_kind HG.out
  simp only [Addr.add_lit, Nat.zero_add] at k0
  have j0 := fun z => (CW.out z).cell k0 (HN.out)
  have k1 := GVote.at_epoch HG.out
  simp only [Addr.add_lit, Nat.zero_add] at k1
  have j1 := fun z => (CW.out z).cell k1 (HN.out)
  have k2 := GVote.at_round HG.out
  simp only [Addr.add_lit, Nat.zero_add] at k2
  have j2 := fun z => (CW.out z).cell k2 (HN.out)
  have k3 := GVote.at_replica HG.out
  simp only [Addr.add_lit, Nat.zero_add] at k3
  have j3 := fun z => (CW.out z).cell k3 (HN.out)
  have k4 := GVote.at_hash HG.out
  simp only [Addr.add_lit, Nat.zero_add] at k4
  have j4 := fun z => (CW.out z).get k4 (HN.out)
  clear k0 k1 k2 k3 k4
  repeat (refine wpLooksG_step (fun K hK => ?_); go_simp; refine hK _ ?_; clear hK K)
  refine wpLooksG_nil ?_
  clear j0 j1 j2 j3 j4 CW hne W ι
  refine wpH_force 0 _ rfl (by kernel_rfl) rfl fun wa hwa K hK => ?_
  go_simp
  refine (text_any ws wa (GB.undrew hwa) ⟨#[118, 111, 116, 101]⟩ (by decide)).mono ?_
  rintro _ wb ⟨p, rfl, hW, hb, hF⟩
  refine hK _ _ (fun h => absurd (by simp) h) (fun _ => Chg.of_bel hb _) ?_
  have HA := Lib.hid (show WrAt ws ws (fun k => ws.heap.size ≤ k) wb p (rowL (bytesL (⟨#[118, 111, 116, 101]⟩ : ByteArray))) from ⟨hW, fun k hk => Nat.le_trans (GB.undrew hwa).size (hF k hk), fun _ h => h, Chg.of_bel ((GB.undrew hwa).trans hb) _⟩)
  clear hK K hW hb hF hwa wa
  refine wpH_force 3 _ rfl (by kernel_rfl) rfl fun wa hwa K hK => ?_
  go_simp
  have ha := HA.out.step (hwa)
  refine (int_any ws p (rowL (bytesL (⟨#[118, 111, 116, 101]⟩ : ByteArray))) x.kind wa ha.is h1 (by first | omega | (simp only [List.length_append]; omega))).mono ?_
  rintro _ wb ⟨rfl, hd⟩
  obtain ⟨hA2, hc⟩ := ha.did hd
  refine hK _ _ (fun h => absurd (by simp) h) (fun _ => hc) ?_
  clear HA
  have HA := Lib.hid hA2
  clear hK K hd hA2 hc hwa ha wa
  refine wpH_force 6 _ rfl (by kernel_rfl) rfl fun wa hwa K hK => ?_
  go_simp
  have ha := HA.out.step (hwa)
  refine (int_any ws p (rowL (bytesL (⟨#[118, 111, 116, 101]⟩ : ByteArray)) ++ intL x.kind) x.epoch wa ha.is h2 (by first | omega | (simp only [List.length_append]; omega))).mono ?_
  rintro _ wb ⟨rfl, hd⟩
  obtain ⟨hA2, hc⟩ := ha.did hd
  refine hK _ _ (fun h => absurd (by simp) h) (fun _ => hc) ?_
  clear HA
  have HA := Lib.hid hA2
  clear hK K hd hA2 hc hwa ha wa
  refine wpH_force 9 _ rfl (by kernel_rfl) rfl fun wa hwa K hK => ?_
  go_simp
  have ha := HA.out.step (hwa)
  refine (int_any ws p (rowL (bytesL (⟨#[118, 111, 116, 101]⟩ : ByteArray)) ++ intL x.kind ++ intL x.epoch) x.round wa ha.is h3 (by first | omega | (simp only [List.length_append]; omega))).mono ?_
  rintro _ wb ⟨rfl, hd⟩
  obtain ⟨hA2, hc⟩ := ha.did hd
  refine hK _ _ (fun h => absurd (by simp) h) (fun _ => hc) ?_
  clear HA
  have HA := Lib.hid hA2
  clear hK K hd hA2 hc hwa ha wa
  refine wpH_force 12 _ rfl (by kernel_rfl) rfl fun wa hwa K hK => ?_
  go_simp
  have ha := HA.out.step (hwa)
  refine (int_any ws p (rowL (bytesL (⟨#[118, 111, 116, 101]⟩ : ByteArray)) ++ intL x.kind ++ intL x.epoch ++ intL x.round) x.replica wa ha.is h4 (by first | omega | (simp only [List.length_append]; omega))).mono ?_
  rintro _ wb ⟨rfl, hd⟩
  obtain ⟨hA2, hc⟩ := ha.did hd
  refine hK _ _ (fun h => absurd (by simp) h) (fun _ => hc) ?_
  clear HA
  have HA := Lib.hid hA2
  clear hK K hd hA2 hc hwa ha wa
  refine wpH_force 15 _ rfl (by kernel_rfl) rfl fun wa hwa K hK => ?_
  go_simp
  have ha := HA.out.step (hwa)
  refine (hash_any ws p (rowL (bytesL (⟨#[118, 111, 116, 101]⟩ : ByteArray)) ++ intL x.kind ++ intL x.epoch ++ intL x.round ++ intL x.replica) x.hash wa ha.is (by first | omega | (simp only [List.length_append]; omega))).mono ?_
  rintro _ wb ⟨rfl, hd⟩
  obtain ⟨hA2, hc⟩ := ha.did hd
  refine hK _ _ (fun h => absurd (by simp) h) (fun _ => hc) ?_
  clear HA
  have HA := Lib.hid hA2
  clear hK K hd hA2 hc hwa ha wa
  refine wpH_force 16 _ rfl (by kernel_rfl) rfl fun wa hwa K hK => ?_
  go_simp
  have ha := HA.out.step (hwa)
  refine (bytes_is n ws p (rowL (bytesL (⟨#[118, 111, 116, 101]⟩ : ByteArray)) ++ intL x.kind ++ intL x.epoch ++ intL x.round ++ intL x.replica ++ hashL x.hash) wa HL.out ha.is (by first | omega | (simp only [List.length_append]; omega))).mono ?_
  rintro _ wb ⟨A, c, rfl, hs, hb, -⟩
  refine hK _ _ (fun h => absurd (by simp) h) (fun _ => Chg.of_bel hb _) ?_
  have HS := Lib.hid hs; have HBW := Lib.hid (ha.is.bel.trans hb)
  clear hK K hs hb ha HA hwa
  refine wpH_force 17 _ rfl (by kernel_rfl) rfl fun wa hwa K hK => ?_
  go_simp
  refine hK _ _ (fun h => absurd (by simp) h) (fun _ => Chg.refl _ _) ?_
  clear hK K
  refine wpH_end (by kernel_rfl) (fun wn hwn => ?_) _
  have HSN := Lib.hid (HS.out.stepB (GB.tr _ _ _ hwa hwn)); have HBN := Lib.hid ((HB.out.trans HBW.out).trans (GB.tr _ _ _ hwa hwn))
  clear hwn hwa HS HBW
  go_wp2_with fail
  go_ret
  have hn := HL.out
  subst hn
  exact ⟨A, c, rfl, HSN.out, HBN.out⟩
set_option maxRecDepth 100000 in
set_option maxHeartbeats 1000000 in
theorem putList0_any (w0 : World) (p : Nat) (bs : List U8) (f : Value) (w : World) (h : WrIs w0 w p bs) (hl : bs.length ≤ 700000000) :
    Calls Tryz.prog 203 #[.pointer (some ⟨p, 0, none⟩), .slice none 0 0, f] w fun e w' => e = .returned (.tuple #[]) ∧ WrDid w0 w p (bs ++ intL 0) w' := by
  have HW := Lib.hid h
  clear h
  go_enter Tryz.func203, Tryz.ntmps203
  go_wp2_with fail
  refine (int_any w0 p bs 0 w HW.out (by omega) (by omega)).mono ?_
  rintro _ w1 ⟨rfl, hd⟩
  have HD := Lib.hid hd
  clear hd
  go_wp2_with fail
  go_loopw [14] (fun iv wr => iv = .int .i64 0 ∧ wr = w1) (fun _ _ => 0)
  case atStart => exact ⟨rfl, rfl⟩
  case round =>
    obtain ⟨rfl, rfl⟩ := hrel
    go_wp2_with fail
    refine bodyPost_end (results_none rfl _ _ _) rfl ?_
    exact ⟨rfl, HD.out⟩
set_option maxRecDepth 100000 in
set_option maxHeartbeats 2000000 in
theorem promiseText_any (x : GPromise) (w : World) (h1 : x.replica ≤ 9223372036854775807) (h2 : x.epoch ≤ 9223372036854775807) (tm : Nat) (htm : x.floor = (tm : Int)) (ht1 : tm < 18446744073709551616) (hc : x.certs = ⟨none, 0, 0⟩) :
    Calls Tryz.prog 151 #[x.val] w fun e w' => ∃ (A : Option Addr) (c : Nat), e = .returned (.slice A (promiseText0 tm x).length c) ∧ Sl U8 w' w'.heap.size A (promiseText0 tm x).length (promiseText0 tm x) ∧ Bel w w' := by
  have HG := Lib.hid (get?_new (w := w) 49 x)
  have HB := Lib.hid ((Bel.refl w).alloc (.cells (GPromise.enc x).toArray 49))
  have HN := Lib.hid (show ¬ (w.alloc (.cells (GPromise.enc x).toArray 49)).heap.size ≤ w.heap.size by simp)
  have l1 := intL_le h1
  have l2 := intL_le h2
  have l3 := numL_le ht1
  have l4 := intL_le (n := 0) (by omega)
  have HTM := Lib.hid htm
  have HC := Lib.hid hc
  obtain ⟨n, hn⟩ : ∃ n, (promiseText0 tm x).length = n := ⟨_, rfl⟩
  have HL := Lib.hid hn
  clear hn
  have l0 := rowL_le (l := bytesL ⟨#[112, 114, 111, 109, 105, 115, 101]⟩) (by rw [bytesL_len]; decide)
  go_enter Tryz.func151, Tryz.ntmps151
  go_wp2_with fail
  change Hid (get? GPromise (w.alloc (.cells (GPromise.enc x).toArray 49)) ⟨w.heap.size, 0, none⟩ = some x) at HG
  generalize w.alloc (.cells (GPromise.enc x).toArray 49) = ws at HG HB HN ⊢
  obtain ⟨g, hg⟩ : ∃ g, w.heap.size = g := ⟨_, rfl⟩
  rw [hg] at HG HN ⊢
  have HBS := HB
  clear hc
  refine wp_region_H GB (Chg (fun k => ws.heap.size ≤ k)) [0, 3, 6, 9, 10] [] GB.rf (by kernel_rfl) ?_
  refine wpH_looks 5 11 [1, 2, 4, 5, 7, 8] rfl GB.rf GB.tr (Chg.refl _) (fun _ _ _ h k => h.tr k) (fun _ _ h => Chg.of_bel h _) (by kernel_rfl) (fun _ _ _ _ hd h => And.intro (hd ▸ And.left h) (And.right h)) rfl (by kernel_rfl) ?_
  intro ι W hne CW
  clear htm
  have k0 := GPromise.at_replica HG.out
  simp only [Addr.add_lit, Nat.zero_add] at k0
  have j0 := fun z => (CW.out z).cell k0 (HN.out)
  have k1 := GPromise.at_epoch HG.out
  simp only [Addr.add_lit, Nat.zero_add] at k1
  have j1 := fun z => (CW.out z).cell k1 (HN.out)
  have k2 := GPromise.at_floor HG.out
  simp only [Addr.add_lit, Nat.zero_add] at k2
  rw [HTM.out] at k2
  have j2 := fun z => (CW.out z).cell k2 (HN.out)
  clear k0 k1 k2
  repeat (refine wpLooksG_step (fun K hK => ?_); go_simp; refine hK _ ?_; clear hK K)
  refine wpLooksG_nil ?_
  clear j0 j1 j2 CW hne W ι
  refine wpH_force 0 _ rfl (by kernel_rfl) rfl fun wa hwa K hK => ?_
  go_simp
  refine (text_any ws wa (GB.undrew hwa) ⟨#[112, 114, 111, 109, 105, 115, 101]⟩ (by decide)).mono ?_
  rintro _ wb ⟨p, rfl, hW, hb, hF⟩
  refine hK _ _ (fun h => absurd (by simp) h) (fun _ => Chg.of_bel hb _) ?_
  have HA := Lib.hid (show WrAt ws ws (fun k => ws.heap.size ≤ k) wb p (rowL (bytesL (⟨#[112, 114, 111, 109, 105, 115, 101]⟩ : ByteArray))) from ⟨hW, fun k hk => Nat.le_trans (GB.undrew hwa).size (hF k hk), fun _ h => h, Chg.of_bel ((GB.undrew hwa).trans hb) _⟩)
  clear hK K hW hb hF hwa wa
  refine wpH_force 3 _ rfl (by kernel_rfl) rfl fun wa hwa K hK => ?_
  go_simp
  have ha := HA.out.step (hwa)
  refine (int_any ws p (rowL (bytesL (⟨#[112, 114, 111, 109, 105, 115, 101]⟩ : ByteArray))) x.replica wa ha.is h1 (by first | omega | (simp only [List.length_append]; omega))).mono ?_
  rintro _ wb ⟨rfl, hd⟩
  obtain ⟨hA2, hc⟩ := ha.did hd
  refine hK _ _ (fun h => absurd (by simp) h) (fun _ => hc) ?_
  clear HA
  have HA := Lib.hid hA2
  clear hK K hd hA2 hc hwa ha wa
  refine wpH_force 6 _ rfl (by kernel_rfl) rfl fun wa hwa K hK => ?_
  go_simp
  have ha := HA.out.step (hwa)
  refine (int_any ws p (rowL (bytesL (⟨#[112, 114, 111, 109, 105, 115, 101]⟩ : ByteArray)) ++ intL x.replica) x.epoch wa ha.is h2 (by first | omega | (simp only [List.length_append]; omega))).mono ?_
  rintro _ wb ⟨rfl, hd⟩
  obtain ⟨hA2, hc⟩ := ha.did hd
  refine hK _ _ (fun h => absurd (by simp) h) (fun _ => hc) ?_
  clear HA
  have HA := Lib.hid hA2
  clear hK K hd hA2 hc hwa ha wa
  refine wpH_force 9 _ rfl (by kernel_rfl) rfl fun wa hwa K hK => ?_
  go_simp
  have ha := HA.out.step (hwa)
  refine (num_any ws p (rowL (bytesL (⟨#[112, 114, 111, 109, 105, 115, 101]⟩ : ByteArray)) ++ intL x.replica ++ intL x.epoch) tm wa ha.is ht1 (by first | omega | (simp only [List.length_append]; omega))).mono ?_
  rintro _ wb ⟨rfl, hd⟩
  obtain ⟨hA2, hc⟩ := ha.did hd
  refine hK _ _ (fun h => absurd (by simp) h) (fun _ => hc) ?_
  clear HA
  have HA := Lib.hid hA2
  clear hK K hd hA2 hc hwa ha wa
  refine wpH_force 10 _ rfl (by kernel_rfl) rfl fun wa hwa K hK => ?_
  go_simp
  refine hK _ _ (fun h => absurd (by simp) h) (fun _ => Chg.refl _ _) ?_
  clear hK K
  refine wpH_end (by kernel_rfl) (fun wn hwn => ?_) _
  have HA2 := Lib.hid ((HA.out.step hwa).step hwn)
  have HBN := Lib.hid (HA.out.is.bel.trans (GB.tr _ _ _ hwa hwn))
  clear hwn hwa HA
  have n1 := GPromise.at_certs HG.out
  simp only [Addr.add_lit, Nat.zero_add] at n1
  rw [HC.out] at n1
  have n2 := GB.cell HBN.out n1
  go_wp2_with fail
  refine (putList0_any ws p (rowL (bytesL (⟨#[112, 114, 111, 109, 105, 115, 101]⟩ : ByteArray)) ++ intL x.replica ++ intL x.epoch ++ numL tm) _ wn HA2.out.is (by first | omega | (simp only [List.length_append]; omega))).mono ?_
  rintro _ wp2 ⟨rfl, hd⟩
  have HI := Lib.hid hd.is
  clear hd n1 n2 HA2
  go_wp2_with fail
  refine (bytes_is n ws p (rowL (bytesL (⟨#[112, 114, 111, 109, 105, 115, 101]⟩ : ByteArray)) ++ intL x.replica ++ intL x.epoch ++ numL tm ++ intL 0) wp2 HL.out HI.out (by first | omega | (simp only [List.length_append]; omega))).mono ?_
  rintro _ wb ⟨A, c, rfl, hs, hb, -⟩
  have HS := Lib.hid hs; have HBW := Lib.hid ((HB.out.trans HI.out.bel).trans hb)
  clear hs hb
  go_wp2_with fail
  go_ret
  have hn := HL.out
  subst hn
  exact ⟨A, c, rfl, HS.out, HBW.out⟩
end Go.Proofs.YtfhhcgldikmejaaGreatDoor
/- The keys of an empty map, collected and sorted: none. Conditions: those named in each theorem. -/
namespace Go.Proofs.YtfhhcgldikmejaaGreatDoor
open Go Go.Proofs Go.RowKit Go.Shelf Go.Gv

attribute [local go_sem] Oper.semAt_some

set_option maxRecDepth 100000 in
set_option maxHeartbeats 2000000 in
theorem keys0N_in (F : Fence) (n : Nat) (h7 : F.fn 266) (hro : F.round = none) (_hn : 1 ≤ n) (l Bs r : Nat) (J : List Empty → World → Prop)
    (W : World) (hJ : AbidesFrom W.heap.size J) (hBs : W.cell? ⟨Bs, 0, none⟩ = some (.map (some r))) (hm : mapAt GName GCert W r = some []) (h0 : J [] W) :
    CallsIn F n Tryz.prog 266 #[.func (.yield l) #[] #[], .pointer (some ⟨Bs, 0, none⟩)] W fun e W' => (∃ v, e = .returned v) ∧ J [] W' := by
  obtain ⟨o, hrg, hR⟩ := ranges_start (P := Tryz.prog) um173 hm
  have hJ2 := hJ [] W (W.alloc o) none h0 ⟨rfl, rfl, rfl, by simp, fun k hk _ => Below.heap_alloc _ _ _ hk⟩ (fun _ e => by cases e)
  have hnx : ∀ ty : TypeId, (Instr.next (.pointer (some ⟨W.heap.size, 0, none⟩)) false ty).run Tryz.prog (W.alloc o) = .ok (.tuple #[.bool false]) (W.alloc o) := by
    rcases hR.next Tryz.prog with ⟨_, h⟩ | ⟨l1, p, l2, w', h, _⟩
    · exact h
    · cases l1 <;> cases h
  clear hR hm
  refine callsIn_of_wp Tryz.func266 rfl h7 ?_ hro
  simp only [Tryz.ntmps266, List.size_toArray, List.length_cons, List.length_nil, Nat.reduceAdd, Nat.reduceSub, Array.replicate_succ, Array.replicate_zero, List.push_toArray, List.append_toArray, List.nil_append, List.cons_append]
  gi_wp2
  gi_loopw [] (fun wr => wr = W.alloc o) (fun _ => 0)
  case atStart => exact rfl
  case round =>
    obtain rfl := hrel
    gi_wp2
    go_end0
    exact ⟨⟨_, rfl⟩, hJ2⟩
def EmpN (n₀ : Nat) (W : World) (Bs r : Nat) : Prop := W.cell? ⟨Bs, 0, none⟩ = some (.map (some r)) ∧ mapAt GName GCert W r = some [] ∧ Bs < n₀ ∧ r < n₀
theorem EmpN.below {n₀ : Nat} {A B : World} {Bs r : Nat} (h : Below n₀ A B) (hE : EmpN n₀ A Bs r) : EmpN n₀ B Bs r :=
  ⟨(h.cell (p := ⟨Bs, 0, none⟩) hE.2.2.1).trans hE.1, (mapAt_below h hE.2.2.2).trans hE.2.1, hE.2.2⟩
theorem keys0N_stops (F : Fence) (n : Nat) (h7 : F.fn 266) (hro : F.round = none) (hn : 1 ≤ n) (Bs r n₀ : Nat) (w : World) (hE : EmpN n₀ w Bs r) (hn₀ : n₀ ≤ w.heap.size) :
    SeqStopsK F n Tryz.prog 266 #[.pointer (some ⟨Bs, 0, none⟩)] (fun x : Empty => (x.elim : Array Value)) (Below n₀) (fun ys => ys = []) (fun pre => pre = []) 0 w := fun l J Jx W hW hJ _ hY h0 => by
  have hE2 := hE.below (hW.mono hn₀)
  refine (keys0N_in F n h7 hro hn l Bs r J W hJ hE2.1 hE2.2.1 h0).mono ?_
  rintro e W' ⟨he, hj⟩
  exact ⟨he, .inl ⟨[], rfl, hj⟩⟩
set_option maxRecDepth 100000 in
set_option maxHeartbeats 4000000 in
theorem appendSeq0N_in (F : Fence) (n : Nat) (h3 : F.fn 298) (h5 : F.fn 266) (hro : F.round = none) (hn : 3 ≤ n) (Bs r : Nat) (w : World) (hE : EmpN w.heap.size w Bs r) :
    CallsIn F n Tryz.prog 298 #[.slice none 0 0, .func (.func 266) #[] #[.pointer (some ⟨Bs, 0, none⟩)]] w fun e W' => e = .returned (.slice none 0 0) ∧ Below w.heap.size w W' := by
  have h1 : 1 ≤ n := by omega
  refine callsIn_of_wp_marks Tryz.func298 rfl h3 ?_ hro
  simp only [Tryz.ntmps298, List.size_toArray, List.length_cons, List.length_nil, Nat.reduceAdd, Nat.reduceSub, Array.replicate_succ, Array.replicate_zero, List.push_toArray, List.append_toArray, List.nil_append, List.cons_append]
  gi_wp2
  have bO := Boxed.new w 385 (.slice none 0 0)
  have hB0 : Below w.heap.size w (w.alloc (.cells #[.slice none 0 0] 385)) := (Below.refl _ w).alloc (Nat.le_refl _) _
  refine wpIn_rangeFunc_ownG hro h1 (gf := 266) (lb := #[.pointer (some ⟨Bs, 0, none⟩)]) rfl h5 (enters_of Tryz.func266 (by kernel_rfl) rfl)
    (keys0N_stops F (n - 1) h5 hro (by omega) Bs r w.heap.size w hE (Nat.le_refl _)) belowK_t (belowK_b (by simp)) hB0 (fun x => x.elim)
    (fun pre W => (∃ v, Boxed W w.heap.size 385 v ∧ W.ownsRow w.heap.size 33 2 v 0 [] ∧ v = .slice none 0 0) ∧ Below w.heap.size w W)
    (fun _ _ _ => False)
    (OwnFrom.and (Own.from (holdsRow_own w.heap.size w.heap.size 385 33 2 (fun pre => 0) (fun pre => []) (fun pre v => v = .slice none 0 0)) _) (ownFrom_below (Nat.le_refl _) (by simp)))
    (fun _ _ _ _ _ hs _ _ => hs)
    ⟨⟨_, bO, World.ownsRow_nil _ _ _ _, rfl⟩, hB0⟩
    (fun x => x.elim) ?assign ?body ?done ?stop
  case assign =>
    exact fun l x => x.elim
  case body =>
    exact fun l pre x => x.elim
  case done =>
    rintro D ys W hD rfl ⟨⟨v, hv, hrow, rfl⟩, hB⟩ hK
    have hc := hv.cell
    gi_wp2
    refine ⟨by simp, .inl ⟨_, _, rfl, run_takeDeferred hK, ?_⟩⟩
    exact ⟨_, results_tmp rfl _ _ _, rfl, hB.trans (belowK_b (w := w) (Nat.le_refl _) W D _ _ (by simp at hD; omega) hK rfl rfl)⟩
  case stop =>
    rintro D c pre W _ _ h _
    exact h.elim
set_option maxRecDepth 100000 in
set_option maxHeartbeats 1000000 in
theorem collect0N_any (Bs r : Nat) (w : World) (hE : EmpN w.heap.size w Bs r) :
    Calls Tryz.prog 264 #[.func (.func 266) #[] #[.pointer (some ⟨Bs, 0, none⟩)]] w fun e W' => e = .returned (.slice none 0 0) ∧ Bel w W' := by
  have H := (callsIn_wide (n := 3)).1 (appendSeq0N_in Fence.wide 3 trivial trivial rfl (by omega) Bs r w hE)
  go_enter Tryz.func264, Tryz.ntmps264
  go_wp2_with fail
  refine H.mono ?_
  rintro _ w1 ⟨rfl, hb⟩
  go_wp2_with fail
  go_ret
  exact ⟨rfl, hb⟩
set_option maxRecDepth 100000 in
set_option maxHeartbeats 2000000 in
theorem keys0I_in (F : Fence) (n : Nat) (h7 : F.fn 189) (hro : F.round = none) (_hn : 1 ≤ n) (l Bs r : Nat) (J : List Empty → World → Prop)
    (W : World) (hJ : AbidesFrom W.heap.size J) (hBs : W.cell? ⟨Bs, 0, none⟩ = some (.map (some r))) (hm : mapAt Int GRevealPlace W r = some []) (h0 : J [] W) :
    CallsIn F n Tryz.prog 189 #[.func (.yield l) #[] #[], .pointer (some ⟨Bs, 0, none⟩)] W fun e W' => (∃ v, e = .returned v) ∧ J [] W' := by
  obtain ⟨o, hrg, hR⟩ := ranges_start (P := Tryz.prog) um176 hm
  have hJ2 := hJ [] W (W.alloc o) none h0 ⟨rfl, rfl, rfl, by simp, fun k hk _ => Below.heap_alloc _ _ _ hk⟩ (fun _ e => by cases e)
  have hnx : ∀ ty : TypeId, (Instr.next (.pointer (some ⟨W.heap.size, 0, none⟩)) false ty).run Tryz.prog (W.alloc o) = .ok (.tuple #[.bool false]) (W.alloc o) := by
    rcases hR.next Tryz.prog with ⟨_, h⟩ | ⟨l1, p, l2, w', h, _⟩
    · exact h
    · cases l1 <;> cases h
  clear hR hm
  refine callsIn_of_wp Tryz.func189 rfl h7 ?_ hro
  simp only [Tryz.ntmps189, List.size_toArray, List.length_cons, List.length_nil, Nat.reduceAdd, Nat.reduceSub, Array.replicate_succ, Array.replicate_zero, List.push_toArray, List.append_toArray, List.nil_append, List.cons_append]
  gi_wp2
  gi_loopw [] (fun wr => wr = W.alloc o) (fun _ => 0)
  case atStart => exact rfl
  case round =>
    obtain rfl := hrel
    gi_wp2
    go_end0
    exact ⟨⟨_, rfl⟩, hJ2⟩
def EmpI (n₀ : Nat) (W : World) (Bs r : Nat) : Prop := W.cell? ⟨Bs, 0, none⟩ = some (.map (some r)) ∧ mapAt Int GRevealPlace W r = some [] ∧ Bs < n₀ ∧ r < n₀
theorem EmpI.below {n₀ : Nat} {A B : World} {Bs r : Nat} (h : Below n₀ A B) (hE : EmpI n₀ A Bs r) : EmpI n₀ B Bs r :=
  ⟨(h.cell (p := ⟨Bs, 0, none⟩) hE.2.2.1).trans hE.1, (mapAt_below h hE.2.2.2).trans hE.2.1, hE.2.2⟩
theorem keys0I_stops (F : Fence) (n : Nat) (h7 : F.fn 189) (hro : F.round = none) (hn : 1 ≤ n) (Bs r n₀ : Nat) (w : World) (hE : EmpI n₀ w Bs r) (hn₀ : n₀ ≤ w.heap.size) :
    SeqStopsK F n Tryz.prog 189 #[.pointer (some ⟨Bs, 0, none⟩)] (fun x : Empty => (x.elim : Array Value)) (Below n₀) (fun ys => ys = []) (fun pre => pre = []) 0 w := fun l J Jx W hW hJ _ hY h0 => by
  have hE2 := hE.below (hW.mono hn₀)
  refine (keys0I_in F n h7 hro hn l Bs r J W hJ hE2.1 hE2.2.1 h0).mono ?_
  rintro e W' ⟨he, hj⟩
  exact ⟨he, .inl ⟨[], rfl, hj⟩⟩
set_option maxRecDepth 100000 in
set_option maxHeartbeats 4000000 in
theorem appendSeq0I_in (F : Fence) (n : Nat) (h3 : F.fn 239) (h5 : F.fn 189) (hro : F.round = none) (hn : 3 ≤ n) (Bs r : Nat) (w : World) (hE : EmpI w.heap.size w Bs r) :
    CallsIn F n Tryz.prog 239 #[.slice none 0 0, .func (.func 189) #[] #[.pointer (some ⟨Bs, 0, none⟩)]] w fun e W' => e = .returned (.slice none 0 0) ∧ Below w.heap.size w W' := by
  have h1 : 1 ≤ n := by omega
  refine callsIn_of_wp_marks Tryz.func239 rfl h3 ?_ hro
  simp only [Tryz.ntmps239, List.size_toArray, List.length_cons, List.length_nil, Nat.reduceAdd, Nat.reduceSub, Array.replicate_succ, Array.replicate_zero, List.push_toArray, List.append_toArray, List.nil_append, List.cons_append]
  gi_wp2
  have bO := Boxed.new w 204 (.slice none 0 0)
  have hB0 : Below w.heap.size w (w.alloc (.cells #[.slice none 0 0] 204)) := (Below.refl _ w).alloc (Nat.le_refl _) _
  refine wpIn_rangeFunc_ownG hro h1 (gf := 189) (lb := #[.pointer (some ⟨Bs, 0, none⟩)]) rfl h5 (enters_of Tryz.func189 (by kernel_rfl) rfl)
    (keys0I_stops F (n - 1) h5 hro (by omega) Bs r w.heap.size w hE (Nat.le_refl _)) belowK_t (belowK_b (by simp)) hB0 (fun x => x.elim)
    (fun pre W => (∃ v, Boxed W w.heap.size 204 v ∧ W.ownsRow w.heap.size 3 1 v 0 [] ∧ v = .slice none 0 0) ∧ Below w.heap.size w W)
    (fun _ _ _ => False)
    (OwnFrom.and (Own.from (holdsRow_own w.heap.size w.heap.size 204 3 1 (fun pre => 0) (fun pre => []) (fun pre v => v = .slice none 0 0)) _) (ownFrom_below (Nat.le_refl _) (by simp)))
    (fun _ _ _ _ _ hs _ _ => hs)
    ⟨⟨_, bO, World.ownsRow_nil _ _ _ _, rfl⟩, hB0⟩
    (fun x => x.elim) ?assign ?body ?done ?stop
  case assign =>
    exact fun l x => x.elim
  case body =>
    exact fun l pre x => x.elim
  case done =>
    rintro D ys W hD rfl ⟨⟨v, hv, hrow, rfl⟩, hB⟩ hK
    have hc := hv.cell
    gi_wp2
    refine ⟨by simp, .inl ⟨_, _, rfl, run_takeDeferred hK, ?_⟩⟩
    exact ⟨_, results_tmp rfl _ _ _, rfl, hB.trans (belowK_b (w := w) (Nat.le_refl _) W D _ _ (by simp at hD; omega) hK rfl rfl)⟩
  case stop =>
    rintro D c pre W _ _ h _
    exact h.elim
set_option maxRecDepth 100000 in
set_option maxHeartbeats 1000000 in
theorem collect0I_any (Bs r : Nat) (w : World) (hE : EmpI w.heap.size w Bs r) :
    Calls Tryz.prog 187 #[.func (.func 189) #[] #[.pointer (some ⟨Bs, 0, none⟩)]] w fun e W' => e = .returned (.slice none 0 0) ∧ Bel w W' := by
  have H := (callsIn_wide (n := 3)).1 (appendSeq0I_in Fence.wide 3 trivial trivial rfl (by omega) Bs r w hE)
  go_enter Tryz.func187, Tryz.ntmps187
  go_wp2_with fail
  refine H.mono ?_
  rintro _ w1 ⟨rfl, hb⟩
  go_wp2_with fail
  go_ret
  exact ⟨rfl, hb⟩
set_option maxRecDepth 100000 in
set_option maxHeartbeats 1000000 in
theorem len64_0 (w : World) : Calls Tryz.prog 287 #[.int .u64 0] w fun e w' => e = .returned (.int .i64 0) ∧ w' = w := by
  go_enter Tryz.func287, Tryz.ntmps287
  go_wp2_with fail
  go_ret
  exact ⟨by kernel_rfl, rfl⟩
set_option maxRecDepth 100000 in
theorem len_0 (w : World) : Calls Tryz.prog 241 #[.int .u64 0] w fun e w' => e = .returned (.int .i64 0) ∧ w' = w := by
  go_enter Tryz.func241, Tryz.ntmps241
  go_wp2_with fail
  refine (len64_0 _).mono ?_
  rintro _ w1 ⟨rfl, rfl⟩
  go_wp2_with fail
  go_ret
  exact ⟨rfl, rfl⟩
set_option maxRecDepth 100000 in
set_option maxHeartbeats 400000 in
theorem keysOfN_any (r : Nat) (w : World) (hm : mapAt GName GCert w r = some []) :
    Calls Tryz.prog 229 #[.map (some r)] w fun e w' => ∃ Bs, e = .returned (.func (.func 266) #[] #[.pointer (some ⟨Bs, 0, none⟩)]) ∧ EmpN w'.heap.size w' Bs r ∧ Bel w w' := by
  have hl := mapAt_lt hm
  have HE := Lib.hid (show EmpN (w.alloc (.cells #[.map (some r)] 173)).heap.size (w.alloc (.cells #[.map (some r)] 173)) w.heap.size r from ⟨by simp, mapAt_alloc _ hm, by simp, by simp; omega⟩)
  have HB := Lib.hid ((Bel.refl w).alloc (.cells #[.map (some r)] 173))
  clear hm
  go_enter Tryz.func229, Tryz.ntmps229
  go_wp2_with fail
  go_ret
  exact ⟨w.heap.size, rfl, HE.out, HB.out⟩
set_option maxRecDepth 100000 in
set_option maxHeartbeats 400000 in
theorem insSort0N_any (f : Value) (w : World) : Calls Tryz.prog 353 #[.slice none 0 0, .int .i64 0, .int .i64 0, f] w fun e w' => e = .returned (.tuple #[]) ∧ w' = w := by
  go_enter Tryz.func353, Tryz.ntmps353
  go_wp2_with fail
  go_loopw [8] (fun iv wr => iv = .int .i64 1 ∧ wr = w) (fun _ _ => 0)
  case atStart => exact ⟨rfl, rfl⟩
  case round =>
    obtain ⟨rfl, rfl⟩ := hrel
    go_wp2_with fail
    refine bodyPost_end (results_none rfl _ _ _) rfl ?_
    exact ⟨rfl, rfl⟩
set_option maxRecDepth 100000 in
set_option maxHeartbeats 1000000 in
theorem pdq0N_any (f : Value) (w : World) : Calls Tryz.prog 299 #[.slice none 0 0, .int .i64 0, .int .i64 0, .int .i64 0, f] w fun e w' => e = .returned (.tuple #[]) ∧ w' = w := by
  go_enter Tryz.func299, Tryz.ntmps299
  go_wp2_with fail
  go_loopw [1, 2, 3] (fun a b l wr => a = .int .i64 0 ∧ b = .int .i64 0 ∧ l = .int .i64 0 ∧ wr = w) (fun _ _ _ _ => 0)
  case atStart => exact ⟨rfl, rfl, rfl, rfl⟩
  case round =>
    obtain ⟨rfl, rfl, rfl, rfl⟩ := hrel
    go_wp2_with fail
    refine (insSort0N_any f _).mono ?_
    rintro _ w1 ⟨rfl, rfl⟩
    go_wp2_with fail
    refine bodyPost_ret (results_none rfl _ _ _) rfl ?_
    exact ⟨rfl, rfl⟩
set_option maxRecDepth 100000 in
set_option maxHeartbeats 400000 in
theorem sort0N_any (f : Value) (w : World) : Calls Tryz.prog 265 #[.slice none 0 0, f] w fun e w' => e = .returned (.tuple #[]) ∧ w' = w := by
  go_enter Tryz.func265, Tryz.ntmps265
  go_wp2_with fail
  refine (len_0 _).mono ?_
  rintro _ w1 ⟨rfl, rfl⟩
  go_wp2_with fail
  refine (pdq0N_any f _).mono ?_
  rintro _ w1 ⟨rfl, rfl⟩
  go_wp2_with fail
  refine bodyPost_end (results_none rfl _ _ _) rfl ?_
  exact ⟨rfl, rfl⟩
set_option maxRecDepth 100000 in
set_option maxHeartbeats 400000 in
theorem sorted0N_any (f : Value) (Bs r : Nat) (w : World) (hE : EmpN w.heap.size w Bs r) : Calls Tryz.prog 228 #[.func (.func 266) #[] #[.pointer (some ⟨Bs, 0, none⟩)], f] w fun e w' => e = .returned (.slice none 0 0) ∧ Bel w w' := by
  go_enter Tryz.func228, Tryz.ntmps228
  go_wp2_with fail
  refine (collect0N_any Bs r w hE).mono ?_
  rintro _ w1 ⟨rfl, hb⟩
  have HB := Lib.hid hb
  clear hb
  go_wp2_with fail
  refine (sort0N_any f _).mono ?_
  rintro _ w2 ⟨rfl, rfl⟩
  go_wp2_with fail
  go_ret
  exact ⟨rfl, HB.out⟩
set_option maxRecDepth 100000 in
set_option maxHeartbeats 400000 in
theorem keysOfI_any (r : Nat) (w : World) (hm : mapAt Int GRevealPlace w r = some []) :
    Calls Tryz.prog 136 #[.map (some r)] w fun e w' => ∃ Bs, e = .returned (.func (.func 189) #[] #[.pointer (some ⟨Bs, 0, none⟩)]) ∧ EmpI w'.heap.size w' Bs r ∧ Bel w w' := by
  have hl := mapAt_lt hm
  have HE := Lib.hid (show EmpI (w.alloc (.cells #[.map (some r)] 176)).heap.size (w.alloc (.cells #[.map (some r)] 176)) w.heap.size r from ⟨by simp, mapAt_alloc _ hm, by simp, by simp; omega⟩)
  have HB := Lib.hid ((Bel.refl w).alloc (.cells #[.map (some r)] 176))
  clear hm
  go_enter Tryz.func136, Tryz.ntmps136
  go_wp2_with fail
  go_ret
  exact ⟨w.heap.size, rfl, HE.out, HB.out⟩
set_option maxRecDepth 100000 in
set_option maxHeartbeats 400000 in
theorem insSort0I_any (w : World) : Calls Tryz.prog 277 #[.slice none 0 0, .int .i64 0, .int .i64 0] w fun e w' => e = .returned (.tuple #[]) ∧ w' = w := by
  go_enter Tryz.func277, Tryz.ntmps277
  go_wp2_with fail
  go_loopw [6] (fun iv wr => iv = .int .i64 1 ∧ wr = w) (fun _ _ => 0)
  case atStart => exact ⟨rfl, rfl⟩
  case round =>
    obtain ⟨rfl, rfl⟩ := hrel
    go_wp2_with fail
    refine bodyPost_end (results_none rfl _ _ _) rfl ?_
    exact ⟨rfl, rfl⟩
set_option maxRecDepth 100000 in
set_option maxHeartbeats 1000000 in
theorem pdq0I_any (w : World) : Calls Tryz.prog 240 #[.slice none 0 0, .int .i64 0, .int .i64 0, .int .i64 0] w fun e w' => e = .returned (.tuple #[]) ∧ w' = w := by
  go_enter Tryz.func240, Tryz.ntmps240
  go_wp2_with fail
  go_loopw [1, 2, 3] (fun a b l wr => a = .int .i64 0 ∧ b = .int .i64 0 ∧ l = .int .i64 0 ∧ wr = w) (fun _ _ _ _ => 0)
  case atStart => exact ⟨rfl, rfl, rfl, rfl⟩
  case round =>
    obtain ⟨rfl, rfl, rfl, rfl⟩ := hrel
    go_wp2_with fail
    refine (insSort0I_any _).mono ?_
    rintro _ w1 ⟨rfl, rfl⟩
    go_wp2_with fail
    refine bodyPost_ret (results_none rfl _ _ _) rfl ?_
    exact ⟨rfl, rfl⟩
set_option maxRecDepth 100000 in
set_option maxHeartbeats 400000 in
theorem sort0I_any (w : World) : Calls Tryz.prog 188 #[.slice none 0 0] w fun e w' => e = .returned (.tuple #[]) ∧ w' = w := by
  go_enter Tryz.func188, Tryz.ntmps188
  go_wp2_with fail
  refine (len_0 _).mono ?_
  rintro _ w1 ⟨rfl, rfl⟩
  go_wp2_with fail
  refine (pdq0I_any _).mono ?_
  rintro _ w1 ⟨rfl, rfl⟩
  go_wp2_with fail
  refine bodyPost_end (results_none rfl _ _ _) rfl ?_
  exact ⟨rfl, rfl⟩
set_option maxRecDepth 100000 in
set_option maxHeartbeats 400000 in
theorem sorted0I_any (Bs r : Nat) (w : World) (hE : EmpI w.heap.size w Bs r) : Calls Tryz.prog 135 #[.func (.func 189) #[] #[.pointer (some ⟨Bs, 0, none⟩)]] w fun e w' => e = .returned (.slice none 0 0) ∧ Bel w w' := by
  go_enter Tryz.func135, Tryz.ntmps135
  go_wp2_with fail
  refine (collect0I_any Bs r w hE).mono ?_
  rintro _ w1 ⟨rfl, hb⟩
  have HB := Lib.hid hb
  clear hb
  go_wp2_with fail
  refine (sort0I_any _).mono ?_
  rintro _ w2 ⟨rfl, rfl⟩
  go_wp2_with fail
  go_ret
  exact ⟨rfl, HB.out⟩
end Go.Proofs.YtfhhcgldikmejaaGreatDoor
/- A replica's parts, made; what they hold while nothing has come. Conditions: those named in each theorem. -/
namespace Go.Proofs.YtfhhcgldikmejaaGreatDoor
open Go Go.RowKit Go.Gv Go.Proofs

theorem mayR_iff {c : GConf} {i : Int} : mayR c i = true ↔ (1 ≤ c.f ∧ c.f ≤ 21 ∧ 1 ≤ c.clients ∧ c.clients ≤ 100) ∧ 0 ≤ i ∧ i < 3 * c.f + 1 := by
  unfold mayR inB
  rw [Bool.and_eq_true, validB_iff, Bool.and_eq_true, decide_eq_true_eq, decide_eq_true_eq]
/-- At g lies a stamper over the map in block m. -/
structure StampIs (w : World) (g m : Nat) (c : GConf) (i now floor last : Int) (S : List (GName × GStamp)) : Prop where
  get : get? GStampStamper w ⟨g, 0, none⟩ = some ⟨c, i, now, floor, last, some m⟩
  free : blkFree w g = true
  map : mapAt GName GStamp w m = some S
/-- At g lies a table that holds none. -/
structure TableIs (w : World) (g m : Nat) (c : GConf) (i : Int) : Prop where
  get : get? GLockTable w ⟨g, 0, none⟩ = some ⟨c, i, some m⟩
  free : blkFree w g = true
  map : mapAt GName GCert w m = some []
/-- At g lies a reveal of no place. -/
structure RevIs (w : World) (g m : Nat) (c : GConf) (i : Int) : Prop where
  get : get? GRevealReveal w ⟨g, 0, none⟩ = some ⟨c, i, some m⟩
  free : blkFree w g = true
  map : mapAt Int GRevealPlace w m = some []
/-- At g lies a ledger of nothing. -/
structure LedIs (w : World) (g m : Nat) : Prop where
  get : get? GLedgerLedger w ⟨g, 0, none⟩ = some ⟨0, 0, ⟨none, 0, 0⟩, some m, 0⟩
  free : blkFree w g = true
  map : mapAt GName Int w m = some []
section
variable {w w' : World} {S : Nat → Prop} {g m : Nat} {c : GConf} {i now floor last : Int} {ss : List (GName × GStamp)}
theorem StampIs.chg (h : StampIs w g m c i now floor last ss) (hc : Chg S w w') (hg : ¬ S g) (hm : ¬ S m) : StampIs w' g m c i now floor last ss := ⟨hc.get h.get hg, hc.free h.free (get?_lt h.get) hg, hc.map h.map hm⟩
theorem TableIs.chg (h : TableIs w g m c i) (hc : Chg S w w') (hg : ¬ S g) (hm : ¬ S m) : TableIs w' g m c i := ⟨hc.get h.get hg, hc.free h.free (get?_lt h.get) hg, hc.map h.map hm⟩
theorem RevIs.chg (h : RevIs w g m c i) (hc : Chg S w w') (hg : ¬ S g) (hm : ¬ S m) : RevIs w' g m c i := ⟨hc.get h.get hg, hc.free h.free (get?_lt h.get) hg, hc.map h.map hm⟩
theorem LedIs.chg (h : LedIs w g m) (hc : Chg S w w') (hg : ¬ S g) (hm : ¬ S m) : LedIs w' g m := ⟨hc.get h.get hg, hc.free h.free (get?_lt h.get) hg, hc.map h.map hm⟩
theorem StampIs.step (h : StampIs w g m c i now floor last ss) (hb : Bel w w') : StampIs w' g m c i now floor last ss := h.chg (S := fun _ => False) (Chg.of_bel hb _) id id
theorem TableIs.step (h : TableIs w g m c i) (hb : Bel w w') : TableIs w' g m c i := h.chg (S := fun _ => False) (Chg.of_bel hb _) id id
theorem RevIs.step (h : RevIs w g m c i) (hb : Bel w w') : RevIs w' g m c i := h.chg (S := fun _ => False) (Chg.of_bel hb _) id id
theorem LedIs.step (h : LedIs w g m) (hb : Bel w w') : LedIs w' g m := h.chg (S := fun _ => False) (Chg.of_bel hb _) id id
end
set_option maxRecDepth 100000 in
set_option maxHeartbeats 1000000 in
theorem stampNew_any (c : GConf) (i : Int) (w : World) (h : mayR c i = true) :
    Calls Tryz.prog 36 #[c.val, .int .i64 i] w fun e w' => ∃ g m : Nat, e = .returned (.tuple #[.pointer (some ⟨g, 0, none⟩), .int .i64 0]) ∧ StampIs w' g m c i 0 0 0 [] ∧ w.heap.size ≤ g ∧ w.heap.size ≤ m ∧ Bel w w' := by
  have hmm := @run_makeMap Tryz.prog
  obtain ⟨⟨v1, v2, v3, v4⟩, v5, v6⟩ := mayR_iff.1 h
  have hv : validB c = true := validB_iff.2 ⟨v1, v2, v3, v4⟩
  have hi : inB c i = true := by unfold inB; simp [v5, v6]
  have G := Lib.hid (get?_new (w := w) 24 c)
  have HB := Lib.hid ((Bel.refl w).alloc (.cells (GConf.enc c).toArray 24))
  clear h
  go_enter Tryz.func36, Tryz.ntmps36
  go_wp2_with fail
  refine (valid_is true c _ hv).mono ?_
  rintro _ w1 ⟨rfl, hb1⟩
  have HB1 := Lib.hid (HB.out.trans hb1)
  have g1 := GB.get hb1 G.out
  clear hb1
  go_wp2_with fail
  refine (in_is true c i _ hi (by omega) (by omega)).mono ?_
  rintro _ w2 ⟨rfl, hb2⟩
  have HB2 := Lib.hid (HB1.out.trans hb2)
  have g2 := GB.get hb2 g1
  have hz := (HB1.out.trans hb2).size
  clear hb2 g1
  go_wp2_with fail
  go_ret2
  refine ⟨w2.heap.size + 1, w2.heap.size, rfl, ⟨?_, ?_, ?_⟩, by omega, by omega, (HB2.out.alloc _).alloc _⟩
  · exact nw158 (w2.alloc (.map #[] 0)) (w2.heap.size + 1) ⟨c, i, 0, 0, 0, some w2.heap.size⟩ (by simp)
  · exact blkFree_new _ _ (by simp)
  · exact mapAt_alloc _ (mapAt_new _ _ w2)
set_option maxRecDepth 100000 in
set_option maxHeartbeats 1000000 in
theorem lockNew_any (c : GConf) (i : Int) (w : World) (h : mayR c i = true) :
    Calls Tryz.prog 37 #[c.val, .int .i64 i] w fun e w' => ∃ g m : Nat, e = .returned (.tuple #[.pointer (some ⟨g, 0, none⟩), .int .i64 0]) ∧ TableIs w' g m c i ∧ w.heap.size ≤ g ∧ w.heap.size ≤ m ∧ Bel w w' := by
  have hmm := @run_makeMap Tryz.prog
  obtain ⟨⟨v1, v2, v3, v4⟩, v5, v6⟩ := mayR_iff.1 h
  have hv : validB c = true := validB_iff.2 ⟨v1, v2, v3, v4⟩
  have hi : inB c i = true := by unfold inB; simp [v5, v6]
  have G := Lib.hid (get?_new (w := w) 24 c)
  have HB := Lib.hid ((Bel.refl w).alloc (.cells (GConf.enc c).toArray 24))
  clear h
  go_enter Tryz.func37, Tryz.ntmps37
  go_wp2_with fail
  refine (valid_is true c _ hv).mono ?_
  rintro _ w1 ⟨rfl, hb1⟩
  have HB1 := Lib.hid (HB.out.trans hb1)
  have g1 := GB.get hb1 G.out
  clear hb1
  go_wp2_with fail
  refine (in_is true c i _ hi (by omega) (by omega)).mono ?_
  rintro _ w2 ⟨rfl, hb2⟩
  have HB2 := Lib.hid (HB1.out.trans hb2)
  have g2 := GB.get hb2 g1
  have hz := (HB1.out.trans hb2).size
  clear hb2 g1
  go_wp2_with fail
  go_ret2
  refine ⟨w2.heap.size + 1, w2.heap.size, rfl, ⟨?_, ?_, ?_⟩, by omega, by omega, (HB2.out.alloc _).alloc _⟩
  · exact nw175 (w2.alloc (.map #[] 0)) (w2.heap.size + 1) ⟨c, i, some w2.heap.size⟩ (by simp)
  · exact blkFree_new _ _ (by simp)
  · exact mapAt_alloc _ (mapAt_new _ _ w2)
set_option maxRecDepth 100000 in
set_option maxHeartbeats 1000000 in
theorem revNew_any (c : GConf) (i : Int) (w : World) (h : mayR c i = true) :
    Calls Tryz.prog 38 #[c.val, .int .i64 i] w fun e w' => ∃ g m : Nat, e = .returned (.tuple #[.pointer (some ⟨g, 0, none⟩), .int .i64 0]) ∧ RevIs w' g m c i ∧ w.heap.size ≤ g ∧ w.heap.size ≤ m ∧ Bel w w' := by
  have hmm := @run_makeMap Tryz.prog
  obtain ⟨⟨v1, v2, v3, v4⟩, v5, v6⟩ := mayR_iff.1 h
  have hv : validB c = true := validB_iff.2 ⟨v1, v2, v3, v4⟩
  have hi : inB c i = true := by unfold inB; simp [v5, v6]
  have G := Lib.hid (get?_new (w := w) 24 c)
  have HB := Lib.hid ((Bel.refl w).alloc (.cells (GConf.enc c).toArray 24))
  clear h
  go_enter Tryz.func38, Tryz.ntmps38
  go_wp2_with fail
  refine (valid_is true c _ hv).mono ?_
  rintro _ w1 ⟨rfl, hb1⟩
  have HB1 := Lib.hid (HB.out.trans hb1)
  have g1 := GB.get hb1 G.out
  clear hb1
  go_wp2_with fail
  refine (in_is true c i _ hi (by omega) (by omega)).mono ?_
  rintro _ w2 ⟨rfl, hb2⟩
  have HB2 := Lib.hid (HB1.out.trans hb2)
  have g2 := GB.get hb2 g1
  have hz := (HB1.out.trans hb2).size
  clear hb2 g1
  go_wp2_with fail
  go_ret2
  refine ⟨w2.heap.size + 1, w2.heap.size, rfl, ⟨?_, ?_, ?_⟩, by omega, by omega, (HB2.out.alloc _).alloc _⟩
  · exact nw178 (w2.alloc (.map #[] 0)) (w2.heap.size + 1) ⟨c, i, some w2.heap.size⟩ (by simp)
  · exact blkFree_new _ _ (by simp)
  · exact mapAt_alloc _ (mapAt_new _ _ w2)
set_option maxRecDepth 100000 in
set_option maxHeartbeats 400000 in
theorem ledNew_any (w : World) : Calls Tryz.prog 39 #[] w fun e w' => ∃ g m : Nat, e = .returned (.pointer (some ⟨g, 0, none⟩)) ∧ LedIs w' g m ∧ w.heap.size ≤ g ∧ w.heap.size ≤ m ∧ Bel w w' := by
  have hmm := @run_makeMap Tryz.prog
  go_enter Tryz.func39, Tryz.ntmps39
  go_wp2
  go_ret
  refine ⟨w.heap.size + 1, w.heap.size, rfl, ⟨?_, ?_, ?_⟩, by omega, by omega, ((Bel.refl w).alloc _).alloc _⟩
  · exact nw182 (w.alloc (.map #[] 0)) (w.heap.size + 1) ⟨0, 0, ⟨none, 0, 0⟩, some w.heap.size, 0⟩ (by simp)
  · exact blkFree_new _ _ (by simp)
  · exact mapAt_alloc _ (mapAt_new _ _ w)
set_option maxRecDepth 100000 in
theorem now_any (g m : Nat) (c : GConf) (i now floor last : Int) (ss : List (GName × GStamp)) (w : World) (h : StampIs w g m c i now floor last ss) : Calls Tryz.prog 33 #[.pointer (some ⟨g, 0, none⟩)] w fun e w' => e = .returned (.int .u64 now) ∧ w' = w := by
  have f0 := GStampStamper.at_now h.get
  simp only [Addr.add_lit, Nat.zero_add] at f0
  clear h
  go_enter Tryz.func33, Tryz.ntmps33
  go_wp2_with fail
  go_ret
  exact ⟨rfl, rfl⟩
set_option maxRecDepth 100000 in
theorem epoch0_any (g m : Nat) (w : World) (h : LedIs w g m) : Calls Tryz.prog 79 #[.pointer (some ⟨g, 0, none⟩)] w fun e w' => e = .returned (.int .i64 0) ∧ w' = w := by
  have f0 := GLedgerLedger.at_epoch h.get
  simp only [Addr.add_lit, Nat.zero_add] at f0
  clear h
  go_enter Tryz.func79, Tryz.ntmps79
  go_wp2_with fail
  go_ret
  exact ⟨rfl, rfl⟩
set_option maxRecDepth 100000 in
theorem last0_any (g m : Nat) (w : World) (h : LedIs w g m) : Calls Tryz.prog 99 #[.pointer (some ⟨g, 0, none⟩)] w fun e w' => e = .returned (.int .u64 0) ∧ w' = w := by
  have f0 := GLedgerLedger.at_last h.get
  simp only [Addr.add_lit, Nat.zero_add] at f0
  clear h
  go_enter Tryz.func99, Tryz.ntmps99
  go_wp2_with fail
  go_ret
  exact ⟨rfl, rfl⟩
set_option maxRecDepth 100000 in
set_option maxHeartbeats 1000000 in
theorem held0_any (g m : Nat) (c : GConf) (i : Int) (w : World) (h : TableIs w g m c i) : Calls Tryz.prog 168 #[.pointer (some ⟨g, 0, none⟩)] w fun e w' => e = .returned (.slice none 0 0) ∧ Bel w w' := by
  have f0 := GLockTable.at_held h.get
  simp only [Addr.add_lit, Nat.zero_add] at f0
  have HM := Lib.hid h.map
  clear h
  go_enter Tryz.func168, Tryz.ntmps168
  go_wp2_with fail
  refine (keysOfN_any m w HM.out).mono ?_
  rintro _ w1 ⟨Bs, rfl, hE, hb1⟩
  have HE := Lib.hid hE; have HB := Lib.hid hb1
  clear hE hb1 f0
  go_wp2_with fail
  refine (sorted0N_any _ Bs m w1 HE.out).mono ?_
  rintro _ w2 ⟨rfl, hb2⟩
  have HB2 := Lib.hid (HB.out.trans hb2)
  clear hb2
  go_wp2_with fail
  go_loopw [3, 13] (fun ov iv wr => ov = .slice none 0 0 ∧ iv = .int .i64 0 ∧ wr = w2) (fun _ _ _ => 0)
  case atStart => exact ⟨rfl, rfl, rfl⟩
  case round =>
    obtain ⟨rfl, rfl, rfl⟩ := hrel
    go_wp2_with fail
    go_ret
    exact ⟨rfl, HB2.out⟩
set_option maxRecDepth 100000 in
set_option maxHeartbeats 1000000 in
theorem rising0_any (g m : Nat) (c : GConf) (i : Int) (w : World) (h : RevIs w g m c i) : Calls Tryz.prog 87 #[.pointer (some ⟨g, 0, none⟩)] w fun e w' => e = .returned (.slice none 0 0) ∧ Bel w w' := by
  have f0 := GRevealReveal.at_m h.get
  simp only [Addr.add_lit, Nat.zero_add] at f0
  have HM := Lib.hid h.map
  clear h
  go_enter Tryz.func87, Tryz.ntmps87
  go_wp2_with fail
  refine (keysOfI_any m w HM.out).mono ?_
  rintro _ w1 ⟨Bs, rfl, hE, hb1⟩
  have HE := Lib.hid hE; have HB := Lib.hid hb1
  clear hE hb1 f0
  go_wp2_with fail
  refine (sorted0I_any Bs m w1 HE.out).mono ?_
  rintro _ w2 ⟨rfl, hb2⟩
  have HB2 := Lib.hid (HB.out.trans hb2)
  clear hb2
  go_wp2_with fail
  go_ret
  exact ⟨rfl, HB2.out⟩
set_option maxRecDepth 100000 in
set_option maxHeartbeats 1000000 in
theorem due0_any (g m : Nat) (c : GConf) (i : Int) (b : Value) (now : Int) (w : World) (h : RevIs w g m c i) : Calls Tryz.prog 49 #[.pointer (some ⟨g, 0, none⟩), b, .int .u64 now] w fun e w' => e = .returned (.slice none 0 0) ∧ Bel w w' := by
  go_enter Tryz.func49, Tryz.ntmps49
  go_wp2_with fail
  refine (rising0_any g m c i w h).mono ?_
  rintro _ w2 ⟨rfl, hb2⟩
  have HB2 := Lib.hid hb2
  clear hb2
  go_wp2_with fail
  go_loopw [7, 15] (fun ov iv wr => ov = .slice none 0 0 ∧ iv = .int .i64 0 ∧ wr = w2) (fun _ _ _ => 0)
  case atStart => exact ⟨rfl, rfl, rfl⟩
  case round =>
    obtain ⟨rfl, rfl, rfl⟩ := hrel
    go_wp2_with fail
    go_ret
    exact ⟨rfl, HB2.out⟩
end Go.Proofs.YtfhhcgldikmejaaGreatDoor
/- The stamper's clock and floor; a promise of a table that holds none. Conditions: those named in each theorem. -/
namespace Go.Proofs.YtfhhcgldikmejaaGreatDoor
open Go Go.RowKit Go.Gv Go.Proofs

set_option maxRecDepth 100000 in
set_option maxHeartbeats 1000000 in
theorem raise_any (g m : Nat) (c : GConf) (i now floor last t : Int) (ss : List (GName × GStamp)) (w : World) (h : StampIs w g m c i now floor last ss) (ht : t < 18446744073709551615) :
    Calls Tryz.prog 149 #[.pointer (some ⟨g, 0, none⟩), .int .u64 t] w fun e w' => e = .returned (.int .i64 0) ∧ StampIs w' g m c i now (max floor t) last ss ∧ Chg (fun k => k = g) w w' := by
  have HS := Lib.hid h
  have f0 := GStampStamper.at_floor h.get
  simp only [Addr.add_lit, Nat.zero_add] at f0
  have hfr : w.frozen? ⟨g, 4, none⟩ = false := frozen_of_free h.free
  have hne : (t == 18446744073709551615) = false := by rw [beq_eq_false_iff_ne]; omega
  have key : ∀ v : Int, v = max floor t → StampIs (w.setCell ⟨g, 4, none⟩ (.int .u64 v)) g m c i now (max floor t) last ss ∧ Chg (fun k => k = g) w (w.setCell ⟨g, 4, none⟩ (.int .u64 v)) := fun v hv => by
    subst hv
    have hc : Chg (fun k => k = g) w (w.setCell ⟨g, 4, none⟩ (.int .u64 (max floor t))) := chg_cell (S := fun k => k = g) rfl _
    exact ⟨⟨get?_poke HS.out.get rfl, by rw [blkFree_setCell]; exact HS.out.free, hc.map HS.out.map (fun e => get_not_mapV HS.out.map HS.out.get e.symm)⟩, hc⟩
  have KEY := Lib.hid key
  clear key h
  by_cases hlt : floor < t
  · have hm := Lib.hid (show t = max floor t by omega)
    go_enter Tryz.func149, Tryz.ntmps149
    go_wp2_with fail
    go_ret
    exact ⟨rfl, KEY.out t hm.out⟩
  · have hm := Lib.hid (show floor = max floor t by omega)
    go_enter Tryz.func149, Tryz.ntmps149
    go_wp2_with fail
    go_ret
    exact ⟨rfl, KEY.out floor hm.out⟩
set_option maxRecDepth 100000 in
set_option maxHeartbeats 1000000 in
theorem tick1_any (g m : Nat) (c : GConf) (i now floor last : Int) (ss : List (GName × GStamp)) (w : World) (h : StampIs w g m c i now floor last ss) (h0 : 0 ≤ now) (h1 : now ≤ 1000000000) :
    Calls Tryz.prog 44 #[.pointer (some ⟨g, 0, none⟩), .int .u64 1] w fun e w' => e = .returned (.tuple #[]) ∧ StampIs w' g m c i (now + 1) floor last ss ∧ Chg (fun k => k = g) w w' := by
  have HS := Lib.hid h
  have f0 := GStampStamper.at_now h.get
  simp only [Addr.add_lit, Nat.zero_add] at f0
  have hfr : w.frozen? ⟨g, 3, none⟩ = false := frozen_of_free h.free
  have e1 : IntKind.u64.wrap (18446744073709551615 - now) = 18446744073709551615 - now := IntWalk.u64_in _ (by omega)
  have e2 : IntKind.u64.wrap (now + 1) = now + 1 := IntWalk.u64_in _ (by omega)
  have e3 : ¬ 18446744073709551615 - now < 1 := by omega
  clear h
  go_enter Tryz.func44, Tryz.ntmps44
  go_wp2_with fail
  go_region
  go_wp2_with fail
  have hc : Chg (fun k => k = g) w (w.setCell ⟨g, 3, none⟩ (.int .u64 (now + 1))) := chg_cell (S := fun k => k = g) rfl _
  refine bodyPost_end (results_none rfl _ _ _) rfl ?_
  exact ⟨rfl, ⟨get?_poke HS.out.get rfl, by rw [show ∀ w1 : World, blkFree w1.drew g = blkFree w1 g from fun _ => rfl, blkFree_setCell]; exact HS.out.free, hc.map HS.out.map (fun e => get_not_mapV HS.out.map HS.out.get e.symm)⟩, hc.tr (Chg.of_bel ((Bel.refl _).drew) _)⟩
/-- A book and a promise lie in two blocks. -/
theorem get_ne_book {w : World} {g q : Nat} {b : GBookBook} {x : GPromise} (h1 : get? GBookBook w ⟨g, 0, none⟩ = some b) (h2 : get? GPromise w ⟨q, 0, none⟩ = some x) : ¬ g = q := by
  intro e
  subst e
  have a := (get?_iff.1 h1) 0 _ rfl
  have b2 := (get?_iff.1 h2) 0 _ rfl
  rw [a] at b2
  cases b2
def x0P (i epoch time : Int) : GPromise := ⟨i, epoch, time, ⟨none, 0, 0⟩, default⟩
def keyP (i epoch : Int) (tm : Nat) : GBookSigned := ⟨i, strB (promiseText0 tm (x0P i epoch tm))⟩
set_option maxRecDepth 100000 in
set_option maxHeartbeats 2000000 in
theorem promise0_any (g m gb mb : Nat) (c : GConf) (i epoch last : Int) (tm : Nat) (B : MBook) (w : World) (h : TableIs w g m c i) (hb : BookIs w gb mb B) (he : 0 ≤ epoch) (he1 : epoch ≤ 1048576) (hl : last < (tm : Int)) (ht : tm < 18446744073709551615) (hi : i ≤ 1000000) (hB : B.length ≤ 1000000000) :
    Calls Tryz.prog 148 #[.pointer (some ⟨g, 0, none⟩), .pointer (some ⟨gb, 0, none⟩), .int .i64 epoch, .int .u64 last, .int .u64 (tm : Int)] w fun e w' =>
      e = .returned (.tuple #[GPromise.val ⟨i, epoch, tm, ⟨none, 0, 0⟩, ⟨i, markOf B (keyP i epoch tm)⟩⟩, .int .i64 0]) ∧ BookIs w' gb mb (signB B (keyP i epoch tm)) ∧ Chg (fun k => k = mb) w w' := by
  have HT := Lib.hid h; have HBK := Lib.hid hb
  have h2 : ¬ (tm : Int) ≤ last := by omega
  have h3 : ((tm : Int) == 18446744073709551615) = false := by rw [beq_eq_false_iff_ne]; omega
  have h4 : ¬ (1048576 : Int) < epoch := by omega
  have f0 := GLockTable.at_replica h.get
  simp only [Addr.add_lit, Nat.zero_add] at f0
  have hgl := get?_lt h.get
  have h5 : ¬ epoch < 0 := by omega
  simp only at hgl
  clear h hb
  go_enter Tryz.func148, Tryz.ntmps148
  go_wp2_with fail
  have c10 : get? GPromise ((w.alloc (.cells (GPromise.enc default).toArray 49)).alloc (.cells (GPromise.enc (x0P i epoch tm)).toArray 49)) ⟨w.heap.size, 0, none⟩ = some default := get?_alloc _ (get?_new _ _)
  have c12 : get? GPromise ((w.alloc (.cells (GPromise.enc default).toArray 49)).alloc (.cells (GPromise.enc (x0P i epoch tm)).toArray 49)) ⟨w.heap.size + 1, 0, none⟩ = some (x0P i epoch tm) := by
    have := get?_new (w := w.alloc (.cells (GPromise.enc default).toArray 49)) 49 (x0P i epoch tm)
    rwa [World.size_alloc] at this
  have b10 : blkFree ((w.alloc (.cells (GPromise.enc default).toArray 49)).alloc (.cells (GPromise.enc (x0P i epoch tm)).toArray 49)) w.heap.size = true := by rw [blkFree_past _ _ (by simp)]; exact blkFree_new _ _ rfl
  have b12 : blkFree ((w.alloc (.cells (GPromise.enc default).toArray 49)).alloc (.cells (GPromise.enc (x0P i epoch tm)).toArray 49)) (w.heap.size + 1) = true := blkFree_new _ _ (by simp)
  have HB := Lib.hid (((Bel.refl w).alloc (.cells (GPromise.enc default).toArray 49)).alloc (.cells (GPromise.enc (x0P i epoch tm)).toArray 49))
  obtain ⟨q, hq⟩ : ∃ q, w.heap.size = q := ⟨_, rfl⟩
  have HQ := Lib.hid hq
  rw [hq] at c10 c12 b10 b12 hgl ⊢
  change Calls _ _ _ ((w.alloc (.cells (GPromise.enc default).toArray 49)).alloc (.cells (GPromise.enc (x0P i epoch tm)).toArray 49)) _
  generalize (w.alloc (.cells (GPromise.enc default).toArray 49)).alloc (.cells (GPromise.enc (x0P i epoch tm)).toArray 49) = wb at c10 c12 b10 b12 HB ⊢
  refine (held0_any g m c i wb (HT.out.step HB.out)).mono ?_
  rintro _ w1 ⟨rfl, hb1⟩
  have HB1 := Lib.hid (HB.out.trans hb1)
  have C10 := Lib.hid (GB.get hb1 c10); have C12 := Lib.hid (GB.get hb1 c12)
  have B10 := Lib.hid ((blkFree_keep (Below.block hb1 _ (get?_lt c10))).trans b10); have B12 := Lib.hid ((blkFree_keep (Below.block hb1 _ (get?_lt c12))).trans b12)
  clear hb1 c10 c12 b10 b12 hq f0
  go_wp2_with fail
  go_loopw [43] (fun iv wr => iv = .int .i64 0 ∧ wr = w1) (fun _ _ => 0)
  case atStart => exact ⟨rfl, rfl⟩
  case round =>
    obtain ⟨rfl, rfl⟩ := hrel
    go_wp2_with fail
    have F0 := Lib.hid (show wr.cell? ⟨g, 2, none⟩ = some (.int .i64 i) by
      have := GLockTable.at_replica (HT.out.step HB1.out).get
      simp only [Addr.add_lit, Nat.zero_add] at this
      exact this)
    refine wp_region_G GB [7, 9] GB.rf (by kernel_rfl) ?_
    refine wpG_looks 4 10 [0, 1, 2, 3, 4, 5] rfl GB.rf GB.tr (by kernel_rfl) (fun _ _ _ _ hd h => And.intro (hd ▸ And.left h) (And.right h)) rfl (by kernel_rfl) ?_
    intro ι W hne CW
    have k0 : ∀ z, (W z).cell? ⟨g, 2, none⟩ = some (.int .i64 i) := fun z => GB.cell (CW.out z) F0.out
    have k1 : ∀ z, get? GPromise (W z) ⟨q + 1, 0, none⟩ = some (x0P i epoch tm) := fun z => GB.get (CW.out z) C12.out
    repeat (refine wpLooksG_step (fun K hK => ?_); go_simp; refine hK _ ?_; clear hK K)
    refine wpLooksG_nil ?_
    clear k0 k1 CW hne W ι
    refine wpG_force 6 _ rfl (by kernel_rfl) rfl fun wa hwa K hK => ?_
    go_simp
    refine (promiseText_any (x0P i epoch tm) wa (by show i ≤ _; omega) (by show epoch ≤ _; omega) tm rfl (by omega) rfl).mono ?_
    rintro _ wc ⟨A, cc, rfl, hs, hbc⟩
    refine hK _ _ (fun _ => hbc) ?_
    have HS := Lib.hid hs; have HBC := Lib.hid ((GB.undrew hwa).trans hbc)
    clear hK K hs hbc hwa
    obtain ⟨n, hn⟩ : ∃ n, (promiseText0 tm (x0P i epoch tm)).length = n := ⟨_, rfl⟩
    rw [hn] at HS ⊢
    clear hn
    refine wpG_force 7 _ rfl (by kernel_rfl) rfl fun wd hwd K hK => ?_
    go_simp
    refine (sign_any gb mb B i A n cc _ wd (HBK.out.step ((HB1.out.trans HBC.out).trans hwd)) (HS.out.stepB hwd) hB).mono ?_
    rintro _ we ⟨rfl, hbk, hce⟩
    refine hK _ _ (fun h => absurd (by simp) h) ?_
    have HBK2 := Lib.hid hbk
    have hq1m : q + 1 ≠ mb := by
      have := get_not_mapV (HBK.out.step HB1.out).2 C12.out
      exact this
    have hqm : q ≠ mb := get_not_mapV (HBK.out.step HB1.out).2 C10.out
    have hBD := HBC.out.trans hwd
    have C12e := Lib.hid (hce.get (GB.get hBD C12.out) hq1m)
    have B12e := Lib.hid (hce.free ((blkFree_keep (Below.block hBD _ (get?_lt C12.out))).trans B12.out) (get?_lt (GB.get hBD C12.out)) hq1m)
    have C10e := Lib.hid (hce.get (GB.get hBD C10.out) hqm)
    have B10e := Lib.hid (hce.free ((blkFree_keep (Below.block hBD _ (get?_lt C10.out))).trans B10.out) (get?_lt (GB.get hBD C10.out)) hqm)
    have HCE := Lib.hid (((Chg.of_bel (HB1.out.trans hBD) _).tr hce : Chg (fun k => k = mb) w we))
    clear hK K hbk hce hBD hwd HS HBC C10 C12 B10 B12 F0
    refine wpG_force 8 _ rfl (by kernel_rfl) rfl fun wf hwf K hK => ?_
    go_simp
    refine hK _ _ (fun _ => GB.rf _) ?_
    clear hK K
    refine wpG_force 9 _ rfl (by kernel_rfl) rfl fun wg hwg K hK => ?_
    have hbg := GB.tr _ _ _ hwf hwg
    have s12 := GB.get hbg C12e.out
    have sb12 := (blkFree_keep (Below.block hbg _ (get?_lt C12e.out))).trans B12e.out
    have ssig := GPromise.at_sig s12
    simp only [Addr.add_lit, Nat.zero_add] at ssig
    go_simp
    refine hK _ _ (fun h => absurd (by simp) h) ?_
    obtain ⟨mk, hmk⟩ : ∃ mk, markOf B ⟨i, strB (promiseText0 tm (x0P i epoch tm))⟩ = mk := ⟨_, rfl⟩
    have HMK := Lib.hid (show markOf B (keyP i epoch tm) = mk from hmk)
    rw [hmk]
    have t12 : get? GPromise (World.putCells wg ⟨q + 1, 4, none⟩ (GSig.enc ⟨i, mk⟩)) ⟨q + 1, 0, none⟩ = some ⟨i, epoch, tm, ⟨none, 0, 0⟩, ⟨i, mk⟩⟩ := get?_putSegV s12 (by show 4 + (GSig.enc _).length ≤ 6; rw [GSig.enc_len]; omega) rfl
    have hc9 : Chg (fun k => k = q + 1) wg (World.putCells wg ⟨q + 1, 4, none⟩ (GSig.enc ⟨i, mk⟩)) := chg_put (S := fun k => k = q + 1) rfl _
    have t10 := hc9.get (GB.get hbg C10e.out) (by show ¬ q = q + 1; omega)
    have tb10 := hc9.free ((blkFree_keep (Below.block hbg _ (get?_lt C10e.out))).trans B10e.out) (get?_lt (GB.get hbg C10e.out)) (by show ¬ q = q + 1; omega)
    have HBK3 := Lib.hid ((HBK2.out.step hbg).chg hc9 (get_ne_book HBK2.out.1 C12e.out) (fun e => hq1m e.symm))
    have HC9 := Lib.hid ((HCE.out.tr (Chg.of_bel hbg _)).sub (S' := fun k => k = mb ∨ k = q + 1) (fun k e => .inl e) |>.tr (hc9.sub (fun k e => .inr e)))
    generalize World.putCells wg ⟨q + 1, 4, none⟩ (GSig.enc ⟨i, mk⟩) = wh at t12 t10 tb10 HBK3 HC9 ⊢
    clear hK K hmk ssig sb12 s12 hc9 hbg hwg hwf HBK2 HCE C12e B12e C10e B10e
    refine wpG_end (by kernel_rfl) (fun wn hwn => ?_) _
    have u12 := GB.get hwn t12
    have u10 := GB.get hwn t10
    have ub10 := (blkFree_keep (Below.block hwn _ (get?_lt t10))).trans tb10
    have HBK4 := Lib.hid (HBK3.out.step hwn)
    have HC4 := Lib.hid (HC9.out.tr (Chg.of_bel hwn _))
    clear t12 t10 tb10 HBK3 HC9 hwn
    go_wp2_with fail
    have v10 : get? GPromise (World.putCells wn ⟨q, 0, none⟩ (GPromise.enc ⟨i, epoch, tm, ⟨none, 0, 0⟩, ⟨i, mk⟩⟩)) ⟨q, 0, none⟩ = some ⟨i, epoch, tm, ⟨none, 0, 0⟩, ⟨i, mk⟩⟩ := get?_putV _ u10
    have hcl : Chg (fun k => k = q) wn (World.putCells wn ⟨q, 0, none⟩ (GPromise.enc ⟨i, epoch, tm, ⟨none, 0, 0⟩, ⟨i, mk⟩⟩)) := chg_put (S := fun k => k = q) rfl _
    refine bodyPost_ret (results_cell_tmp (x := (⟨i, epoch, tm, ⟨none, 0, 0⟩, ⟨i, mk⟩⟩ : GPromise)) rfl rfl ag49 sz49 v10) rfl ⟨?_, ?_, ?_⟩
    · rw [HMK.out]
      simp only [GPromise.val_eq]
      rfl
    · exact HBK4.out.chg hcl (get_ne_book HBK4.out.1 u10) (fun e => hqm e.symm)
    · exact chg_new ((HC4.out.sub (fun k e => by rcases e with e | e; exact .inl e; right; rw [HQ.out]; omega)).tr (hcl.sub (fun k e => by right; rw [HQ.out]; omega)))
end Go.Proofs.YtfhhcgldikmejaaGreatDoor
/- Agreement's core, while no vote and no proposal has come. Conditions: those named in each theorem. -/
namespace Go.Proofs.YtfhhcgldikmejaaGreatDoor
open Go Go.RowKit Go.Gv Go.Proofs

/-- At g lies a core over a tally at gt; no proposal has come. -/
structure CoreIs (w : World) (g gt mh mc ma ml mq : Nat) (c : GConf) (ep id : Int) (s : GCoreState) (b1 b2 b3 : Bool) (H : List (GTallyVoter × Bool)) (A : List (GTallyTurn × Int)) (L : List (Int × Int)) : Prop where
  get : get? GCoreCore w ⟨g, 0, none⟩ = some ⟨c, ep, id, s, some ⟨gt, 0, none⟩, some mq, b1, b2, b3⟩
  free : blkFree w g = true
  tal : get? GTallyTally w ⟨gt, 0, none⟩ = some ⟨c, some mh, some mc, some ma, some ml⟩
  props : mapAt Int GCoreProposal w mq = some []
  have_ : mapAt GTallyVoter Bool w mh = some H
  all : mapAt GTallyTurn Int w ma = some A
  last : mapAt Int Int w ml = some L
section
variable {w w' : World} {S : Nat → Prop} {g gt mh mc ma ml mq : Nat} {c : GConf} {ep id : Int} {s : GCoreState} {b1 b2 b3 : Bool} {H : List (GTallyVoter × Bool)} {A : List (GTallyTurn × Int)} {L : List (Int × Int)}
theorem CoreIs.chg (h : CoreIs w g gt mh mc ma ml mq c ep id s b1 b2 b3 H A L) (hc : Chg S w w') (h1 : ¬ S g) (h2 : ¬ S gt) (h3 : ¬ S mq) (h4 : ¬ S mh) (h5 : ¬ S ma) (h6 : ¬ S ml) : CoreIs w' g gt mh mc ma ml mq c ep id s b1 b2 b3 H A L :=
  ⟨hc.get h.get h1, hc.free h.free (get?_lt h.get) h1, hc.get h.tal h2, hc.map h.props h3, hc.map h.have_ h4, hc.map h.all h5, hc.map h.last h6⟩
theorem CoreIs.step (h : CoreIs w g gt mh mc ma ml mq c ep id s b1 b2 b3 H A L) (hb : Bel w w') : CoreIs w' g gt mh mc ma ml mq c ep id s b1 b2 b3 H A L :=
  h.chg (S := fun _ => False) (Chg.of_bel hb _) (fun h => h) (fun h => h) (fun h => h) (fun h => h) (fun h => h) (fun h => h)
end
set_option maxRecDepth 100000 in
set_option maxHeartbeats 1000000 in
theorem tallyNew_any (c : GConf) (w : World) (hv : validB c = true) :
    Calls Tryz.prog 130 #[c.val] w fun e w' => ∃ g mh mc ma ml : Nat, e = .returned (.tuple #[.pointer (some ⟨g, 0, none⟩), .int .i64 0]) ∧ get? GTallyTally w' ⟨g, 0, none⟩ = some ⟨c, some mh, some mc, some ma, some ml⟩ ∧
      mapAt GTallyVoter Bool w' mh = some [] ∧ mapAt GTallyTurn Int w' ma = some [] ∧ mapAt Int Int w' ml = some [] ∧ w.heap.size ≤ g ∧ w.heap.size ≤ mh ∧ w.heap.size ≤ mc ∧ w.heap.size ≤ ma ∧ w.heap.size ≤ ml ∧ Bel w w' := by
  have hmm := @run_makeMap Tryz.prog
  have G := Lib.hid (get?_new (w := w) 24 c)
  have HB := Lib.hid ((Bel.refl w).alloc (.cells (GConf.enc c).toArray 24))
  go_enter Tryz.func130, Tryz.ntmps130
  go_wp2_with fail
  refine (valid_is true c _ hv).mono ?_
  rintro _ w1 ⟨rfl, hb1⟩
  have HB1 := Lib.hid (HB.out.trans hb1)
  have g1 := GB.get hb1 G.out
  have hz := (HB.out.trans hb1).size
  clear hb1
  go_wp2_with fail
  go_ret2
  have hB4 : Bel w1 ((((w1.alloc (.map #[] 0)).alloc (.map #[] 0)).alloc (.map #[] 0)).alloc (.map #[] 0)) := ((((Bel.refl w1).alloc _).alloc _).alloc _).alloc _
  refine ⟨w1.heap.size + 4, w1.heap.size, w1.heap.size + 1, w1.heap.size + 2, w1.heap.size + 3, rfl, ?_, ?_, ?_, ?_, by omega, by omega, by omega, by omega, by omega, (HB1.out.trans hB4).alloc _⟩
  · exact nw336 _ (w1.heap.size + 4) ⟨c, some w1.heap.size, some (w1.heap.size + 1), some (w1.heap.size + 2), some (w1.heap.size + 3)⟩ (by simp)
  · exact mapAt_alloc _ (mapAt_alloc _ (mapAt_alloc _ (mapAt_alloc _ (mapAt_new _ _ w1))))
  · have := mapAt_new GTallyTurn Int ((w1.alloc (.map #[] 0)).alloc (.map #[] 0))
    simp only [World.size_alloc] at this
    exact mapAt_alloc _ (mapAt_alloc _ this)
  · have := mapAt_new Int Int (((w1.alloc (.map #[] 0)).alloc (.map #[] 0)).alloc (.map #[] 0))
    rw [show (((w1.alloc (.map #[] 0)).alloc (.map #[] 0)).alloc (.map #[] 0)).heap.size = w1.heap.size + 3 by simp] at this
    exact mapAt_alloc _ this
set_option maxRecDepth 100000 in
set_option maxHeartbeats 2000000 in
theorem coreNew_any (c : GConf) (ep id : Int) (w : World) (hv : validB c = true) (hi : inB c id = true) (h0 : 0 ≤ ep) (h1 : ep ≤ 1048576) :
    Calls Tryz.prog 78 #[c.val, .int .i64 ep, .int .i64 id] w fun e w' => ∃ g gt mh mc ma ml mq : Nat, e = .returned (.tuple #[.pointer (some ⟨g, 0, none⟩), .int .i64 0]) ∧
      CoreIs w' g gt mh mc ma ml mq c ep id ⟨0, 0, -1, -1, default, default, false, default⟩ false false false [] [] [] ∧ (∀ k, k = g ∨ k = gt ∨ k = mh ∨ k = mc ∨ k = ma ∨ k = ml ∨ k = mq → w.heap.size ≤ k) ∧ g ≠ gt ∧ Bel w w' := by
  have hmm := @run_makeMap Tryz.prog
  obtain ⟨v1, v2, v3, v4⟩ := validB_iff.1 hv
  have G := Lib.hid (get?_new (w := w) 24 c)
  have HB := Lib.hid ((Bel.refl w).alloc (.cells (GConf.enc c).toArray 24))
  have e1 : ¬ ep < 0 := by omega
  have e2 : ¬ (1048576 : Int) < ep := by omega
  go_enter Tryz.func78, Tryz.ntmps78
  go_wp2_with fail
  refine (valid_is true c _ hv).mono ?_
  rintro _ w1 ⟨rfl, hb1⟩
  have HB1 := Lib.hid (HB.out.trans hb1)
  have g1 := GB.get hb1 G.out
  clear hb1
  go_wp2_with fail
  refine (in_is true c id _ hi (by omega) (by omega)).mono ?_
  rintro _ w2 ⟨rfl, hb2⟩
  have HB2 := Lib.hid (HB1.out.trans hb2)
  have g2 := GB.get hb2 g1
  have G2 := Lib.hid g2
  clear hb2 g1
  go_wp2_with fail
  refine (tallyNew_any c _ hv).mono ?_
  rintro _ w3 ⟨gt, mh, mc, ma, ml, rfl, ht, hh, ha, hl, l1, l2, l3, l4, l5, hb3⟩
  have g3 := GB.get hb3 g2
  have HB3 := Lib.hid (HB2.out.trans hb3)
  have hz := HB2.out.size
  have hz3 := hb3.size
  have HT := Lib.hid ht; have HH := Lib.hid hh; have HA := Lib.hid ha; have HL := Lib.hid hl
  have hgt := get?_lt ht
  clear hb3 g2 ht hh ha hl G2
  go_wp2_with fail
  go_ret2
  refine ⟨w3.heap.size + 1, gt, mh, mc, ma, ml, w3.heap.size, rfl, ⟨?_, ?_, ?_, ?_, ?_, ?_, ?_⟩, ?_, ?_, (HB3.out.alloc _).alloc _⟩
  · exact nw201 (w3.alloc (.map #[] 0)) (w3.heap.size + 1) ⟨c, ep, id, ⟨0, 0, -1, -1, default, default, false, default⟩, some ⟨gt, 0, none⟩, some w3.heap.size, false, false, false⟩ (by simp)
  · exact blkFree_new _ _ (by simp)
  · exact get?_alloc _ (get?_alloc _ HT.out)
  · exact mapAt_alloc _ (mapAt_new _ _ w3)
  · exact mapAt_alloc _ (mapAt_alloc _ HH.out)
  · exact mapAt_alloc _ (mapAt_alloc _ HA.out)
  · exact mapAt_alloc _ (mapAt_alloc _ HL.out)
  · rintro k (rfl | rfl | rfl | rfl | rfl | rfl | rfl) <;> omega
  · have := hgt; omega
set_option maxRecDepth 100000 in
set_option maxHeartbeats 1000000 in
theorem proposer_any (c : GConf) (f e r : Nat) (w : World) (hf : c.f = (f : Int)) (h1 : f ≤ 21) (he : e ≤ 1048576) (hr : r ≤ 1048577) :
    Calls Tryz.prog 98 #[c.val, .int .i64 (e : Int), .int .i64 (r : Int)] w fun x w' => x = .returned (.int .i64 (((e % (3 * f + 1) + r % (3 * f + 1)) % (3 * f + 1) : Nat) : Int)) ∧ Bel w w' := by
  have HF := Lib.hid hf
  have G := Lib.hid (get?_new (w := w) 24 c)
  have HB := Lib.hid ((Bel.refl w).alloc (.cells (GConf.enc c).toArray 24))
  obtain ⟨n, hn⟩ : ∃ n, 3 * f + 1 = n := ⟨_, rfl⟩
  have HN := Lib.hid (show 3 * c.f + 1 = (n : Int) by rw [hf, ← hn]; omega)
  have hn9 : 1 ≤ n ∧ n ≤ 64 := by omega
  have hn1 : ¬ (n : Int) < 1 := by omega
  rw [hn]
  have hE : (if 0 < e then (e : Int) else 0) = e := by split <;> omega
  have hR : (if 0 < r then (r : Int) else 0) = r := by split <;> omega
  clear hf
  go_enter Tryz.func98, Tryz.ntmps98
  go_wp2_with fail
  refine (n_any c _ (by have := HF.out; omega) (by have := HF.out; omega)).mono ?_
  rw [HN.out]
  rintro _ w1 ⟨rfl, hb1⟩
  have HB1 := Lib.hid (HB.out.trans hb1)
  clear hb1 hn
  go_wp2_with fail
  go_region
  go_wp2_with fail
  go_ret
  refine ⟨?_, HB1.out.drew⟩
  have b1 := Nat.mod_lt e (show 0 < n by omega)
  have b2 := Nat.mod_lt r (show 0 < n by omega)
  have a1 : (e : Int) % (n : Int) = ((e % n : Nat) : Int) := by omega
  have a2 : (r : Int) % (n : Int) = ((r % n : Nat) : Int) := by omega
  refine ret_int ?_
  have hw : wrap64 ((e : Int) % (n : Int) + (r : Int) % (n : Int)) = (e : Int) % (n : Int) + (r : Int) % (n : Int) := IntWalk.wrap64_in _ (by omega)
  rw [hw, Int.tmod_eq_emod_of_nonneg (by omega)]
  simp
end Go.Proofs.YtfhhcgldikmejaaGreatDoor
/- The core's rules, while none holds; its start. Conditions: those named in each theorem. -/
namespace Go.Proofs.YtfhhcgldikmejaaGreatDoor
open Go Go.RowKit Go.Gv Go.Proofs

section
variable {w : World} {g gt mh mc ma ml mq : Nat} {c : GConf} {ep id : Int} {s : GCoreState} {b1 b2 b3 : Bool} {H : List (GTallyVoter × Bool)} {A : List (GTallyTurn × Int)} {L : List (Int × Int)}
theorem CoreIs.cells (h : CoreIs w g gt mh mc ma ml mq c ep id s b1 b2 b3 H A L) :
    w.cell? ⟨g, 0, none⟩ = some (.int .i64 c.f) ∧ w.cell? ⟨g, 2, none⟩ = some (.int .i64 ep) ∧ w.cell? ⟨g, 3, none⟩ = some (.int .i64 id) ∧ w.cell? ⟨g, 4, none⟩ = some (.int .i64 s.round) ∧ w.cell? ⟨g, 5, none⟩ = some (.int .i64 s.step) ∧
    w.cell? ⟨g, 7, none⟩ = some (.int .i64 s.validRound) ∧ w.cell? ⟨g, 72, none⟩ = some (.bool s.decided) ∧ w.cell? ⟨g, 105, none⟩ = some (.pointer (some ⟨gt, 0, none⟩)) ∧ w.cell? ⟨g, 106, none⟩ = some (.map (some mq)) ∧
    w.cell? ⟨g, 107, none⟩ = some (.bool b1) ∧ w.cell? ⟨g, 108, none⟩ = some (.bool b2) ∧ w.cell? ⟨g, 109, none⟩ = some (.bool b3) ∧
    get? GConf w ⟨g, 0, none⟩ = some c ∧ get? GHash w ⟨g, 40, none⟩ = some s.valid ∧ w.cell? ⟨gt, 4, none⟩ = some (.map (some ma)) ∧ w.cell? ⟨gt, 5, none⟩ = some (.map (some ml)) := by
  have a0 := GConf.at_f (GCoreCore.at_c h.get)
  have a1 := GCoreCore.at_epoch h.get
  have a2 := GCoreCore.at_replica h.get
  have a3 := GCoreState.at_round (GCoreCore.at_s h.get)
  have a4 := GCoreState.at_step (GCoreCore.at_s h.get)
  have a5 := GCoreState.at_validRound (GCoreCore.at_s h.get)
  have a6 := GCoreState.at_decided (GCoreCore.at_s h.get)
  have a7 := GCoreCore.at_t h.get
  have a8 := GCoreCore.at_proposals h.get
  have a9 := GCoreCore.at_wasValid h.get
  have a10 := GCoreCore.at_setPrevote h.get
  have a11 := GCoreCore.at_setPrecommit h.get
  have a12 := GCoreCore.at_c h.get
  have a13 := GCoreState.at_valid (GCoreCore.at_s h.get)
  have a14 := GTallyTally.at_all h.tal
  have a15 := GTallyTally.at_last h.tal
  simp only [Addr.add_lit, Nat.zero_add, Nat.reduceAdd] at a0 a1 a2 a3 a4 a5 a6 a7 a8 a9 a10 a11 a12 a13 a14 a15
  exact ⟨a0, a1, a2, a3, a4, a5, a6, a7, a8, a9, a10, a11, a12, a13, a14, a15⟩
end
def allOf (A : List (GTallyTurn × Int)) (k r : Int) : Int := (mget A ⟨k, r⟩).getD 0
set_option maxRecDepth 100000 in
set_option maxHeartbeats 400000 in
theorem all_any (gt ma : Nat) (A : List (GTallyTurn × Int)) (k r : Int) (w : World) (f0 : w.cell? ⟨gt, 4, none⟩ = some (.map (some ma))) (hm : mapAt GTallyTurn Int w ma = some A) :
    Calls Tryz.prog 186 #[.pointer (some ⟨gt, 0, none⟩), .int .i64 k, .int .i64 r] w fun e w' => e = .returned (.int .i64 (allOf A k r)) ∧ w' = w := by
  go_enter Tryz.func186, Tryz.ntmps186
  go_wp2_with fail
  try go_region
  try go_wp2_with fail
  go_ret
  exact ⟨rfl, rfl⟩
set_option maxRecDepth 100000 in
set_option maxHeartbeats 1000000 in
theorem decided0_any (g gt mh mc ma ml mq : Nat) (c : GConf) (ep id : Int) (s : GCoreState) (b1 b2 b3 : Bool) (H : List (GTallyVoter × Bool)) (A : List (GTallyTurn × Int)) (L : List (Int × Int)) (w : World) (h : CoreIs w g gt mh mc ma ml mq c ep id s b1 b2 b3 H A L) :
    Calls Tryz.prog 182 #[.pointer (some ⟨g, 0, none⟩)] w fun e w' => e = .returned (.int .i64 (-1)) ∧ Bel w w' := by
  obtain ⟨_, _, _, _, _, _, _, _, f8, _⟩ := h.cells
  obtain ⟨o, hrg, hR⟩ := ranges_start (P := Tryz.prog) um199 h.props
  have hnx : ∀ ty : TypeId, (Instr.next (.pointer (some ⟨w.heap.size, 0, none⟩)) false ty).run Tryz.prog (w.alloc o) = .ok (.tuple #[.bool false]) (w.alloc o) := by
    rcases hR.next Tryz.prog with ⟨_, h⟩ | ⟨l1, p, l2, w', h, _⟩
    · exact h
    · cases l1 <;> cases h
  clear hR h
  go_enter Tryz.func182, Tryz.ntmps182
  go_wp2_with fail
  go_loopw [3] (fun v wr => v = .int .i64 (-1) ∧ wr = w.alloc o) (fun _ _ => 0)
  case atStart => exact ⟨rfl, rfl⟩
  case round =>
    obtain ⟨rfl, rfl⟩ := hrel
    go_wp2_with fail
    go_ret
    exact ⟨rfl, (Bel.refl w).alloc _⟩
set_option maxRecDepth 100000 in
set_option maxHeartbeats 1000000 in
theorem far_any (gt ml : Nat) (L : List (Int × Int)) (above many : Int) (w : World) (f0 : w.cell? ⟨gt, 5, none⟩ = some (.map (some ml))) (hm : mapAt Int Int w ml = some L) (hL : ∀ p ∈ L, p.2 ≤ above) :
    Calls Tryz.prog 183 #[.pointer (some ⟨gt, 0, none⟩), .int .i64 above, .int .i64 many] w fun e w' => e = .returned (.int .i64 (-1)) ∧ Bel w w' := by
  obtain ⟨o, hrg, hR⟩ := ranges_start (P := Tryz.prog) um334 hm
  have HR := Lib.hid hR; have HL := Lib.hid hL
  clear hR hm hL
  go_enter Tryz.func183, Tryz.ntmps183
  go_wp2_with fail
  go_loopw [7] (fun v wr => ∃ l, v = .int .i64 (-1) ∧ Hid (Ranges wr ml w.heap.size L l) ∧ (∀ p ∈ l, p ∈ L) ∧ Hid (Bel w wr)) (fun _ wr => wr.rangeLeft ml w.heap.size)
  case atStart => exact ⟨L, rfl, HR, fun p hp => hp, Lib.hid ((Bel.refl w).alloc _)⟩
  case round =>
    obtain ⟨l, rfl, hr, hsub, hb⟩ := hrel
    have hmz := hr.out.leftN
    rcases hr.out.next Tryz.prog with ⟨h0, hnx⟩ | ⟨l1, p, l2, w', hl, hnx, hR2, hg, hsz, hen⟩
    · clear hsub
      go_wp2_with fail
      go_ret
      exact ⟨rfl, hb.out⟩
    · have hp := HL.out p (hsub p (by rw [hl]; simp))
      have hn2 := hR2.leftN
      have hlen : (l1 ++ l2).length < l.length := by rw [hl]; simp
      have HR2 := Lib.hid hR2
      have HB2 := Lib.hid (show Bel w w' from Below.grown hb.out hg (hb.out.size) (fun k e => by injection e with e; omega))
      have HS2 := Lib.hid (show ∀ p ∈ l1 ++ l2, p ∈ L from fun q hq => hsub q (by rw [hl]; rcases List.mem_append.1 hq with h | h; exact List.mem_append_left _ h; exact List.mem_append_right _ (List.mem_cons_of_mem _ h)))
      obtain ⟨pk, pv⟩ := p
      have hpv : ¬ above < pv := by have := hp; simp only at this ⊢; omega
      change ∀ ty : TypeId, (Instr.next (.pointer (some ⟨w.heap.size, 0, none⟩)) false ty).run Tryz.prog wr = .ok (.tuple #[.bool true, .int .i64 pk, .int .i64 pv]) w' at hnx
      change (Instr.entry (.pointer (some ⟨w.heap.size, 0, none⟩))).run Tryz.prog w' = .ok (.tuple #[.int .i64 pk, .int .i64 pv]) w' at hen
      clear hsub hp hR2 hg hl
      go_wp2_with fail
      exact ⟨⟨l1 ++ l2, rfl, HR2, HS2.out, HB2⟩, by rw [hn2, hmz]; exact hlen⟩
end Go.Proofs.YtfhhcgldikmejaaGreatDoor
/- The core where no rule holds; a round entered; the start. Conditions: those named in each theorem. -/
namespace Go.Proofs.YtfhhcgldikmejaaGreatDoor
open Go Go.RowKit Go.Gv Go.Proofs

set_option maxRecDepth 100000 in
set_option maxHeartbeats 8000000 in
theorem rule0_any (g gt mh mc ma ml mq : Nat) (c : GConf) (ep id : Int) (s : GCoreState) (b1 b2 b3 : Bool) (H : List (GTallyVoter × Bool)) (A : List (GTallyTurn × Int)) (L : List (Int × Int)) (w : World) (h : CoreIs w g gt mh mc ma ml mq c ep id s b1 b2 b3 H A L) (hf : 1 ≤ c.f ∧ c.f ≤ 21) (hL : ∀ p ∈ L, p.2 ≤ s.round) (hst : s.step = 1) (hb3 : b3 = false) (hA : allOf A 2 s.round < 2 * c.f + 1) :
    Calls Tryz.prog 133 #[.pointer (some ⟨g, 0, none⟩)] w fun e w' => e = .returned (.tuple #[.slice none 0 0, .bool false]) ∧ Bel w w' := by
  subst hb3
  have HH := Lib.hid h; have HL := Lib.hid hL; have HA := Lib.hid hA
  have e1 : IntKind.i64.wrap (c.f + 1) = c.f + 1 := IntWalk.i64_in _ (by omega)
  have HST := Lib.hid hst
  clear h hL hA hst
  go_enter Tryz.func133, Tryz.ntmps133
  go_wp2_with fail
  refine (decided0_any g gt mh mc ma ml mq c ep id s b1 b2 false H A L w HH.out).mono ?_
  rintro _ w1 ⟨rfl, hb1⟩
  have HB1 := Lib.hid hb1
  have H1 := Lib.hid (HH.out.step hb1)
  clear hb1
  go_wp2_with fail
  refine wp_region_G GB [] GB.rf (by kernel_rfl) ?_
  refine wpG_looks 2 17 [0, 1, 2, 3, 4, 5, 6, 7, 8, 9, 10, 11, 12, 13, 14] rfl GB.rf GB.tr (by kernel_rfl) (fun _ _ _ _ hd h => And.intro (hd ▸ And.left h) (And.right h)) rfl (by kernel_rfl) ?_
  intro ι W hne CW
  have k0 := fun z => (H1.out.step (GB.undrew (CW.out z))).cells
  have k1 := fun z => (k0 z).1
  have k2 := fun z => (k0 z).2.2.2.1
  have k3 := fun z => (k0 z).2.2.2.2.2.2.2.1
  clear k0
  repeat (refine wpLooksG_step (fun K hK => ?_); go_simp; refine hK _ ?_; clear hK K)
  refine wpLooksG_nil ?_
  clear k1 k2 k3 CW hne W ι
  refine wpG_force 15 _ rfl (by kernel_rfl) rfl fun wa hwa K hK => ?_
  have HA1 := H1.out.step (GB.undrew hwa)
  go_simp
  refine (far_any gt ml L s.round (c.f + 1) wa HA1.cells.2.2.2.2.2.2.2.2.2.2.2.2.2.2.2 HA1.last HL.out).mono ?_
  rintro _ wb ⟨rfl, hbb⟩
  refine hK _ _ (fun _ => hbb) ?_
  clear hK K HA1
  refine wpG_force 16 _ rfl (by kernel_rfl) rfl fun wc hwc K hK => ?_
  go_simp
  refine hK _ _ (fun _ => GB.rf _) ?_
  clear hK K
  refine wpG_end (by kernel_rfl) (fun wn hwn => ?_) _
  have hbn := Bel.trans (GB.undrew hwa) (Bel.trans hbb (GB.tr _ _ _ hwc hwn))
  have HB2 := Lib.hid (HB1.out.trans hbn)
  have H2 := Lib.hid (H1.out.step hbn)
  clear hbn hwn hwc hbb hwa H1 HB1
  go_wp2_with fail
  have hgl : ¬ wn.heap.size ≤ g := by have := get?_lt H2.out.get; simp only at this; omega
  have hml : ¬ wn.heap.size ≤ mq := by have := mapAt_lt H2.out.props; omega
  have HGL := Lib.hid hgl; have HML := Lib.hid hml
  clear hgl hml
  have hmg : ∀ r : Int, mget ([] : List (Int × GCoreProposal)) r = none := fun _ => rfl
  refine wp_region_H GB (Chg (fun k => wn.heap.size ≤ k)) [13, 14, 15] [] GB.rf (by kernel_rfl) ?_
  refine wpH_looks 3 16 [0, 1, 2, 3, 4, 5, 6, 7, 8, 9, 10, 11, 12] rfl GB.rf GB.tr (Chg.refl _) (fun _ _ _ h k => h.tr k) (fun _ _ h => Chg.of_bel h _) (by kernel_rfl) (fun _ _ _ _ hd h => And.intro (hd ▸ And.left h) (And.right h)) rfl (by kernel_rfl) ?_
  intro ι W hne CW
  have k0 := H2.out.cells
  have k2 := fun z => (CW.out z).cell k0.2.2.2.1 HGL.out
  have k3 := fun z => (CW.out z).cell k0.2.2.2.2.2.2.2.2.1 HGL.out
  have k4 := fun z => (CW.out z).map H2.out.props HML.out
  clear k0
  repeat (refine wpLooksG_step (fun K hK => ?_); go_simp; refine hK _ ?_; clear hK K)
  refine wpLooksG_nil ?_
  clear k2 k3 k4 CW hne W ι
  refine wpH_force 13 _ rfl (by kernel_rfl) rfl fun wa hwa K hK => ?_
  have hz := (GB.undrew hwa).size
  have c6 := get?_new (w := wa) 306 (default : GCoreProposal)
  have b6 : blkFree (wa.alloc (.cells (GCoreProposal.enc default).toArray 306)) wa.heap.size = true := blkFree_new _ _ rfl
  go_simp
  refine hK _ _ (fun h => absurd (by simp) h) (fun _ => Chg.of_bel ((Bel.refl _).alloc _) _) ?_
  clear hK K
  have HBA := Lib.hid ((GB.undrew hwa).alloc (.cells (GCoreProposal.enc default).toArray 306) : Bel wn _)
  obtain ⟨g6, hg6⟩ : ∃ g6, wa.heap.size = g6 := ⟨_, rfl⟩
  rw [hg6] at c6 b6 hz ⊢
  generalize wa.alloc (.cells (GCoreProposal.enc default).toArray 306) = wa2 at c6 b6 HBA ⊢
  clear hwa hg6
  refine wpH_force 14 _ rfl (by kernel_rfl) rfl fun wb hwb K hK => ?_
  have d6 := GB.get hwb c6
  have e6 := (blkFree_keep (Below.block hwb _ (get?_lt c6))).trans b6
  go_simp
  refine hK _ _ (fun h => absurd (by simp) h) (fun _ => chg_put hz _) ?_
  clear hK K
  have HCB := Lib.hid (((Chg.of_bel (HBA.out.trans hwb) _).tr (chg_put (S := fun k => wn.heap.size ≤ k) hz (GCoreProposal.enc default))) : Chg (fun k => wn.heap.size ≤ k) wn (World.putCells wb ⟨g6, 0, none⟩ (GCoreProposal.enc default)))
  have d7 : get? GCoreProposal (World.putCells wb ⟨g6, 0, none⟩ (GCoreProposal.enc default)) ⟨g6, 0, none⟩ = some default := get?_putV _ d6
  generalize World.putCells wb ⟨g6, 0, none⟩ (GCoreProposal.enc default) = wb2 at HCB d7 ⊢
  clear hwb c6 b6 d6 e6 HBA hz
  refine wpH_force 15 _ rfl (by kernel_rfl) rfl fun wc hwc K hK => ?_
  go_simp
  refine hK _ _ (fun h => absurd (by simp) h) (fun _ => Chg.refl _ _) ?_
  clear hK K
  refine wpH_end (by kernel_rfl) (fun we hwe => ?_) _
  have HB3 := Lib.hid (HB2.out.trans ((HCB.out.tr (Chg.of_bel (GB.tr _ _ _ hwc hwe) _)).bel (fun k h => h)))
  have H3 := Lib.hid (H2.out.step ((HCB.out.tr (Chg.of_bel (GB.tr _ _ _ hwc hwe) _)).bel (fun k h => h)))
  clear hwe hwc HCB d7 HGL HML H2 HB2
  have k0 := H3.out.cells
  have k4 := k0.2.2.2.2.1
  rw [HST.out] at k4
  clear k0
  go_wp2_with fail
  refine wp_region_G GB [] GB.rf (by kernel_rfl) ?_
  refine wpG_looks 2 12 [0, 1, 2, 3, 4, 5, 6, 7, 8, 9] rfl GB.rf GB.tr (by kernel_rfl) (fun _ _ _ _ hd h => And.intro (hd ▸ And.left h) (And.right h)) rfl (by kernel_rfl) ?_
  intro ι W hne CW
  clear k4
  have k0 := fun z => (H3.out.step (GB.undrew (CW.out z))).cells
  have k1 := fun z => (k0 z).2.2.2.2.2.2.2.2.2.2.2.2.1
  have k2 := fun z => (k0 z).2.2.2.1
  clear k0
  refine wpLooksG_step (fun K hK => ?_); go_simp; refine hK _ ?_; clear hK K
  refine wpLooksG_step (fun K hK => ?_); go_simp; refine hK _ ?_; clear hK K
  refine wpLooksG_step (fun K hK => ?_); go_simp; refine hK _ ?_; clear hK K
  refine wpLooksG_step (fun K hK => ?_); go_simp; refine hK _ ?_; clear hK K
  refine wpLooksG_step (fun K hK => ?_)
  go_simp
  refine ⟨_, fun z => q_any c (W z) (by omega) (by omega), hK _ ?_⟩
  clear hK K
  repeat (refine wpLooksG_step (fun K hK => ?_); go_simp; refine hK _ ?_; clear hK K)
  refine wpLooksG_nil ?_
  clear k1 k2 CW hne W ι
  refine wpG_force 10 _ rfl (by kernel_rfl) rfl fun wa hwa K hK => ?_
  go_simp
  refine hK _ _ (fun _ => GB.rf _) ?_
  clear hK K
  refine wpG_force 11 _ rfl (by kernel_rfl) rfl fun wb hwb K hK => ?_
  go_simp
  refine hK _ _ (fun _ => GB.rf _) ?_
  clear hK K
  refine wpG_end (by kernel_rfl) (fun wn2 hwn => ?_) _
  have hbn := GB.undrew (GB.tr _ _ _ (GB.tr _ _ _ hwa hwb) hwn)
  have HB4 := Lib.hid (HB3.out.trans hbn)
  have H4 := Lib.hid (H3.out.step hbn)
  clear hbn hwn hwb hwa H3 HB3
  have k0 := H4.out.cells
  have k4 := k0.2.2.2.2.1
  rw [HST.out] at k4
  have k5 := k0.2.2.2.2.2.2.2.2.2.2.2.1
  have k6 := k0.2.2.2.2.2.2.2.1
  clear k0
  go_wp2_with fail
  go_big_quiet (fail)
  go_wp2_with fail
  have H5 := fun n => H4.out.step (bdN (Below.refl wn2.heap.size wn2) n)
  refine (all_any gt ma A 2 s.round _ (H5 _).cells.2.2.2.2.2.2.2.2.2.2.2.2.2.2.1 (H5 _).all).mono ?_
  obtain ⟨na, hna⟩ : ∃ na, allOf A 2 s.round = na := ⟨_, rfl⟩
  have hq9 : ¬ 2 * c.f + 1 ≤ na := by have := HA.out; rw [hna] at this; omega
  rw [hna]
  rintro _ w9 ⟨rfl, hw9⟩
  clear hna
  go_wp2_with fail
  go_ret2
  exact ⟨rfl, HB4.out.trans (bdN (Below.refl _ _) _)⟩
set_option maxRecDepth 100000 in
set_option maxHeartbeats 2000000 in
theorem settle0_any (g gt mh mc ma ml mq : Nat) (c : GConf) (ep id : Int) (s : GCoreState) (b1 b2 b3 : Bool) (H : List (GTallyVoter × Bool)) (A : List (GTallyTurn × Int)) (L : List (Int × Int)) (w : World) (h : CoreIs w g gt mh mc ma ml mq c ep id s b1 b2 b3 H A L) (hf : 1 ≤ c.f ∧ c.f ≤ 21) (hL : ∀ p ∈ L, p.2 ≤ s.round) (hst : s.step = 1) (hd : s.decided = false) (hb3 : b3 = false) (hA : allOf A 2 s.round < 2 * c.f + 1) :
    Calls Tryz.prog 84 #[.pointer (some ⟨g, 0, none⟩)] w fun e w' => e = .returned (.slice none 0 0) ∧ Bel w w' := by
  have HH := Lib.hid h; have HL := Lib.hid hL; have HA := Lib.hid hA; have HST := Lib.hid hst; have HD := Lib.hid hd; have HB3 := Lib.hid hb3; have HF := Lib.hid hf
  clear h hL hA hst hd hb3 hf
  go_enter Tryz.func84, Tryz.ntmps84
  go_wp2_with fail
  go_loopw [3] (fun ov wr => ov = .slice none 0 0 ∧ Hid (Bel w wr)) (fun _ _ => 0)
  case atStart => exact ⟨rfl, Lib.hid (Bel.refl w)⟩
  case round =>
    obtain ⟨rfl, hb⟩ := hrel
    have k0 := (HH.out.step hb.out).cells
    have k4 := k0.2.2.2.2.1
    rw [HST.out] at k4
    have k7 := k0.2.2.2.2.2.2.1
    rw [HD.out] at k7
    clear k0
    go_wp2_with fail
    refine (rule0_any g gt mh mc ma ml mq c ep id s b1 b2 b3 H A L wr (HH.out.step hb.out) HF.out HL.out HST.out HB3.out HA.out).mono ?_
    rintro _ w2 ⟨rfl, hb2⟩
    have HB2 := Lib.hid (hb.out.trans hb2)
    clear hb2 k4 k7
    go_wp2_with fail
    go_ret
    exact ⟨rfl, HB2.out⟩
set_option maxRecDepth 100000 in
set_option maxHeartbeats 400000 in
theorem timer_any (g gt mh mc ma ml mq : Nat) (c : GConf) (ep id : Int) (s : GCoreState) (b1 b2 b3 : Bool) (H : List (GTallyVoter × Bool)) (A : List (GTallyTurn × Int)) (L : List (Int × Int)) (w : World) (h : CoreIs w g gt mh mc ma ml mq c ep id s b1 b2 b3 H A L) (kind : Int) :
    Calls Tryz.prog 132 #[.pointer (some ⟨g, 0, none⟩), .int .i64 kind] w fun e w' => e = .returned (GCoreAct.val ⟨4, s.round, kind, default⟩) ∧ Bel w w' := by
  have k0 := h.cells
  have k2 := k0.2.2.2.1
  clear k0
  have hgl : g < w.heap.size := get?_lt h.get
  clear h
  go_enter Tryz.func132, Tryz.ntmps132
  go_wp2_with fail
  refine bodyPost_ret (results_cell (x := (⟨4, s.round, kind, default⟩ : GCoreAct)) rfl rfl ag193 sz193 (get?_new _ _)) rfl ⟨?_, (Bel.refl w).alloc _⟩
  simp only [GCoreAct.val_eq]
theorem core_round (x : GCoreCore) (v : Int) : Enc.enc ({ x with s := { x.s with round := v } } : GCoreCore) = (Enc.enc x).set 4 (.int .i64 v) := rfl
theorem core_step (x : GCoreCore) (v : Int) : Enc.enc ({ x with s := { x.s with step := v } } : GCoreCore) = (Enc.enc x).set 5 (.int .i64 v) := rfl
theorem core_b1 (x : GCoreCore) (v : Bool) : Enc.enc ({ x with wasValid := v } : GCoreCore) = (Enc.enc x).set 107 (.bool v) := by
  show GCoreCore.enc _ = (GCoreCore.enc _).set _ _
  simp [GCoreCore.enc, GConf.enc_len, GCoreState.enc_len]
theorem core_b2 (x : GCoreCore) (v : Bool) : Enc.enc ({ x with setPrevote := v } : GCoreCore) = (Enc.enc x).set 108 (.bool v) := by
  show GCoreCore.enc _ = (GCoreCore.enc _).set _ _
  simp [GCoreCore.enc, GConf.enc_len, GCoreState.enc_len]
theorem core_b3 (x : GCoreCore) (v : Bool) : Enc.enc ({ x with setPrecommit := v } : GCoreCore) = (Enc.enc x).set 109 (.bool v) := by
  show GCoreCore.enc _ = (GCoreCore.enc _).set _ _
  simp [GCoreCore.enc, GConf.enc_len, GCoreState.enc_len]
end Go.Proofs.YtfhhcgldikmejaaGreatDoor
