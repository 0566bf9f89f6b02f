/- A region that leaves its order of evaluation open: operations that only look may come in any order. Conditions: those named in each theorem. -/
import Derived.Test.YteockodnfempfaaAp
namespace Go.Gv
open Go Go.RowKit

/-! ### A region that draws its order: operations that only look come first, in whatever order; the rest comes in one forced order.
What looks must find the same in every world of a class (the worlds 'W z'); the rest must stay in the class. -/
section
variable {P : Program} {ops : Array Oper} {md : Region.Mode} {Q : Exit → Act → World → Prop} {ι : Type} {W : ι → World}

@[go_sem] def lookUpon (P : Program) (w : World) (v : Value) : Result Next → Prop
  | .ok (.value u) w' => w' = w ∧ u = v
  | .ok .skip w' => w' = w ∧ v = undef
  | .ok (.enter f args) w' => w' = w ∧ Calls P f args w (fun e w'' => e = .returned v ∧ ∃ m, w'' = w.drewN m)
  | _ => False
@[go_sem] def _root_.Go.Oper.looks (P : Program) (o : Oper) (a : Act) (W : ι → World) (next : Act → Prop) : Prop := ∃ v, (∀ z, lookUpon P (W z) v ((execOp a.eval o).run P (W z))) ∧ next (a.put o.dst v)

def YieldsL (P : Program) (ops : Array Oper) (W : ι → World) (o : Oper) (v : Value) (a : Act) : Prop :=
  (Region.wanted o (yielded ops a.tmps) = true ∧ ∀ z, lookUpon P (W z) v ((execOp a.eval o).run P (W z))) ∨ (Region.wanted o (yielded ops a.tmps) = false ∧ v = undef)
theorem YieldsL.of_same {o : Oper} {v : Value} {a a' : Act} (hy : YieldsL P ops W o v a) (he : execOp a'.eval o = execOp a.eval o)
    (hw : Region.wanted o (yielded ops a'.tmps) = Region.wanted o (yielded ops a.tmps)) : YieldsL P ops W o v a' := by
  unfold YieldsL at *
  rw [he, hw]
  exact hy
theorem YieldsL.wpOp {i : Nat} {o : Oper} {v : Value} {a : Act} {K : Act → World → Prop} (hi : ops[i]? = some o) (hy : YieldsL P ops W o v a) (z : ι) (h : ∀ m, K (a.put o.dst v) ((W z).drewN m)) : wpOp P ops Q i K a (W z) := by
  have h0 : K (a.put o.dst v) (W z) := h 0
  unfold Go.wpOp
  simp only [hi]
  rcases hy with ⟨hw, hv⟩ | ⟨hw, rfl⟩
  · simp only [hw, if_true]
    refine .inl ?_
    have hz := hv z
    unfold Oper.wp
    generalize (execOp a.eval o).run P (W z) = r at hz
    cases r with
    | ok n w' =>
      cases n <;> simp only [lookUpon] at hz <;> simp only [Oper.upon]
      case value u => obtain ⟨rfl, rfl⟩ := hz; exact h0
      case skip => obtain ⟨rfl, rfl⟩ := hz; exact h0
      case enter f args =>
        obtain ⟨rfl, hc⟩ := hz
        refine hc.mono fun e w'' ⟨he, m, hm⟩ => ?_
        subst he; subst hm; exact h m
    | halt x w' => simp only [lookUpon] at hz
  · simp only [hw, Bool.false_eq_true, if_false]; exact h0

theorem wpOp_putL {j : Nat} {oi oj : Oper} {v : Value} {w : World} (hj : ops[j]? = some oj) (hap : oi.apart ops oj = true)
    (hsi : ∀ cs b, oi.op ≠ .select cs b) (hsj : ∀ cs b, oj.op ≠ .select cs b)
    (hQ : ∀ c a w, Q (.panic c) (a.put oi.dst v) w → Q (.panic c) a w) {K : Act → World → Prop} {a : Act}
    (hy : YieldsL P ops W oi v a) (h : wpOp P ops Q j K (a.put oi.dst v) w) :
    wpOp P ops Q j (fun a' w' => YieldsL P ops W oi v a' ∧ K (a'.put oi.dst v) w') a w := by
  obtain ⟨h1, h2, h3⟩ := Oper.apart_spec hap
  have keep : ∀ (a : Act), YieldsL P ops W oi v a → ∀ u, YieldsL P ops W oi v (a.put oj.dst u) := fun a hy u =>
    hy.of_same (execOp_put oi hsi a oj.dst u h3) (wanted_put oi a oj.dst u h3)
  have keepD : ∀ d, YieldsL P ops W oi v { a with defers := d :: a.defers } := fun d => hy.of_same rfl rfl
  unfold Go.wpOp at *
  simp only [hj] at *
  rw [wanted_put oj a oi.dst v h1] at h
  split
  · rename_i hw
    simp only [hw, if_true] at h
    rcases h with h | ⟨hasks, hlets⟩
    case inr => exact .inr ⟨by unfold Oper.asks at *; rw [execOp_put oj hsj a oi.dst v h1] at hasks; exact hasks, hlets⟩
    refine .inl ?_
    unfold Oper.wp at *
    rw [execOp_put oj hsj a oi.dst v h1] at h
    generalize (execOp a.eval oj).run P w = r at *
    cases r with
    | ok n w' =>
      cases n <;> simp only [Oper.upon] at h ⊢
      case value u => exact ⟨keep a hy u, by rw [← Act.put_comm a v u h2]; exact h⟩
      case skip => exact ⟨keep a hy _, by rw [← Act.put_comm a v undef h2]; exact h⟩
      case defer d =>
        refine ⟨keep _ (keepD d) _, ?_⟩
        rw [← Act.put_comm _ v undef h2, ← Act.put_defers]
        exact h
      case enter f args =>
        refine Calls.mono h fun e w'' he => ?_
        cases e with
        | returned u => exact ⟨keep a hy u, by rw [← Act.put_comm a v u h2]; exact he⟩
        | panicked c => exact hQ _ _ _ he
        | outgrown => exact he
      case row row args => exact Rows.mono h fun u w'' he => ⟨keep a hy u, by rw [← Act.put_comm a v u h2]; exact he⟩
    | halt x w' =>
      cases x <;> simp only [Oper.upon] at h ⊢
      case panic u => exact hQ _ _ _ h
  · rename_i hw
    simp only [hw] at h
    exact ⟨keep a hy _, by rw [← Act.put_comm a v undef h2]; exact h⟩

/-- Whatever order is picked from here on, after whatever further draws; every world on the way is of the class. -/
def wpE (P : Program) (md : Region.Mode) (ops : Array Oper) (Q : Exit → Act → World → Prop) (W : ι → World) : Nat → Array Bool → Act → World → Prop
  | 0, listed, a, w => Region.ready md ops listed = [] ∧ ∀ n, Q .normal a (w.drewN n)
  | fuel + 1, listed, a, w =>
    (Region.ready md ops listed = [] → ∀ n, Q .normal a (w.drewN n)) ∧
    ∀ i ∈ Region.ready md ops listed, ∀ n, wpOp P ops Q i (fun a' w' => (∃ z, w' = W z) ∧ wpE P md ops Q W fuel (listed.setIfInBounds i true) a' w') a (w.drewN n)
theorem wpE_drew {fuel : Nat} {listed : Array Bool} {a : Act} {w : World} (h : wpE P md ops Q W fuel listed a w) (m : Nat) : wpE P md ops Q W fuel listed a (w.drewN m) := by
  cases fuel with
  | zero => exact ⟨h.1, fun n => by rw [World.drewN_drewN]; exact h.2 _⟩
  | succ f => exact ⟨fun h0 n => by rw [World.drewN_drewN]; exact h.1 h0 _, fun i hi n => by rw [World.drewN_drewN]; exact h.2 i hi _⟩
theorem wpAny_of_E : ∀ (fuel : Nat) (listed : Array Bool) (a : Act) (w : World), wpE P md ops Q W fuel listed a w → wpAny P md ops Q fuel listed a w
  | 0, _, _, _, h => ⟨h.1, h.2 0⟩
  | fuel + 1, _, _, _, h => ⟨fun h0 => h.1 h0 0, fun i hi => wpOp_mono (fun a' w' h' => wpAny_of_E fuel _ a' w' h'.2) (h.2 i hi 0)⟩

theorem wpE_first {i : Nat} {oi : Oper} {v : Value} (hcl : ∀ z n, ∃ z', (W z).drewN n = W z') (hi : ops[i]? = some oi) (hsel : ∀ (j : Nat) (o : Oper) cs b, ops[j]? = some o → o.op ≠ .select cs b)
    (hQ : ∀ c (a a' : Act) w, a.defers = a'.defers → Q (.panic c) a w → Q (.panic c) a' w) :
    ∀ (fuel : Nat) (listed : Array Bool) (a : Act) (z : ι),
      (∀ j oj, ops[j]? = some oj → j ≠ i → listed.getD j true = false → (∀ e ∈ oj.after, Region.binds md e = true → e.on ≠ i) → oi.apart ops oj = true) →
      i ∈ Region.ready md ops listed → YieldsL P ops W oi v a →
      wpE P md ops Q W fuel (listed.setIfInBounds i true) (a.put oi.dst v) (W z) → wpE P md ops Q W (fuel + 1) listed a (W z) := by
  intro fuel
  induction fuel with
  | zero =>
    intro listed a z _ hr hy H
    refine ⟨fun h => (by rw [h] at hr; cases hr), fun j hj n => ?_⟩
    by_cases hji : j = i
    · subst hji
      obtain ⟨z1, hz1⟩ := hcl z n
      rw [hz1]
      refine hy.wpOp hi z1 fun m => ⟨hcl z1 m, ?_⟩
      rw [← hz1]; exact wpE_drew (wpE_drew H n) m
    · have := ready_mono hj hji
      rw [H.1] at this
      cases this
  | succ fuel ih =>
    intro listed a z hfree hr hy H
    refine ⟨fun h => (by rw [h] at hr; cases hr), fun j hj n => ?_⟩
    by_cases hji : j = i
    · subst hji
      obtain ⟨z1, hz1⟩ := hcl z n
      rw [hz1]
      refine hy.wpOp hi z1 fun m => ⟨hcl z1 m, ?_⟩
      rw [← hz1]; exact wpE_drew (wpE_drew H n) m
    · have h1 := H.2 j (ready_mono hj hji) n
      obtain ⟨hjun, oj, hoj, hall⟩ := mem_ready.1 hj
      have hnot : ∀ e ∈ oj.after, Region.binds md e = true → e.on ≠ i := fun e he hb heq => by
        have h1 := hall e he hb
        have h0 := (mem_ready.1 hr).1
        rw [heq] at h1
        rcases Nat.lt_or_ge i listed.size with h' | h'
        · simp [h'] at h0 h1; rw [h0] at h1; cases h1
        · simp [Array.getElem?_eq_none h'] at h1
      have h2 := wpOp_putL hoj (hfree j oj hoj hji hjun hnot) (fun cs b => hsel i oi cs b hi) (fun cs b => hsel j oj cs b hoj) (fun c a w h => hQ c _ _ w (by cases oi.dst <;> rfl) h) hy h1
      have hfree' : ∀ k ok, ops[k]? = some ok → k ≠ i → (listed.setIfInBounds j true).getD k true = false →
          (∀ e ∈ ok.after, Region.binds md e = true → e.on ≠ i) → oi.apart ops ok = true := fun k ok hk hki hun hno => by
        refine hfree k ok hk hki ?_ hno
        by_cases hjk : j = k
        · subst hjk; exact hjun
        · rw [getD_set_ne true hjk] at hun; exact hun
      refine wpOp_mono (fun a' w' h3 => ⟨h3.2.1, ?_⟩) h2
      obtain ⟨hy', ⟨z2, hz2⟩, h4⟩ := h3
      rw [hz2] at h4 ⊢
      refine ih (listed.setIfInBounds j true) a' z2 hfree' (ready_mono hr (Ne.symm hji)) hy' ?_
      rw [Array.setIfInBounds_comm _ _ hji]
      exact h4

/-- The first part, as it is walked. -/
def wpLooks (P : Program) (ops : Array Oper) (W : ι → World) (K : Act → Prop) : List Oper → Act → Prop
  | [], a => K a
  | o :: rest, a => if Region.wanted o (yielded ops a.tmps) then o.looks P a W (wpLooks P ops W K rest) else wpLooks P ops W K rest (a.put o.dst undef)
/-- The second part, as it is walked. -/
def wpRest (P : Program) (ops : Array Oper) (Q : Exit → Act → World → Prop) (W : ι → World) : List Oper → Act → World → Prop
  | [], a, w => ∀ n, Q .normal a (w.drewN n)
  | o :: rest, a, w => ∀ n, if Region.wanted o (yielded ops a.tmps) then o.wp P a (w.drewN n) (fun a' w' => (∃ z, w' = W z) ∧ wpRest P ops Q W rest a' w') Q else (∃ z, w.drewN n = W z) ∧ wpRest P ops Q W rest (a.put o.dst undef) (w.drewN n)

def seqL (md : Region.Mode) (ops : Array Oper) : List Nat → Array Bool → Bool
  | [], listed => (Region.ready md ops listed).isEmpty
  | t :: tl, listed => decide (Region.ready md ops listed = [t]) && seqL md ops tl (listed.setIfInBounds t true)
def permB (md : Region.Mode) (ops : Array Oper) (tl : List Nat) : List Nat → Array Bool → Bool
  | [], listed => seqL md ops tl listed
  | i :: hd, listed => (Region.ready md ops listed).contains i && Region.free md ops listed i && permB md ops tl hd (listed.setIfInBounds i true)

theorem wpE_of_rest : ∀ (tl : List Nat) (l : List Oper) (listed : Array Bool) (a : Act) (w : World), tl.mapM (fun i => ops[i]?) = some l → seqL md ops tl listed = true → wpRest P ops Q W l a w → wpE P md ops Q W tl.length listed a w
  | [], l, listed, a, w, hl, hB, h => by
    simp at hl; subst hl
    exact ⟨by simpa [seqL] using hB, h⟩
  | t :: tl, l, listed, a, w, hl, hB, h => by
    simp only [List.mapM_cons, Option.bind_eq_bind, Option.pure_def] at hl
    cases ht : ops[t]? with
    | none => simp [ht] at hl
    | some o =>
      cases hr : tl.mapM (fun i => ops[i]?) with
      | none => simp [ht, hr] at hl
      | some l' =>
        simp [ht, hr] at hl
        subst hl
        simp only [seqL, Bool.and_eq_true, decide_eq_true_eq] at hB
        refine ⟨fun h1 => (by rw [hB.1] at h1; cases h1), fun i hi n => ?_⟩
        rw [hB.1] at hi
        obtain rfl : i = t := by simpa using hi
        have hn := h n
        unfold Go.wpOp
        simp only [ht]
        split
        · rename_i hw
          rw [if_pos hw] at hn
          exact .inl (Oper.wp_mono (fun a' w' h' => ⟨h'.1, wpE_of_rest tl l' _ a' w' hr hB.2 h'.2⟩) hn)
        · rename_i hw
          rw [if_neg hw] at hn
          exact ⟨hn.1, wpE_of_rest tl l' _ _ _ hr hB.2 hn.2⟩
theorem wpE_of_looks (hcl : ∀ z n, ∃ z', (W z).drewN n = W z') (hs : Region.noSelect ops = true) (hQ : ∀ c (a a' : Act) w, a.defers = a'.defers → Q (.panic c) a w → Q (.panic c) a' w) (tl : List Nat) (lt : List Oper) (ht : tl.mapM (fun i => ops[i]?) = some lt) (z : ι) :
    ∀ (hd : List Nat) (lh : List Oper) (listed : Array Bool) (a : Act), hd.mapM (fun i => ops[i]?) = some lh → permB md ops tl hd listed = true →
    wpLooks P ops W (fun a' => wpRest P ops Q W lt a' (W z)) lh a → wpE P md ops Q W (hd.length + tl.length) listed a (W z)
  | [], lh, listed, a, hl, hB, h => by
    simp at hl; subst hl
    simpa using wpE_of_rest tl lt listed a _ ht hB h
  | i :: hd, lh, listed, a, hl, hB, h => by
    simp only [List.mapM_cons, Option.bind_eq_bind, Option.pure_def] at hl
    cases hi : ops[i]? with
    | none => simp [hi] at hl
    | some o =>
      cases hr : hd.mapM (fun i => ops[i]?) with
      | none => simp [hi, hr] at hl
      | some l' =>
        simp [hi, hr] at hl
        subst hl
        simp only [permB, Bool.and_eq_true] at hB
        have hrd : i ∈ Region.ready md ops listed := by simpa using hB.1.1
        rw [show (i :: hd).length + tl.length = (hd.length + tl.length) + 1 by simp; omega]
        unfold wpLooks at h
        split at h
        · rename_i hw
          obtain ⟨v, hv, hk⟩ := h
          exact wpE_first hcl hi (Region.noSelect_spec hs) hQ _ listed a z (Region.free_spec hi hB.1.2) hrd (.inl ⟨hw, hv⟩) (wpE_of_looks hcl hs hQ tl lt ht z hd l' _ _ hr hB.2 hk)
        · rename_i hw
          exact wpE_first hcl hi (Region.noSelect_spec hs) hQ _ listed a z (Region.free_spec hi hB.1.2) hrd (.inr ⟨by simpa using hw, rfl⟩) (wpE_of_looks hcl hs hQ tl lt ht z hd l' _ _ hr hB.2 h)

/-- The whole: hd, tl: the operations' numbers. -/
theorem wp_region_looks {id : Nat} {a : Act} {w : World} {l lh lt : List Oper} (hd tl : List Nat) (W : ι → World) (hcl : ∀ z n, ∃ z', (W z).drewN n = W z') (z : ι) (hz : w.drew = W z)
    (hm : P.follows .mixedOrders = true) (hh : hd.mapM (fun i => l.toArray[i]?) = some lh) (ht : tl.mapM (fun i => l.toArray[i]?) = some lt)
    (hB : (Region.noSelect l.toArray && permB .any l.toArray tl hd (Array.replicate l.toArray.size false) && (hd.length + tl.length == l.toArray.size)) = true)
    (hQ : ∀ c (a a' : Act) w, a.defers = a'.defers → Q (.panic c) a w → Q (.panic c) a' w)
    (h : wpLooks P l.toArray W (fun a' => wpRest P l.toArray Q W lt a' w.drew) lh a) : (Code.region id l.toArray true).wp P Q a w := by
  simp only [Bool.and_eq_true, beq_iff_eq] at hB
  refine wp_region_any hm ?_
  rw [hz] at h
  have H := wpE_of_looks hcl hB.1.1 hQ tl lt ht z hd lh _ a hh hB.1.2 h
  rw [hB.2, ← hz] at H
  exact wpAny_of_E _ _ _ _ H

/-- A class of worlds as a family, with its shape hidden. -/
theorem classFam (C : World → Prop) {w : World} (h : C w) : ∃ (ι : Type) (W : ι → World), Nonempty ι ∧ (∀ z, C (W z)) ∧ ∀ w', C w' → ∃ z, w' = W z :=
  ⟨{w' // C w'}, Subtype.val, ⟨⟨w, h⟩⟩, fun z => z.2, fun w' h => ⟨⟨w', h⟩, rfl⟩⟩
theorem wpLooks_nil {K : Act → Prop} {a : Act} (h : K a) : wpLooks P ops W K [] a := h
theorem wpLooks_step {K0 : Act → Prop} {a : Act} {o : Oper} {rest : List Oper}
    (h : ∀ K : Act → Prop, (∀ a, wpLooks P ops W K0 rest a → K a) → if Region.wanted o (yielded ops a.tmps) then o.looks P a W K else K (a.put o.dst undef)) : wpLooks P ops W K0 (o :: rest) a :=
  h _ (fun _ h => h)
theorem wpRest_nil {a : Act} {w : World} (h : ∀ n, Q .normal a (w.drewN n)) : wpRest P ops Q W [] a w := h
theorem wpRest_step {a : Act} {w : World} {o : Oper} {rest : List Oper} (hg : o.guard = none)
    (h : ∀ n, ∀ K : Act → World → Prop, (∀ a w, (∃ z, w = W z) → wpRest P ops Q W rest a w → K a w) → o.wp P a (w.drewN n) K Q) : wpRest P ops Q W (o :: rest) a w := fun n => by
  rw [if_pos (by simp [Region.wanted, hg])]
  exact h n _ (fun _ _ h1 h2 => ⟨h1, h2⟩)
theorem eval_drewN (w : World) (n : Nat) : (w.drewN n).heap = w.heap := rfl
theorem rest_build1 {α : Type} [Enc α] {t e : TypeId} {by8 : Nat} {a : Act} {w : World} {o : Oper} {rest : List Oper} (hg : o.guard = none) (y : Operand) (ho : o.op = .buildSlice t 1 #[(0, y)]) (E : ElemI P t e α by8) (hsmall : Enc.n α ≤ 16777216) (x : α)
    (hy : a.eval y = .agg (Enc.enc x).toArray) (hcls : ∀ n, ∃ z, (w.drewN n).alloc (.cells (Enc.enc x).toArray e) = W z)
    (h : ∀ n, wpRest P ops Q W rest (a.put o.dst (.slice (some ⟨w.heap.size, 0, none⟩) 1 1)) ((w.drewN n).alloc (.cells (Enc.enc x).toArray e))) : wpRest P ops Q W (o :: rest) a w :=
  wpRest_step hg fun n K hK => by
    have := run_buildSlice_one E hsmall x (w.drewN n)
    unfold gBuildSlice at this
    unfold Oper.wp execOp
    simp only [ho, Sem.run_bind, List.map_toArray, List.map_cons, List.map_nil, hy]
    rw [this]
    exact hK _ _ (hcls n) (h n)
theorem rest_append_S {α : Type} [Enc α] {t e : TypeId} {by8 base B : Nat} {xs ys : List α} {v : Value} {a : Act} {w : World} {o : Oper} {rest : List Oper} (hg : o.guard = none) (s x : Operand)
    (ho : o.op = .call { callee := .builtin .append, args := #[s, x], argTypes := #[t, t] }) (E : ElemI P t e α by8)
    (hs : a.eval s = v) (hown : OwnS w base e v xs) {A : Option Addr} {m c : Nat} (hx : a.eval x = .slice A m c) (hr : Sl α w B A m ys) (h63 : xs.length + m ≤ maxLen) (hbytes : (xs.length + m) * by8 ≤ 140737488355328) (hbase : base ≤ w.heap.size)
    (hcls : ∀ n w', (w.drewN n).grownBy w' v.ownBlock → ∃ z, w' = W z)
    (h : ∀ n v' w', OwnS w' base e v' (xs ++ ys) → (w.drewN n).grownBy w' v.ownBlock → (v'.ownBlock = v.ownBlock ∨ v'.ownBlock = some w.heap.size) → wpRest P ops Q W rest (a.put o.dst v') w') : wpRest P ops Q W (o :: rest) a w :=
  wpRest_step hg fun n K hK => wp_append_S s x t ho E hs (hown.drewN n) hx (hr.drewN_ n) h63 hbytes hbase fun v' w' h2 h3 h4 => hK _ _ (hcls n w' h3) (h n v' w' h2 h3 h4)
theorem rest_assign {a : Act} {w : World} {o : Oper} {rest : List Oper} (hg : o.guard = none) (x : Operand) (ho : o.op = .assign x) (hcls : ∀ n, ∃ z, w.drewN n = W z)
    (h : ∀ n, wpRest P ops Q W rest (a.put o.dst (a.eval x)) (w.drewN n)) : wpRest P ops Q W (o :: rest) a w :=
  wpRest_step hg fun n K hK => by
    unfold Oper.wp execOp
    simp only [ho, Sem.run_pure]
    exact hK _ _ (hcls n) (h n)
theorem rest_value {a : Act} {w : World} {o : Oper} {rest : List Oper} (hg : o.guard = none) (v : Value) (w1 : Nat → World) (hr : ∀ n, (execOp a.eval o).run P (w.drewN n) = .ok (.value v) (w1 n)) (hcls : ∀ n, ∃ z, w1 n = W z)
    (h : ∀ n, wpRest P ops Q W rest (a.put o.dst v) (w1 n)) : wpRest P ops Q W (o :: rest) a w :=
  wpRest_step hg fun n K hK => by
    unfold Oper.wp
    rw [hr n]
    exact hK _ _ (hcls n) (h n)
theorem rest_skip {a : Act} {w : World} {o : Oper} {rest : List Oper} (hg : o.guard = none) (w1 : Nat → World) (hr : ∀ n, (execOp a.eval o).run P (w.drewN n) = .ok .skip (w1 n)) (hcls : ∀ n, ∃ z, w1 n = W z)
    (h : ∀ n, wpRest P ops Q W rest (a.put o.dst undef) (w1 n)) : wpRest P ops Q W (o :: rest) a w :=
  wpRest_step hg fun n K hK => by
    unfold Oper.wp
    rw [hr n]
    exact hK _ _ (hcls n) (h n)
theorem rest_call {a : Act} {w : World} {o : Oper} {rest : List Oper} (hg : o.guard = none) (f : FuncId) (args : Array Value) (R : Value → World → Prop) (hr : ∀ n, (execOp a.eval o).run P (w.drewN n) = .ok (.enter f args) (w.drewN n)) (hc : ∀ n, Calls P f args (w.drewN n) fun e w' => ∃ v, e = .returned v ∧ R v w') (hcls : ∀ v w', R v w' → ∃ z, w' = W z)
    (h : ∀ v w', R v w' → wpRest P ops Q W rest (a.put o.dst v) w') : wpRest P ops Q W (o :: rest) a w :=
  wpRest_step hg fun n K hK => by
    unfold Oper.wp
    rw [hr n]
    refine (hc n).mono fun e w' ⟨v, he, hR⟩ => ?_
    subst he
    exact hK _ _ (hcls v w' hR) (h v w' hR)
theorem putCells_drewN (w : World) (a : Addr) (cs : List Value) (n : Nat) : World.putCells (w.drewN n) a cs = (World.putCells w a cs).drewN n := by
  unfold World.putCells
  have : ∀ (cs : List Value) (i : Nat) (w : World), World.putFrom (w.drewN n) a i cs = (World.putFrom w a i cs).drewN n := by
    intro cs
    induction cs with
    | nil => intro i w; rfl
    | cons v vs ih => intro i w; exact ih _ (w.setCell (a.add i) v)
  exact this cs 0 w
/-- A new variable of a struct's type, and the value stored into it. -/
theorem rest_new {α : Type} [Enc α] {t : TypeId} {a : Act} {w : World} {o1 o2 : Oper} {rest : List Oper} (hg1 : o1.guard = none) (hg2 : o2.guard = none) (x y : Operand) (ho1 : o1.op = .alloc t) (ho2 : o2.op = .store t x y) (z u : α)
    (hal : ∀ w, (gAlloc t).run P w = .ok (.pointer (some ⟨w.heap.size, 0, none⟩)) (w.alloc (.cells (Enc.enc z).toArray t))) (ha : sizeT P t = Enc.n α)
    (hx : (a.put o1.dst (.pointer (some ⟨w.heap.size, 0, none⟩))).eval x = .pointer (some ⟨w.heap.size, 0, none⟩)) (hy : (a.put o1.dst (.pointer (some ⟨w.heap.size, 0, none⟩))).eval y = .agg (Enc.enc u).toArray)
    (hcls : ∀ n m (v : α), ∃ zz, ((w.drewN n).alloc (.cells (Enc.enc v).toArray t)).drewN m = W zz)
    (h : ∀ n m, wpRest P ops Q W rest ((a.put o1.dst (.pointer (some ⟨w.heap.size, 0, none⟩))).put o2.dst undef) (((w.drewN n).alloc (.cells (Enc.enc u).toArray t)).drewN m)) : wpRest P ops Q W (o1 :: o2 :: rest) a w := by
  refine rest_value hg1 (.pointer (some ⟨w.heap.size, 0, none⟩)) (fun n => (w.drewN n).alloc (.cells (Enc.enc z).toArray t)) (fun n => ?_) (fun n => hcls n 0 z) fun n => ?_
  · have := hal (w.drewN n)
    unfold gAlloc at this
    unfold execOp
    simp only [ho1, Sem.run_bind]
    rw [this]; rfl
  · refine rest_skip hg2 (fun m => ((w.drewN n).alloc (.cells (Enc.enc u).toArray t)).drewN m) (fun m => ?_) (fun m => hcls n m u) fun m => h n m
    have hst := run_gStore (P := P) (t := t) (w := ((w.drewN n).alloc (.cells (Enc.enc z).toArray t)).drewN m) (a := ⟨w.heap.size, 0, none⟩) ha u (by
      rw [get?_drewN]
      have := get?_new (w := w.drewN n) t z
      exact Option.isSome_iff_exists.2 ⟨z, this⟩) (by rw [blkFree_drewN]; exact blkFree_new _ _ rfl)
    rw [putCells_drewN, show World.putCells ((w.drewN n).alloc (.cells (Enc.enc z).toArray t)) ⟨w.heap.size, 0, none⟩ (Enc.enc u) = (w.drewN n).alloc (.cells (Enc.enc u).toArray t) from putCells_top (w := w.drewN n) u z rfl] at hst
    unfold gStore at hst
    unfold execOp
    simp only [ho2, Sem.run_bind, hx, hy]
    rw [hst]; rfl
end
end Go.Gv
