/- Zero values written as literals. Conditions: none. -/
import Derived.Test.YthkifibmihijaaaGreatDoorP1
import Derived.BigRegion
import Derived.Deep.RegionWith
import Derived.Maps.RangeWalk
import Derived.Test.YthkifibmihijaaaGreatDoorP3
/- A region that leaves its order of evaluation open: operations that only look may come in any order. Conditions: those named in each theorem. -/
namespace Go.Gv
open Go Go.RowKit

/-! ### A region that draws its order: operations that only look come first, in whatever order; the rest comes in one forced order.
What looks must find the same in every world of a class (the worlds 'W z'); the rest must stay in the class. -/
section
variable {P : Program} {ops : Array Oper} {md : Region.Mode} {Q : Exit → Act → World → Prop} {ι : Type} {W : ι → World}

@[go_sem] def lookUpon (P : Program) (w : World) (v : Value) : Result Next → Prop
  | .ok (.value u) w' => w' = w ∧ u = v
  | .ok .skip w' => w' = w ∧ v = undef
  | .ok (.enter f args) w' => w' = w ∧ Calls P f args w (fun e w'' => e = .returned v ∧ ∃ m, w'' = w.drewN m)
  | _ => False
@[go_sem] def _root_.Go.Oper.looks (P : Program) (o : Oper) (a : Act) (W : ι → World) (next : Act → Prop) : Prop := ∃ v, (∀ z, lookUpon P (W z) v ((execOp a.eval o).run P (W z))) ∧ next (a.put o.dst v)

def YieldsL (P : Program) (ops : Array Oper) (W : ι → World) (o : Oper) (v : Value) (a : Act) : Prop :=
  (Region.wanted o (yielded ops a.tmps) = true ∧ ∀ z, lookUpon P (W z) v ((execOp a.eval o).run P (W z))) ∨ (Region.wanted o (yielded ops a.tmps) = false ∧ v = undef)
theorem YieldsL.of_same {o : Oper} {v : Value} {a a' : Act} (hy : YieldsL P ops W o v a) (he : execOp a'.eval o = execOp a.eval o)
    (hw : Region.wanted o (yielded ops a'.tmps) = Region.wanted o (yielded ops a.tmps)) : YieldsL P ops W o v a' := by
  unfold YieldsL at *
  rw [he, hw]
  exact hy
theorem YieldsL.wpOp {i : Nat} {o : Oper} {v : Value} {a : Act} {K : Act → World → Prop} (hi : ops[i]? = some o) (hy : YieldsL P ops W o v a) (z : ι) (h : ∀ m, K (a.put o.dst v) ((W z).drewN m)) : wpOp P ops Q i K a (W z) := by
  have h0 : K (a.put o.dst v) (W z) := h 0
  unfold Go.wpOp
  simp only [hi]
  rcases hy with ⟨hw, hv⟩ | ⟨hw, rfl⟩
  · simp only [hw, if_true]
    refine .inl ?_
    have hz := hv z
    unfold Oper.wp
    generalize (execOp a.eval o).run P (W z) = r at hz
    cases r with
    | ok n w' =>
      cases n <;> simp only [lookUpon] at hz <;> simp only [Oper.upon]
      case value u => obtain ⟨rfl, rfl⟩ := hz; exact h0
      case skip => obtain ⟨rfl, rfl⟩ := hz; exact h0
      case enter f args =>
        obtain ⟨rfl, hc⟩ := hz
        refine hc.mono fun e w'' ⟨he, m, hm⟩ => ?_
        subst he; subst hm; exact h m
    | halt x w' => simp only [lookUpon] at hz
  · simp only [hw, Bool.false_eq_true, if_false]; exact h0

theorem wpOp_putL {j : Nat} {oi oj : Oper} {v : Value} {w : World} (hj : ops[j]? = some oj) (hap : oi.apart ops oj = true)
    (hsi : ∀ cs b, oi.op ≠ .select cs b) (hsj : ∀ cs b, oj.op ≠ .select cs b)
    (hQ : ∀ c a w, Q (.panic c) (a.put oi.dst v) w → Q (.panic c) a w) {K : Act → World → Prop} {a : Act}
    (hy : YieldsL P ops W oi v a) (h : wpOp P ops Q j K (a.put oi.dst v) w) :
    wpOp P ops Q j (fun a' w' => YieldsL P ops W oi v a' ∧ K (a'.put oi.dst v) w') a w := by
  obtain ⟨h1, h2, h3⟩ := Oper.apart_spec hap
  have keep : ∀ (a : Act), YieldsL P ops W oi v a → ∀ u, YieldsL P ops W oi v (a.put oj.dst u) := fun a hy u =>
    hy.of_same (execOp_put oi hsi a oj.dst u h3) (wanted_put oi a oj.dst u h3)
  have keepD : ∀ d, YieldsL P ops W oi v { a with defers := d :: a.defers } := fun d => hy.of_same rfl rfl
  unfold Go.wpOp at *
  simp only [hj] at *
  rw [wanted_put oj a oi.dst v h1] at h
  split
  · rename_i hw
    simp only [hw, if_true] at h
    rcases h with h | ⟨hasks, hlets⟩
    case inr => exact .inr ⟨by unfold Oper.asks at *; rw [execOp_put oj hsj a oi.dst v h1] at hasks; exact hasks, hlets⟩
    refine .inl ?_
    unfold Oper.wp at *
    rw [execOp_put oj hsj a oi.dst v h1] at h
    generalize (execOp a.eval oj).run P w = r at *
    cases r with
    | ok n w' =>
      cases n <;> simp only [Oper.upon] at h ⊢
      case value u => exact ⟨keep a hy u, by rw [← Act.put_comm a v u h2]; exact h⟩
      case skip => exact ⟨keep a hy _, by rw [← Act.put_comm a v undef h2]; exact h⟩
      case defer d =>
        refine ⟨keep _ (keepD d) _, ?_⟩
        rw [← Act.put_comm _ v undef h2, ← Act.put_defers]
        exact h
      case enter f args =>
        refine Calls.mono h fun e w'' he => ?_
        cases e with
        | returned u => exact ⟨keep a hy u, by rw [← Act.put_comm a v u h2]; exact he⟩
        | panicked c => exact hQ _ _ _ he
        | outgrown => exact he
      case row row args => exact Rows.mono h fun u w'' he => ⟨keep a hy u, by rw [← Act.put_comm a v u h2]; exact he⟩
    | halt x w' =>
      cases x <;> simp only [Oper.upon] at h ⊢
      case panic u => exact hQ _ _ _ h
  · rename_i hw
    simp only [hw] at h
    exact ⟨keep a hy _, by rw [← Act.put_comm a v undef h2]; exact h⟩

/-- Whatever order is picked from here on, after whatever further draws; every world on the way is of the class. -/
def wpE (P : Program) (md : Region.Mode) (ops : Array Oper) (Q : Exit → Act → World → Prop) (W : ι → World) : Nat → Array Bool → Act → World → Prop
  | 0, listed, a, w => Region.ready md ops listed = [] ∧ ∀ n, Q .normal a (w.drewN n)
  | fuel + 1, listed, a, w =>
    (Region.ready md ops listed = [] → ∀ n, Q .normal a (w.drewN n)) ∧
    ∀ i ∈ Region.ready md ops listed, ∀ n, wpOp P ops Q i (fun a' w' => (∃ z, w' = W z) ∧ wpE P md ops Q W fuel (listed.setIfInBounds i true) a' w') a (w.drewN n)
theorem wpE_drew {fuel : Nat} {listed : Array Bool} {a : Act} {w : World} (h : wpE P md ops Q W fuel listed a w) (m : Nat) : wpE P md ops Q W fuel listed a (w.drewN m) := by
  cases fuel with
  | zero => exact ⟨h.1, fun n => by rw [World.drewN_drewN]; exact h.2 _⟩
  | succ f => exact ⟨fun h0 n => by rw [World.drewN_drewN]; exact h.1 h0 _, fun i hi n => by rw [World.drewN_drewN]; exact h.2 i hi _⟩
theorem wpAny_of_E : ∀ (fuel : Nat) (listed : Array Bool) (a : Act) (w : World), wpE P md ops Q W fuel listed a w → wpAny P md ops Q fuel listed a w
  | 0, _, _, _, h => ⟨h.1, h.2 0⟩
  | fuel + 1, _, _, _, h => ⟨fun h0 => h.1 h0 0, fun i hi => wpOp_mono (fun a' w' h' => wpAny_of_E fuel _ a' w' h'.2) (h.2 i hi 0)⟩

theorem wpE_first {i : Nat} {oi : Oper} {v : Value} (hcl : ∀ z n, ∃ z', (W z).drewN n = W z') (hi : ops[i]? = some oi) (hsel : ∀ (j : Nat) (o : Oper) cs b, ops[j]? = some o → o.op ≠ .select cs b)
    (hQ : ∀ c (a a' : Act) w, a.defers = a'.defers → Q (.panic c) a w → Q (.panic c) a' w) :
    ∀ (fuel : Nat) (listed : Array Bool) (a : Act) (z : ι),
      (∀ j oj, ops[j]? = some oj → j ≠ i → listed.getD j true = false → (∀ e ∈ oj.after, Region.binds md e = true → e.on ≠ i) → oi.apart ops oj = true) →
      i ∈ Region.ready md ops listed → YieldsL P ops W oi v a →
      wpE P md ops Q W fuel (listed.setIfInBounds i true) (a.put oi.dst v) (W z) → wpE P md ops Q W (fuel + 1) listed a (W z) := by
  intro fuel
  induction fuel with
  | zero =>
    intro listed a z _ hr hy H
    refine ⟨fun h => (by rw [h] at hr; cases hr), fun j hj n => ?_⟩
    by_cases hji : j = i
    · subst hji
      obtain ⟨z1, hz1⟩ := hcl z n
      rw [hz1]
      refine hy.wpOp hi z1 fun m => ⟨hcl z1 m, ?_⟩
      rw [← hz1]; exact wpE_drew (wpE_drew H n) m
    · have := ready_mono hj hji
      rw [H.1] at this
      cases this
  | succ fuel ih =>
    intro listed a z hfree hr hy H
    refine ⟨fun h => (by rw [h] at hr; cases hr), fun j hj n => ?_⟩
    by_cases hji : j = i
    · subst hji
      obtain ⟨z1, hz1⟩ := hcl z n
      rw [hz1]
      refine hy.wpOp hi z1 fun m => ⟨hcl z1 m, ?_⟩
      rw [← hz1]; exact wpE_drew (wpE_drew H n) m
    · have h1 := H.2 j (ready_mono hj hji) n
      obtain ⟨hjun, oj, hoj, hall⟩ := mem_ready.1 hj
      have hnot : ∀ e ∈ oj.after, Region.binds md e = true → e.on ≠ i := fun e he hb heq => by
        have h1 := hall e he hb
        have h0 := (mem_ready.1 hr).1
        rw [heq] at h1
        rcases Nat.lt_or_ge i listed.size with h' | h'
        · simp [h'] at h0 h1; rw [h0] at h1; cases h1
        · simp [Array.getElem?_eq_none h'] at h1
      have h2 := wpOp_putL hoj (hfree j oj hoj hji hjun hnot) (fun cs b => hsel i oi cs b hi) (fun cs b => hsel j oj cs b hoj) (fun c a w h => hQ c _ _ w (by cases oi.dst <;> rfl) h) hy h1
      have hfree' : ∀ k ok, ops[k]? = some ok → k ≠ i → (listed.setIfInBounds j true).getD k true = false →
          (∀ e ∈ ok.after, Region.binds md e = true → e.on ≠ i) → oi.apart ops ok = true := fun k ok hk hki hun hno => by
        refine hfree k ok hk hki ?_ hno
        by_cases hjk : j = k
        · subst hjk; exact hjun
        · rw [getD_set_ne true hjk] at hun; exact hun
      refine wpOp_mono (fun a' w' h3 => ⟨h3.2.1, ?_⟩) h2
      obtain ⟨hy', ⟨z2, hz2⟩, h4⟩ := h3
      rw [hz2] at h4 ⊢
      refine ih (listed.setIfInBounds j true) a' z2 hfree' (ready_mono hr (Ne.symm hji)) hy' ?_
      rw [Array.setIfInBounds_comm _ _ hji]
      exact h4

/-- The first part, as it is walked. -/
def wpLooks (P : Program) (ops : Array Oper) (W : ι → World) (K : Act → Prop) : List Oper → Act → Prop
  | [], a => K a
  | o :: rest, a => if Region.wanted o (yielded ops a.tmps) then o.looks P a W (wpLooks P ops W K rest) else wpLooks P ops W K rest (a.put o.dst undef)
/-- The second part, as it is walked. -/
def wpRest (P : Program) (ops : Array Oper) (Q : Exit → Act → World → Prop) (W : ι → World) : List Oper → Act → World → Prop
  | [], a, w => ∀ n, Q .normal a (w.drewN n)
  | o :: rest, a, w => ∀ n, if Region.wanted o (yielded ops a.tmps) then o.wp P a (w.drewN n) (fun a' w' => (∃ z, w' = W z) ∧ wpRest P ops Q W rest a' w') Q else (∃ z, w.drewN n = W z) ∧ wpRest P ops Q W rest (a.put o.dst undef) (w.drewN n)

def seqL (md : Region.Mode) (ops : Array Oper) : List Nat → Array Bool → Bool
  | [], listed => (Region.ready md ops listed).isEmpty
  | t :: tl, listed => decide (Region.ready md ops listed = [t]) && seqL md ops tl (listed.setIfInBounds t true)
def permB (md : Region.Mode) (ops : Array Oper) (tl : List Nat) : List Nat → Array Bool → Bool
  | [], listed => seqL md ops tl listed
  | i :: hd, listed => (Region.ready md ops listed).contains i && Region.free md ops listed i && permB md ops tl hd (listed.setIfInBounds i true)

theorem wpE_of_rest : ∀ (tl : List Nat) (l : List Oper) (listed : Array Bool) (a : Act) (w : World), tl.mapM (fun i => ops[i]?) = some l → seqL md ops tl listed = true → wpRest P ops Q W l a w → wpE P md ops Q W tl.length listed a w
  | [], l, listed, a, w, hl, hB, h => by
    simp at hl; subst hl
    exact ⟨by simpa [seqL] using hB, h⟩
  | t :: tl, l, listed, a, w, hl, hB, h => by
    simp only [List.mapM_cons, Option.bind_eq_bind, Option.pure_def] at hl
    cases ht : ops[t]? with
    | none => simp [ht] at hl
    | some o =>
      cases hr : tl.mapM (fun i => ops[i]?) with
      | none => simp [ht, hr] at hl
      | some l' =>
        simp [ht, hr] at hl
        subst hl
        simp only [seqL, Bool.and_eq_true, decide_eq_true_eq] at hB
        refine ⟨fun h1 => (by rw [hB.1] at h1; cases h1), fun i hi n => ?_⟩
        rw [hB.1] at hi
        obtain rfl : i = t := by simpa using hi
        have hn := h n
        unfold Go.wpOp
        simp only [ht]
        split
        · rename_i hw
          rw [if_pos hw] at hn
          exact .inl (Oper.wp_mono (fun a' w' h' => ⟨h'.1, wpE_of_rest tl l' _ a' w' hr hB.2 h'.2⟩) hn)
        · rename_i hw
          rw [if_neg hw] at hn
          exact ⟨hn.1, wpE_of_rest tl l' _ _ _ hr hB.2 hn.2⟩
theorem wpE_of_looks (hcl : ∀ z n, ∃ z', (W z).drewN n = W z') (hs : Region.noSelect ops = true) (hQ : ∀ c (a a' : Act) w, a.defers = a'.defers → Q (.panic c) a w → Q (.panic c) a' w) (tl : List Nat) (lt : List Oper) (ht : tl.mapM (fun i => ops[i]?) = some lt) (z : ι) :
    ∀ (hd : List Nat) (lh : List Oper) (listed : Array Bool) (a : Act), hd.mapM (fun i => ops[i]?) = some lh → permB md ops tl hd listed = true →
    wpLooks P ops W (fun a' => wpRest P ops Q W lt a' (W z)) lh a → wpE P md ops Q W (hd.length + tl.length) listed a (W z)
  | [], lh, listed, a, hl, hB, h => by
    simp at hl; subst hl
    simpa using wpE_of_rest tl lt listed a _ ht hB h
  | i :: hd, lh, listed, a, hl, hB, h => by
    simp only [List.mapM_cons, Option.bind_eq_bind, Option.pure_def] at hl
    cases hi : ops[i]? with
    | none => simp [hi] at hl
    | some o =>
      cases hr : hd.mapM (fun i => ops[i]?) with
      | none => simp [hi, hr] at hl
      | some l' =>
        simp [hi, hr] at hl
        subst hl
        simp only [permB, Bool.and_eq_true] at hB
        have hrd : i ∈ Region.ready md ops listed := by simpa using hB.1.1
        rw [show (i :: hd).length + tl.length = (hd.length + tl.length) + 1 by simp; omega]
        unfold wpLooks at h
        split at h
        · rename_i hw
          obtain ⟨v, hv, hk⟩ := h
          exact wpE_first hcl hi (Region.noSelect_spec hs) hQ _ listed a z (Region.free_spec hi hB.1.2) hrd (.inl ⟨hw, hv⟩) (wpE_of_looks hcl hs hQ tl lt ht z hd l' _ _ hr hB.2 hk)
        · rename_i hw
          exact wpE_first hcl hi (Region.noSelect_spec hs) hQ _ listed a z (Region.free_spec hi hB.1.2) hrd (.inr ⟨by simpa using hw, rfl⟩) (wpE_of_looks hcl hs hQ tl lt ht z hd l' _ _ hr hB.2 h)

/-- The whole: hd, tl: the operations' numbers. -/
theorem wp_region_looks {id : Nat} {a : Act} {w : World} {l lh lt : List Oper} (hd tl : List Nat) (W : ι → World) (hcl : ∀ z n, ∃ z', (W z).drewN n = W z') (z : ι) (hz : w.drew = W z)
    (hm : P.follows .mixedOrders = true) (hh : hd.mapM (fun i => l.toArray[i]?) = some lh) (ht : tl.mapM (fun i => l.toArray[i]?) = some lt)
    (hB : (Region.noSelect l.toArray && permB .any l.toArray tl hd (Array.replicate l.toArray.size false) && (hd.length + tl.length == l.toArray.size)) = true)
    (hQ : ∀ c (a a' : Act) w, a.defers = a'.defers → Q (.panic c) a w → Q (.panic c) a' w)
    (h : wpLooks P l.toArray W (fun a' => wpRest P l.toArray Q W lt a' w.drew) lh a) : (Code.region id l.toArray true).wp P Q a w := by
  simp only [Bool.and_eq_true, beq_iff_eq] at hB
  refine wp_region_any hm ?_
  rw [hz] at h
  have H := wpE_of_looks hcl hB.1.1 hQ tl lt ht z hd lh _ a hh hB.1.2 h
  rw [hB.2, ← hz] at H
  exact wpAny_of_E _ _ _ _ H

/-- A class of worlds as a family, with its shape hidden. -/
theorem classFam (C : World → Prop) {w : World} (h : C w) : ∃ (ι : Type) (W : ι → World), Nonempty ι ∧ (∀ z, C (W z)) ∧ ∀ w', C w' → ∃ z, w' = W z :=
  ⟨{w' // C w'}, Subtype.val, ⟨⟨w, h⟩⟩, fun z => z.2, fun w' h => ⟨⟨w', h⟩, rfl⟩⟩
theorem wpLooks_nil {K : Act → Prop} {a : Act} (h : K a) : wpLooks P ops W K [] a := h
theorem wpLooks_step {K0 : Act → Prop} {a : Act} {o : Oper} {rest : List Oper}
    (h : ∀ K : Act → Prop, (∀ a, wpLooks P ops W K0 rest a → K a) → if Region.wanted o (yielded ops a.tmps) then o.looks P a W K else K (a.put o.dst undef)) : wpLooks P ops W K0 (o :: rest) a :=
  h _ (fun _ h => h)
theorem wpRest_nil {a : Act} {w : World} (h : ∀ n, Q .normal a (w.drewN n)) : wpRest P ops Q W [] a w := h
theorem wpRest_step {a : Act} {w : World} {o : Oper} {rest : List Oper} (hg : o.guard = none)
    (h : ∀ n, ∀ K : Act → World → Prop, (∀ a w, (∃ z, w = W z) → wpRest P ops Q W rest a w → K a w) → o.wp P a (w.drewN n) K Q) : wpRest P ops Q W (o :: rest) a w := fun n => by
  rw [if_pos (by simp [Region.wanted, hg])]
  exact h n _ (fun _ _ h1 h2 => ⟨h1, h2⟩)
theorem eval_drewN (w : World) (n : Nat) : (w.drewN n).heap = w.heap := rfl
theorem rest_build1 {α : Type} [Enc α] {t e : TypeId} {by8 : Nat} {a : Act} {w : World} {o : Oper} {rest : List Oper} (hg : o.guard = none) (y : Operand) (ho : o.op = .buildSlice t 1 #[(0, y)]) (E : ElemI P t e α by8) (hsmall : Enc.n α ≤ 16777216) (x : α)
    (hy : a.eval y = .agg (Enc.enc x).toArray) (hcls : ∀ n, ∃ z, (w.drewN n).alloc (.cells (Enc.enc x).toArray e) = W z)
    (h : ∀ n, wpRest P ops Q W rest (a.put o.dst (.slice (some ⟨w.heap.size, 0, none⟩) 1 1)) ((w.drewN n).alloc (.cells (Enc.enc x).toArray e))) : wpRest P ops Q W (o :: rest) a w :=
  wpRest_step hg fun n K hK => by
    have := run_buildSlice_one E hsmall x (w.drewN n)
    unfold gBuildSlice at this
    unfold Oper.wp execOp
    simp only [ho, Sem.run_bind, List.map_toArray, List.map_cons, List.map_nil, hy]
    rw [this]
    exact hK _ _ (hcls n) (h n)
theorem rest_append_S {α : Type} [Enc α] {t e : TypeId} {by8 base B : Nat} {xs ys : List α} {v : Value} {a : Act} {w : World} {o : Oper} {rest : List Oper} (hg : o.guard = none) (s x : Operand)
    (ho : o.op = .call { callee := .builtin .append, args := #[s, x], argTypes := #[t, t] }) (E : ElemI P t e α by8)
    (hs : a.eval s = v) (hown : OwnS w base e v xs) {A : Option Addr} {m c : Nat} (hx : a.eval x = .slice A m c) (hr : Sl α w B A m ys) (h63 : xs.length + m ≤ maxLen) (hbytes : (xs.length + m) * by8 ≤ 140737488355328) (hbase : base ≤ w.heap.size)
    (hcls : ∀ n w', (w.drewN n).grownBy w' v.ownBlock → ∃ z, w' = W z)
    (h : ∀ n v' w', OwnS w' base e v' (xs ++ ys) → (w.drewN n).grownBy w' v.ownBlock → (v'.ownBlock = v.ownBlock ∨ v'.ownBlock = some w.heap.size) → wpRest P ops Q W rest (a.put o.dst v') w') : wpRest P ops Q W (o :: rest) a w :=
  wpRest_step hg fun n _K hK => wp_append_S s x t ho E hs (hown.drewN n) hx (hr.drewN_ n) h63 hbytes hbase fun v' w' h2 h3 h4 => hK _ _ (hcls n w' h3) (h n v' w' h2 h3 h4)
theorem rest_assign {a : Act} {w : World} {o : Oper} {rest : List Oper} (hg : o.guard = none) (x : Operand) (ho : o.op = .assign x) (hcls : ∀ n, ∃ z, w.drewN n = W z)
    (h : ∀ n, wpRest P ops Q W rest (a.put o.dst (a.eval x)) (w.drewN n)) : wpRest P ops Q W (o :: rest) a w :=
  wpRest_step hg fun n K hK => by
    unfold Oper.wp execOp
    simp only [ho, Sem.run_pure]
    exact hK _ _ (hcls n) (h n)
theorem rest_value {a : Act} {w : World} {o : Oper} {rest : List Oper} (hg : o.guard = none) (v : Value) (w1 : Nat → World) (hr : ∀ n, (execOp a.eval o).run P (w.drewN n) = .ok (.value v) (w1 n)) (hcls : ∀ n, ∃ z, w1 n = W z)
    (h : ∀ n, wpRest P ops Q W rest (a.put o.dst v) (w1 n)) : wpRest P ops Q W (o :: rest) a w :=
  wpRest_step hg fun n K hK => by
    unfold Oper.wp
    rw [hr n]
    exact hK _ _ (hcls n) (h n)
theorem rest_skip {a : Act} {w : World} {o : Oper} {rest : List Oper} (hg : o.guard = none) (w1 : Nat → World) (hr : ∀ n, (execOp a.eval o).run P (w.drewN n) = .ok .skip (w1 n)) (hcls : ∀ n, ∃ z, w1 n = W z)
    (h : ∀ n, wpRest P ops Q W rest (a.put o.dst undef) (w1 n)) : wpRest P ops Q W (o :: rest) a w :=
  wpRest_step hg fun n K hK => by
    unfold Oper.wp
    rw [hr n]
    exact hK _ _ (hcls n) (h n)
theorem rest_call {a : Act} {w : World} {o : Oper} {rest : List Oper} (hg : o.guard = none) (f : FuncId) (args : Array Value) (R : Value → World → Prop) (hr : ∀ n, (execOp a.eval o).run P (w.drewN n) = .ok (.enter f args) (w.drewN n)) (hc : ∀ n, Calls P f args (w.drewN n) fun e w' => ∃ v, e = .returned v ∧ R v w') (hcls : ∀ v w', R v w' → ∃ z, w' = W z)
    (h : ∀ v w', R v w' → wpRest P ops Q W rest (a.put o.dst v) w') : wpRest P ops Q W (o :: rest) a w :=
  wpRest_step hg fun n K hK => by
    unfold Oper.wp
    rw [hr n]
    refine (hc n).mono fun e w' ⟨v, he, hR⟩ => ?_
    subst he
    exact hK _ _ (hcls v w' hR) (h v w' hR)
theorem putCells_drewN (w : World) (a : Addr) (cs : List Value) (n : Nat) : World.putCells (w.drewN n) a cs = (World.putCells w a cs).drewN n := by
  unfold World.putCells
  have : ∀ (cs : List Value) (i : Nat) (w : World), World.putFrom (w.drewN n) a i cs = (World.putFrom w a i cs).drewN n := by
    intro cs
    induction cs with
    | nil => intro i w; rfl
    | cons v vs ih => intro i w; exact ih _ (w.setCell (a.add i) v)
  exact this cs 0 w
/-- A new variable of a struct's type, and the value stored into it. -/
theorem rest_new {α : Type} [Enc α] {t : TypeId} {a : Act} {w : World} {o1 o2 : Oper} {rest : List Oper} (hg1 : o1.guard = none) (hg2 : o2.guard = none) (x y : Operand) (ho1 : o1.op = .alloc t) (ho2 : o2.op = .store t x y) (z u : α)
    (hal : ∀ w, (gAlloc t).run P w = .ok (.pointer (some ⟨w.heap.size, 0, none⟩)) (w.alloc (.cells (Enc.enc z).toArray t))) (ha : sizeT P t = Enc.n α)
    (hx : (a.put o1.dst (.pointer (some ⟨w.heap.size, 0, none⟩))).eval x = .pointer (some ⟨w.heap.size, 0, none⟩)) (hy : (a.put o1.dst (.pointer (some ⟨w.heap.size, 0, none⟩))).eval y = .agg (Enc.enc u).toArray)
    (hcls : ∀ n m (v : α), ∃ zz, ((w.drewN n).alloc (.cells (Enc.enc v).toArray t)).drewN m = W zz)
    (h : ∀ n m, wpRest P ops Q W rest ((a.put o1.dst (.pointer (some ⟨w.heap.size, 0, none⟩))).put o2.dst undef) (((w.drewN n).alloc (.cells (Enc.enc u).toArray t)).drewN m)) : wpRest P ops Q W (o1 :: o2 :: rest) a w := by
  refine rest_value hg1 (.pointer (some ⟨w.heap.size, 0, none⟩)) (fun n => (w.drewN n).alloc (.cells (Enc.enc z).toArray t)) (fun n => ?_) (fun n => hcls n 0 z) fun n => ?_
  · have := hal (w.drewN n)
    unfold gAlloc at this
    unfold execOp
    simp only [ho1, Sem.run_bind]
    rw [this]; rfl
  · refine rest_skip hg2 (fun m => ((w.drewN n).alloc (.cells (Enc.enc u).toArray t)).drewN m) (fun m => ?_) (fun m => hcls n m u) fun m => h n m
    have hst := run_gStore (P := P) (t := t) (w := ((w.drewN n).alloc (.cells (Enc.enc z).toArray t)).drewN m) (a := ⟨w.heap.size, 0, none⟩) ha u (by
      rw [get?_drewN]
      have := get?_new (w := w.drewN n) t z
      exact Option.isSome_iff_exists.2 ⟨z, this⟩) (by rw [blkFree_drewN]; exact blkFree_new _ _ rfl)
    rw [putCells_drewN, show World.putCells ((w.drewN n).alloc (.cells (Enc.enc z).toArray t)) ⟨w.heap.size, 0, none⟩ (Enc.enc u) = (w.drewN n).alloc (.cells (Enc.enc u).toArray t) from putCells_top (w := w.drewN n) u z rfl] at hst
    unfold gStore at hst
    unfold execOp
    simp only [ho2, Sem.run_bind, hx, hy]
    rw [hst]; rfl
end
end Go.Gv
/- Regions that leave their order open, phase by phase; facts carried from world to world. Conditions: those named in each theorem. -/
namespace Go.Gv
open Go Go.RowKit

section
variable {P : Program} {ops : Array Oper} {md : Region.Mode} {Q : Exit → Act → World → Prop} {ι ι' : Type} {W : ι → World} {W' : ι' → World}

/-- A narrower class of worlds serves too. -/
theorem wpE_sub (hs : ∀ z', ∃ z, W' z' = W z) : ∀ (fuel : Nat) (listed : Array Bool) (a : Act) (w : World), wpE P md ops Q W' fuel listed a w → wpE P md ops Q W fuel listed a w
  | 0, _, _, _, h => h
  | fuel + 1, _, _, _, h => ⟨h.1, fun i hi n => wpOp_mono (fun a' w' h' => ⟨by
      obtain ⟨⟨z', e⟩, _⟩ := h'
      obtain ⟨z, e'⟩ := hs z'
      exact ⟨z, e.trans e'⟩, wpE_sub hs fuel _ a' w' h'.2⟩) (h.2 i hi n)⟩
def setAll (listed : Array Bool) : List Nat → Array Bool
  | [] => listed
  | i :: hd => setAll (listed.setIfInBounds i true) hd
def permH (md : Region.Mode) (ops : Array Oper) : List Nat → Array Bool → Bool
  | [], _ => true
  | i :: hd, listed => (Region.ready md ops listed).contains i && Region.free md ops listed i && permH md ops hd (listed.setIfInBounds i true)

/-- What looks comes first. -/
theorem wpE_looks (hcl : ∀ z n, ∃ z', (W z).drewN n = W z') (hs : Region.noSelect ops = true) (hQ : ∀ c (a a' : Act) w, a.defers = a'.defers → Q (.panic c) a w → Q (.panic c) a' w) (fuel : Nat) (z : ι) :
    ∀ (hd : List Nat) (lh : List Oper) (listed : Array Bool) (a : Act), hd.mapM (fun i => ops[i]?) = some lh → permH md ops hd listed = true →
    wpLooks P ops W (fun a' => wpE P md ops Q W fuel (setAll listed hd) a' (W z)) lh a → wpE P md ops Q W (hd.length + fuel) listed a (W z)
  | [], lh, listed, a, hl, _, h => by
    simp at hl; subst hl
    have e : ([] : List Nat).length + fuel = fuel := by simp
    rw [e]; exact h
  | i :: hd, lh, listed, a, hl, hB, h => by
    simp only [List.mapM_cons, Option.bind_eq_bind, Option.pure_def] at hl
    cases hi : ops[i]? with
    | none => simp [hi] at hl
    | some o =>
      cases hr : hd.mapM (fun i => ops[i]?) with
      | none => simp [hi, hr] at hl
      | some l' =>
        simp [hi, hr] at hl
        subst hl
        simp only [permH, Bool.and_eq_true] at hB
        have hrd : i ∈ Region.ready md ops listed := by simpa using hB.1.1
        rw [show (i :: hd).length + fuel = (hd.length + fuel) + 1 by simp; omega]
        unfold wpLooks at h
        split at h
        · rename_i hw
          obtain ⟨v, hv, hk⟩ := h
          exact wpE_first hcl hi (Region.noSelect_spec hs) hQ _ listed a z (Region.free_spec hi hB.1.2) hrd (.inl ⟨hw, hv⟩) (wpE_looks hcl hs hQ fuel z hd l' _ _ hr hB.2 hk)
        · rename_i hw
          exact wpE_first hcl hi (Region.noSelect_spec hs) hQ _ listed a z (Region.free_spec hi hB.1.2) hrd (.inr ⟨by simpa using hw, rfl⟩) (wpE_looks hcl hs hQ fuel z hd l' _ _ hr hB.2 h)

theorem wpE_looks' {n : Nat} {lh : List Oper} {listed : Array Bool} {a : Act} (fuel : Nat) (hd : List Nat) (hn : n = hd.length + fuel) (hcl : ∀ z n, ∃ z', (W z).drewN n = W z') (hs : Region.noSelect ops = true) (hQ : ∀ c (a a' : Act) w, a.defers = a'.defers → Q (.panic c) a w → Q (.panic c) a' w) (z : ι)
    (hl : hd.mapM (fun i => ops[i]?) = some lh) (hB : permH md ops hd listed = true) (h : wpLooks P ops W (fun a' => wpE P md ops Q W fuel (setAll listed hd) a' (W z)) lh a) : wpE P md ops Q W n listed a (W z) := by
  subst hn; exact wpE_looks hcl hs hQ fuel z hd lh listed a hl hB h

/-- One operation alone is ready. -/
theorem wpE_force {fuel : Nat} {listed : Array Bool} {a : Act} {w : World} (t : Nat) (o : Oper) (ho : ops[t]? = some o) (hr : (Region.ready md ops listed == [t]) = true) (hg : o.guard = none)
    (h : ∀ n, ∀ K : Act → World → Prop, (∀ a' w', (∃ z, w' = W z) → wpE P md ops Q W fuel (listed.setIfInBounds t true) a' w' → K a' w') → o.wp P a (w.drewN n) K Q) : wpE P md ops Q W (fuel + 1) listed a w := by
  have hr' : Region.ready md ops listed = [t] := by simpa using hr
  refine ⟨fun h0 => (by rw [hr'] at h0; cases h0), fun i hi n => ?_⟩
  rw [hr'] at hi
  obtain rfl : i = t := by simpa using hi
  unfold Go.wpOp
  simp only [ho]
  rw [if_pos (by simp [Region.wanted, hg])]
  exact .inl (h n _ fun a' w' h1 h2 => ⟨h1, h2⟩)
theorem wpE_end {listed : Array Bool} {a : Act} {w : World} (hr : (Region.ready md ops listed).isEmpty = true) (h : ∀ n, Q .normal a (w.drewN n)) : ∀ fuel, wpE P md ops Q W fuel listed a w
  | 0 => ⟨by simpa using hr, h⟩
  | _ + 1 => ⟨fun _ => h, fun i hi => by
      have : Region.ready md ops listed = [] := by simpa using hr
      rw [this] at hi; cases hi⟩

/-- A region's start: the class is all worlds above block B as they are in w0. -/
theorem wp_region_E {id : Nat} {a : Act} {w : World} {l : List Oper} (C : World → Prop) (hC : C w.drew) (hm : P.follows .mixedOrders = true)
    (h : ∀ (ι : Type) (W : ι → World) (z0 : ι), w.drew = W z0 → Hid (∀ z, C (W z)) → Hid (∀ w', C w' → ∃ z, w' = W z) → wpE P .any l.toArray Q W l.toArray.size (Array.replicate l.toArray.size false) a (W z0)) : (Code.region id l.toArray true).wp P Q a w := by
  obtain ⟨ι, W, _, hW, hWs⟩ := classFam C hC
  obtain ⟨z0, hz⟩ := hWs _ hC
  have := h ι W z0 hz (Lib.hid hW) (Lib.hid hWs)
  rw [← hz] at this
  exact wp_region_any hm (wpAny_of_E _ _ _ _ this)
/-- The class narrowed in the midst of a region. -/
theorem wpE_class {fuel : Nat} {listed : Array Bool} {a : Act} {w : World} (C : World → Prop) (hC : C w) (hs : ∀ w', C w' → ∃ z, w' = W z)
    (h : ∀ (ι : Type) (W' : ι → World) (z0 : ι), w = W' z0 → Hid (∀ z, C (W' z)) → Hid (∀ w', C w' → ∃ z, w' = W' z) → wpE P md ops Q W' fuel listed a (W' z0)) : wpE P md ops Q W fuel listed a w := by
  obtain ⟨ι, W', _, hW, hWs⟩ := classFam C hC
  obtain ⟨z0, hz⟩ := hWs _ hC
  have := h ι W' z0 hz (Lib.hid hW) (Lib.hid hWs)
  rw [← hz] at this
  refine wpE_sub (fun z' => ?_) _ _ _ _ this
  obtain ⟨z, e⟩ := hs _ (hW z')
  exact ⟨z, e⟩

/-! Forced operations of the common kinds. -/
section
variable {fuel : Nat} {listed : Array Bool} {a : Act} {w : World} (t : Nat) (o : Oper) (ho : ops[t]? = some o) (hr : (Region.ready md ops listed == [t]) = true) (hg : o.guard = none)
include ho hr hg
theorem wpE_value (v : Value) (w1 : Nat → World) (hx : ∀ n, (execOp a.eval o).run P (w.drewN n) = .ok (.value v) (w1 n)) (hcls : ∀ n, ∃ z, w1 n = W z)
    (h : ∀ n, wpE P md ops Q W fuel (listed.setIfInBounds t true) (a.put o.dst v) (w1 n)) : wpE P md ops Q W (fuel + 1) listed a w :=
  wpE_force t o ho hr hg fun n K hK => by
    unfold Oper.wp
    rw [hx n]
    exact hK _ _ (hcls n) (h n)
theorem wpE_skip (w1 : Nat → World) (hx : ∀ n, (execOp a.eval o).run P (w.drewN n) = .ok .skip (w1 n)) (hcls : ∀ n, ∃ z, w1 n = W z)
    (h : ∀ n, wpE P md ops Q W fuel (listed.setIfInBounds t true) (a.put o.dst undef) (w1 n)) : wpE P md ops Q W (fuel + 1) listed a w :=
  wpE_force t o ho hr hg fun n K hK => by
    unfold Oper.wp
    rw [hx n]
    exact hK _ _ (hcls n) (h n)
theorem wpE_call (f : FuncId) (args : Array Value) (R : Value → World → Prop) (hx : ∀ n, (execOp a.eval o).run P (w.drewN n) = .ok (.enter f args) (w.drewN n)) (hc : ∀ n, Calls P f args (w.drewN n) fun e w' => ∃ v, e = .returned v ∧ R v w') (hcls : ∀ v w', R v w' → ∃ z, w' = W z)
    (h : ∀ v w', R v w' → wpE P md ops Q W fuel (listed.setIfInBounds t true) (a.put o.dst v) w') : wpE P md ops Q W (fuel + 1) listed a w :=
  wpE_force t o ho hr hg fun n K hK => by
    unfold Oper.wp
    rw [hx n]
    refine (hc n).mono fun e w' ⟨v, he, hR⟩ => ?_
    subst he
    exact hK _ _ (hcls v w' hR) (h v w' hR)
theorem wpE_assign (x : Operand) (hop : o.op = .assign x) (hcls : ∀ n, ∃ z, w.drewN n = W z)
    (h : ∀ n, wpE P md ops Q W fuel (listed.setIfInBounds t true) (a.put o.dst (a.eval x)) (w.drewN n)) : wpE P md ops Q W (fuel + 1) listed a w :=
  wpE_value t o ho hr hg (a.eval x) (fun n => w.drewN n) (fun n => by unfold execOp; simp only [hop, Sem.run_pure]) hcls h
theorem wpE_build1 {α : Type} [Enc α] {ts e : TypeId} {by8 : Nat} (y : Operand) (hop : o.op = .buildSlice ts 1 #[(0, y)]) (E : ElemI P ts e α by8) (hsmall : Enc.n α ≤ 16777216) (x : α)
    (hy : a.eval y = .agg (Enc.enc x).toArray) (hcls : ∀ n, ∃ z, (w.drewN n).alloc (.cells (Enc.enc x).toArray e) = W z)
    (h : ∀ n, wpE P md ops Q W fuel (listed.setIfInBounds t true) (a.put o.dst (.slice (some ⟨w.heap.size, 0, none⟩) 1 1)) ((w.drewN n).alloc (.cells (Enc.enc x).toArray e))) : wpE P md ops Q W (fuel + 1) listed a w :=
  wpE_value t o ho hr hg _ (fun n => (w.drewN n).alloc (.cells (Enc.enc x).toArray e)) (fun n => by
    have := run_buildSlice_one E hsmall x (w.drewN n)
    unfold gBuildSlice at this
    unfold execOp
    simp only [hop, Sem.run_bind, List.map_toArray, List.map_cons, List.map_nil, hy]
    rw [this]; rfl) hcls h
theorem wpE_append {α : Type} [Enc α] {ts e : TypeId} {by8 base B : Nat} {xs ys : List α} {v : Value} (s x : Operand)
    (hop : o.op = .call { callee := .builtin .append, args := #[s, x], argTypes := #[ts, ts] }) (E : ElemI P ts e α by8)
    (hs : a.eval s = v) (hown : OwnS w base e v xs) {A : Option Addr} {m c : Nat} (hx : a.eval x = .slice A m c) (hsl : Sl α w B A m ys) (h63 : xs.length + m ≤ maxLen) (hbytes : (xs.length + m) * by8 ≤ 140737488355328) (hbase : base ≤ w.heap.size)
    (hcls : ∀ n w', (w.drewN n).grownBy w' v.ownBlock → ∃ z, w' = W z)
    (h : ∀ n v' w', OwnS w' base e v' (xs ++ ys) → (w.drewN n).grownBy w' v.ownBlock → (v'.ownBlock = v.ownBlock ∨ v'.ownBlock = some w.heap.size) → wpE P md ops Q W fuel (listed.setIfInBounds t true) (a.put o.dst v') w') : wpE P md ops Q W (fuel + 1) listed a w :=
  wpE_force t o ho hr hg fun n _K hK => wp_append_S s x ts hop E hs (hown.drewN n) hx (hsl.drewN_ n) h63 hbytes hbase fun v' w' h2 h3 h4 => hK _ _ (hcls n w' h3) (h n v' w' h2 h3 h4)
end
end

/-! ### Facts carried from one world to the next -/
/-- All that there was in w0 is there in w. -/
def Bel (w0 w : World) : Prop := Below w0.heap.size w0 w
theorem Bel.refl (w : World) : Bel w w := Below.refl _ _
theorem Bel.step {w0 w w' : World} (h : Bel w0 w) (hb : Below w.heap.size w w') : Bel w0 w' := Below.trans h (hb.mono h.size)
theorem Bel.trans {w0 w w' : World} (h : Bel w0 w) (hb : Bel w w') : Bel w0 w' := h.step hb
theorem Bel.alloc {w0 w : World} (h : Bel w0 w) (o : Obj) : Bel w0 (w.alloc o) := Below.alloc h h.size o
theorem Bel.drew {w0 w : World} (h : Bel w0 w) : Bel w0 w.drew := Below.drew h
theorem Bel.drewN {w0 w : World} (h : Bel w0 w) (n : Nat) : Bel w0 (w.drewN n) := bdN h n
theorem Bel.size {w0 w : World} (h : Bel w0 w) : w0.heap.size ≤ w.heap.size := Below.size h
theorem Bel.grown {w0 w w' : World} {row : Option Nat} (h : Bel w0 w) (hg : w.grownBy w' row) (hr : ∀ k, row = some k → w0.heap.size ≤ k) : Bel w0 w' := Below.grown h hg h.size hr
theorem Bel.setCell {w0 w : World} (h : Bel w0 w) {p : Addr} (hp : w0.heap.size ≤ p.block) (u : Value) : Bel w0 (w.setCell p u) := Below.setCell h hp u
theorem Bel.appS {α : Type} [Enc α] {w0 w w' : World} {base : Nat} {e : TypeId} {v : Value} {xs : List α} (h : Bel w0 w) (hg : w.grownBy w' v.ownBlock) (hown : OwnS w base e v xs) (hb : w0.heap.size ≤ base) : Bel w0 w' :=
  Gv.Below.appS h hg hown hb h.size
theorem Sl.stepB {α : Type} [Enc α] {w w' : World} {A : Option Addr} {n : Nat} {xs : List α} (h : Sl α w w.heap.size A n xs) (hb : Bel w w') : Sl α w' w'.heap.size A n xs := (h.below hb).more hb.size
theorem OwnS.step {α : Type} [Enc α] {w w' : World} {base : Nat} {e : TypeId} {v : Value} {xs : List α} (h : OwnS w base e v xs) (hb : Below w.heap.size w w') : OwnS w' base e v xs := h.below hb (Nat.le_refl _)
end Go.Gv
/- What Within, Prefix, Same and Less compute. Conditions: those named in each theorem. -/
namespace Go.Proofs.YthkifibmihijaaaGreatDoor
open Go Go.RowKit Go.Gv

def within (v n : Int) : Int := if n < 1 then 0 else v % n

def prefixB (a b : List GEntry) : Bool := decide (a.take (min a.length b.length) = b.take (min a.length b.length))
theorem take_eq_succ {α : Type} {xs ys : List α} {k : Nat} (h : xs.take k = ys.take k) (hx : k < xs.length) (hy : k < ys.length) : (xs.take (k+1) = ys.take (k+1)) ↔ xs[k] = ys[k] := by
  rw [List.take_succ_eq_append_getElem hx, List.take_succ_eq_append_getElem hy, h]
  constructor
  · intro e; simpa using List.append_cancel_left e
  · intro e; rw [e]
theorem prefixB_no {xs ys : List GEntry} {k : Nat} {x y : GEntry} (hx : xs[k]? = some x) (hy : ys[k]? = some y) (h : ¬ x = y) : prefixB xs ys = false := by
  unfold prefixB
  rw [decide_eq_false_iff_not]
  intro e
  have hk : k < xs.length := (List.getElem?_eq_some_iff.1 hx).1
  have hk' : k < ys.length := (List.getElem?_eq_some_iff.1 hy).1
  have e1 : (xs.take (min xs.length ys.length))[k]? = some x := by rw [List.getElem?_take_of_lt (by omega)]; exact hx
  have e2 : (ys.take (min xs.length ys.length))[k]? = some y := by rw [List.getElem?_take_of_lt (by omega)]; exact hy
  rw [e, e2] at e1
  injection e1 with e1; exact h e1.symm
theorem take_step {α : Type} {xs ys : List α} {k : Nat} {x y : α} (h : xs.take k = ys.take k) (hx : xs[k]? = some x) (hy : ys[k]? = some y) (e : x = y) : xs.take (k+1) = ys.take (k+1) := by
  have hk : k < xs.length := (List.getElem?_eq_some_iff.1 hx).1
  have hk' : k < ys.length := (List.getElem?_eq_some_iff.1 hy).1
  rw [take_eq_succ h hk hk']
  rw [List.getElem?_eq_getElem hk] at hx; rw [List.getElem?_eq_getElem hk'] at hy
  injection hx with hx; injection hy with hy; rw [hx, hy, e]
/-- Two lists of entries, held against each other place by place. -/
def sameB {α : Type} [DecidableEq α] (a b : List α) : Bool := decide (a = b)
theorem sameB_no {α : Type} [DecidableEq α] {xs ys : List α} {k : Nat} {x y : α} (hx : xs[k]? = some x) (hy : ys[k]? = some y) (h : ¬ x = y) : sameB xs ys = false := by
  unfold sameB
  rw [decide_eq_false_iff_not]
  intro e; rw [e, hy] at hx; injection hx with hx; exact h hx.symm
def lessB (a b : GName) : Bool := decide (a.client < b.client) || (decide (a.client = b.client) && decide (a.seq < b.seq))

end Go.Proofs.YthkifibmihijaaaGreatDoor
/- What audit.Once computes. Conditions: those named in each theorem. -/
namespace Go.Proofs.YthkifibmihijaaaGreatDoor
open Go Go.RowKit Go.Gv

def onceB (xs : List GEntry) : Bool := decide ((xs.map (·.name)).Nodup)

theorem nodup_step {α : Type} {xs : List α} {k : Nat} {x : α} (hx : xs[k]? = some x) : xs.take (k + 1) = xs.take k ++ [x] := by
  have hk : k < xs.length := (List.getElem?_eq_some_iff.1 hx).1
  rw [List.take_succ_eq_append_getElem hk]
  rw [List.getElem?_eq_getElem hk] at hx
  injection hx with hx; rw [hx]

structure OnceInv (xs : List GEntry) (k : Nat) (m : List (GName × Bool)) : Prop where
  look : ∀ n, (mget m n).getD false = decide (n ∈ (xs.take k).map (·.name))
  nd : ((xs.take k).map (·.name)).Nodup
theorem OnceInv.step {xs : List GEntry} {k : Nat} {m : List (GName × Bool)} (h : OnceInv xs k m) {x : GEntry} (hx : xs[k]? = some x) (hn : (mget m x.name).getD false = false) : OnceInv xs (k + 1) (mset m x.name true) := by
  have hn' : x.name ∉ (xs.take k).map (·.name) := by have := h.look x.name; rw [hn] at this; simpa using this.symm
  constructor
  · intro n
    rw [nodup_step hx]
    by_cases he : n = x.name
    · subst he; rw [mget_mset_same]; simp
    · rw [mget_mset_other m true he, h.look n]
      simp [he]
  · rw [nodup_step hx, List.map_append, List.nodup_append]
    refine ⟨h.nd, by simp, ?_⟩
    intro a ha b hb
    simp at hb; subst hb
    intro e; subst e; exact hn' ha
theorem OnceInv.bad {xs : List GEntry} {k : Nat} {m : List (GName × Bool)} (h : OnceInv xs k m) {x : GEntry} (hx : xs[k]? = some x) (hn : (mget m x.name).getD false = true) : onceB xs = false := by
  have hn' : x.name ∈ (xs.take k).map (·.name) := by have := h.look x.name; rw [hn] at this; simpa using this.symm
  unfold onceB
  rw [decide_eq_false_iff_not]
  intro hd
  have h2 : ((xs.take (k + 1)).map (·.name)).Nodup := List.Nodup.sublist ((List.take_sublist _ _).map _) hd
  rw [nodup_step hx, List.map_append, List.nodup_append] at h2
  exact h2.2.2 _ hn' x.name (by simp) rfl

end Go.Proofs.YthkifibmihijaaaGreatDoor
/- What the two functions below compute. Conditions: those named in each theorem. -/
namespace Go.Proofs.YthkifibmihijaaaGreatDoor
open Go Go.RowKit Go.Gv

theorem getU {w : World} {a : Addr} {x : U64} (h : get? U64 w a = some x) : w.cell? a = some (.int .u64 x.v) := get1 rfl h
theorem getI {w : World} {a : Addr} {x : I64} (h : get? I64 w a = some x) : w.cell? a = some (.int .i64 x.v) := get1 rfl h

/-- All of a below all of b. -/
def allBelow (a b : List U64) : Bool := decide (∀ x ∈ a, ∀ y ∈ b, x.v < y.v)
def belowB (a b : List U64) : Bool := allBelow a b && (decide (0 < a.length) && decide (0 < b.length))
theorem allBelow_no {a b : List U64} {i j : Nat} {x y : U64} (hx : a[i]? = some x) (hy : b[j]? = some y) (h : y.v ≤ x.v) : allBelow a b = false := by
  unfold allBelow
  rw [decide_eq_false_iff_not]
  intro hall
  have := hall x (List.mem_of_getElem? hx) y (List.mem_of_getElem? hy)
  omega
theorem mem_take_succ {α : Type} {xs : List α} {k : Nat} {x y : α} (hx : xs[k]? = some x) (h : y ∈ xs.take (k + 1)) : y ∈ xs.take k ∨ y = x := by
  rw [nodup_step hx] at h; simpa using h

end Go.Proofs.YthkifibmihijaaaGreatDoor
/- What cmp.Compare, cmp.Or and lock.Before compute. Conditions: those named in each theorem. -/
namespace Go.Proofs.YthkifibmihijaaaGreatDoor
open Go Go.RowKit Go.Gv

def cmpI (a b : Int) : Int := if a < b then -1 else if b < a then 1 else 0
set_option maxHeartbeats 400000 in
theorem compare_any (a b : Int) (w : World) :
    Calls Tryz.prog 175 #[.int .i64 a, .int .i64 b] w fun e w' => e = .returned (.int .i64 (cmpI a b)) ∧ w = w' := by
  by_cases h1 : a < b
  · go_enter Tryz.func175, Tryz.ntmps175
    go_wp2
    go_ret
    exact ⟨ret_int (by unfold cmpI; rw [if_pos h1]), rfl⟩
  · by_cases h2 : b < a
    · go_enter Tryz.func175, Tryz.ntmps175
      go_wp2
      go_ret
      exact ⟨ret_int (by unfold cmpI; rw [if_neg (by omega), if_pos h2]), rfl⟩
    · go_enter Tryz.func175, Tryz.ntmps175
      go_wp2
      go_ret
      exact ⟨ret_int (by unfold cmpI; rw [if_neg (by omega), if_neg (by omega)]), rfl⟩

def orI (xs : List Int) : Int := (xs.find? fun x => x != 0).getD 0
set_option maxHeartbeats 400000 in
theorem or_any (A : Option Addr) (n c : Nat) (xs : List I64) (w : World) (B0 : Nat) (hx : Sl I64 w B0 A n xs) (hn : n ≤ maxLen) :
    Calls Tryz.prog 174 #[.slice A n c] w fun e w' => e = .returned (.int .i64 (orI (xs.map (·.v)))) ∧ w = w' := by
  unfold maxLen at hn
  have H := Lib.hid hx
  clear hx
  go_enter Tryz.func174, Tryz.ntmps174
  go_wp2
  go_loop [5, 8] (fun _ i => ∃ k : Nat, k ≤ n ∧ i = .int .i64 k ∧ ∀ x ∈ xs.take k, x.v = 0) (fun _ i => n - (intOf i).toNat)
  case atStart => exact ⟨0, by omega, rfl, by simp⟩
  case round =>
    obtain ⟨k, hk, rfl, hall⟩ := hrel
    have HA := Lib.hid hall; clear hall
    by_cases hlt : k < n
    · obtain ⟨ad, x, rfl, _, hxk, hgx⟩ := H.out.at_ (k := k) (by omega)
      have HX := Lib.hid hxk; clear hxk
      have hc := getI hgx; clear hgx
      simp only [show Enc.n I64 = 1 from rfl, Nat.mul_one] at hc
      by_cases h0 : x.v = 0
      · have hb : (x.v != 0) = false := by simp [h0]
        have H0 := Lib.hid h0; clear h0
        go_wp2
        go_round
        case rel =>
          refine ⟨k + 1, by omega, by go_num, fun z hz => ?_⟩
          rcases mem_take_succ HX.out hz with h | h
          · exact HA.out z h
          · subst h; exact H0.out
        case measure => simp [intOf] <;> omega
      · have hb : (x.v != 0) = true := by simp [h0]
        go_wp2
        go_ret
        refine ⟨ret_int ?_, rfl⟩
        have hs : xs = xs.take k ++ x :: xs.drop (k + 1) := by
          have hl : k < xs.length := (List.getElem?_eq_some_iff.1 HX.out).1
          have hxx : xs[k] = x := (List.getElem?_eq_some_iff.1 HX.out).2
          rw [← hxx, List.getElem_cons_drop, List.take_append_drop]
        unfold orI
        rw [hs, List.map_append, List.find?_append, List.find?_eq_none.2 (by
          intro y hy
          obtain ⟨z, hz, rfl⟩ := List.mem_map.1 hy
          simp [HA.out z hz])]
        simp [hb]
    · go_wp2
      go_ret
      refine ⟨ret_int ?_, rfl⟩
      unfold orI
      rw [List.find?_eq_none.2 (by
          intro y hy
          obtain ⟨z, hz, rfl⟩ := List.mem_map.1 hy
          simp [HA.out z (by rw [List.take_of_length_le (by have := H.out.1; omega)]; exact hz)])]
      rfl

def beforeI (a b : GName) : Int := orI [cmpI a.client b.client, cmpI a.seq b.seq]
set_option maxRecDepth 100000 in
set_option maxHeartbeats 400000 in
theorem before_any (a b : GName) (w : World) :
    Calls Tryz.prog 126 #[a.val, b.val] w fun e w' => e = .returned (.int .i64 (beforeI a b)) ∧ Below w.heap.size w w' := by
  go_enter Tryz.func126, Tryz.ntmps126
  go_wp2
  refine wp_region_tail 10 (by kernel_rfl) (by kernel_rfl) ?_
  simp only [List.take_succ_cons, List.take_zero, List.drop_succ_cons, List.drop_zero]
  repeat still_step
  still_call (flipC (compare_any _ _ _))
  repeat still_step
  still_call (flipC (compare_any _ _ _))
  refine wpStill_nil ?_
  go_wp2_with fail
  refine (or_any _ _ _ [⟨cmpI a.client b.client⟩, ⟨cmpI a.seq b.seq⟩] _ (w.heap.size + 1 + 1 + 1) ?_ (by decide)).mono ?_
  · exact Sl.drew_ (Sl.new_ rfl rfl (by simp only [World.size_alloc]) (by omega))
  · rintro e w' ⟨rfl, rfl⟩
    go_wp2
    go_ret
    exact ⟨ret_int rfl, ((((Below.refl _ _).alloc (Nat.le_refl _) _).alloc (by simp) _).alloc (by simp only [World.size_alloc]; omega) _).drew⟩

end Go.Proofs.YthkifibmihijaaaGreatDoor
/- What audit.Rising computes. Conditions: those named in each theorem. -/
namespace Go.Proofs.YthkifibmihijaaaGreatDoor
open Go Go.RowKit Go.Gv

/-- Does b stand rightly behind a? -/
def riseB (a b : GEntry) : Bool := decide (a.time < b.time) || (decide (b.time = a.time) && decide (beforeI a.name b.name < 0))
def risingB : List GEntry → Bool
  | a :: b :: r => riseB a b && risingB (b :: r)
  | _ => true
theorem risingB_iff : ∀ (xs : List GEntry), risingB xs = true ↔ ∀ k a b, xs[k]? = some a → xs[k + 1]? = some b → riseB a b = true
  | [] => by simp [risingB]
  | [x] => by simp [risingB]
  | x :: y :: r => by
    simp only [risingB, Bool.and_eq_true, risingB_iff (y :: r)]
    constructor
    · rintro ⟨h1, h2⟩ k a b ha hb
      cases k with
      | zero => simp at ha hb; subst ha; subst hb; exact h1
      | succ k => exact h2 k a b (by simpa using ha) (by simpa using hb)
    · intro h
      exact ⟨h 0 x y rfl rfl, fun k a b ha hb => h (k + 1) a b (by simpa using ha) (by simpa using hb)⟩

end Go.Proofs.YthkifibmihijaaaGreatDoor
/- What audit.Fair computes. Conditions: those named in each theorem. -/
namespace Go.Proofs.YthkifibmihijaaaGreatDoor
open Go Go.RowKit Go.Gv

/-- A slice of slices of entries reads as a list of lists. -/
def LogsIs (w : World) (B : Nat) (A : Option Addr) (n : Nat) (ls : List (List GEntry)) : Prop :=
  ∃ hs : List Hdr, Sl Hdr w B A n hs ∧ hs.length = ls.length ∧ ∀ (i : Nat) (h : Hdr) (l : List GEntry), hs[i]? = some h → ls[i]? = some l → Sl GEntry w B h.a h.len l ∧ h.len ≤ h.cap ∧ h.cap ≤ maxLen
theorem LogsIs.len {w : World} {B : Nat} {A : Option Addr} {n : Nat} {ls : List (List GEntry)} (h : LogsIs w B A n ls) : ls.length = n := by
  obtain ⟨hs, h1, h2, _⟩ := h; rw [← h2]; exact h1.1
theorem LogsIs.below {w w' : World} {B : Nat} {A : Option Addr} {n : Nat} {ls : List (List GEntry)} (h : LogsIs w B A n ls) (hb : Below B w w') : LogsIs w' B A n ls := by
  obtain ⟨hs, h1, h2, h3⟩ := h
  exact ⟨hs, h1.below hb, h2, fun i h l a b => ⟨(h3 i h l a b).1.below hb, (h3 i h l a b).2⟩⟩
theorem LogsIs.at_ {w : World} {B : Nat} {A : Option Addr} {n : Nat} {ls : List (List GEntry)} (h : LogsIs w B A n ls) {k : Nat} (hk : k < n) :
    ∃ (ad : Addr) (A2 : Option Addr) (n2 c2 : Nat) (l : List GEntry), A = some ad ∧ ad.block < B ∧ ls[k]? = some l ∧ w.cell? (ad.add k) = some (.slice A2 n2 c2) ∧ Sl GEntry w B A2 n2 l ∧ n2 ≤ c2 ∧ c2 ≤ maxLen := by
  obtain ⟨hs, h1, h2, h3⟩ := h
  obtain ⟨ad, hd, e, hb, hx, hg⟩ := h1.at_ hk
  have hl : k < ls.length := by rw [← h2]; rw [h1.1]; exact hk
  have hls : ls[k]? = some ls[k] := List.getElem?_eq_getElem hl
  have hc := get1 (v := Hdr.val hd) rfl hg
  simp only [show Enc.n Hdr = 1 from rfl, Nat.mul_one] at hc
  exact ⟨ad, hd.a, hd.len, hd.cap, ls[k], e, hb, hls, hc, h3 k hd _ hx hls⟩

def fairB (ls : List (List GEntry)) (st : GName → List U64) : Bool :=
  ls.all fun l => (List.range l.length).all fun i => (List.range i).all fun j => !belowB (st (l.getD i default).name) (st (l.getD j default).name)
theorem getD_of {α : Type} {l : List α} {i : Nat} {x d : α} (h : l[i]? = some x) : l.getD i d = x := by simp [List.getD, h]
theorem fairB_iff (ls : List (List GEntry)) (st : GName → List U64) : fairB ls st = true ↔ ∀ l ∈ ls, ∀ (i j : Nat) (b a : GEntry), l[i]? = some b → l[j]? = some a → j < i → belowB (st b.name) (st a.name) = false := by
  unfold fairB
  simp only [List.all_eq_true, List.mem_range, Bool.not_eq_true']
  constructor
  · intro h l hl i j b a hi hj hji
    have := h l hl i (List.getElem?_eq_some_iff.1 hi).1 j hji
    rwa [getD_of hi, getD_of hj] at this
  · intro h l hl i hi j hji
    have hi' : l[i]? = some l[i] := List.getElem?_eq_getElem hi
    have hj' : l[j]? = some (l[j]'(by omega)) := List.getElem?_eq_getElem _
    rw [getD_of hi', getD_of hj']
    exact h l hl i j _ _ hi' hj' hji
theorem fairB_no {ls : List (List GEntry)} {st : GName → List U64} {l : List GEntry} {k i j : Nat} {a b : GEntry} (hl : ls[k]? = some l) (hi : l[i]? = some b) (hj : l[j]? = some a) (hji : j < i) (h : belowB (st b.name) (st a.name) = true) : fairB ls st = false := by
  cases hq : fairB ls st with
  | false => rfl
  | true =>
    have := (fairB_iff ls st).1 hq l (List.mem_of_getElem? hl) i j b a hi hj hji
    rw [h] at this; cases this

end Go.Proofs.YthkifibmihijaaaGreatDoor
/- What the law of small entries computes. Conditions: those named in each theorem. -/
namespace Go.Proofs.YthkifibmihijaaaGreatDoor
open Go Go.RowKit Go.Gv

def smallE (e : GEntry) : GEntry := ⟨⟨within e.name.client 2, within e.name.seq 3⟩, default, e.time.tmod 4⟩
def smallL (xs : List GEntry) : List GEntry := (xs.take 8).map smallE
/-- Entries whose numbers fit. -/
def EntryOk (e : GEntry) : Prop := (-9223372036854775808 ≤ e.name.client ∧ e.name.client ≤ 9223372036854775807) ∧ (-9223372036854775808 ≤ e.name.seq ∧ e.name.seq ≤ 9223372036854775807) ∧ 0 ≤ e.time ∧ e.time ≤ 18446744073709551615

end Go.Proofs.YthkifibmihijaaaGreatDoor
/- What Copy, Cut, audit.Agree and wakes compute. Conditions: those named in each theorem. -/
namespace Go.Proofs.YthkifibmihijaaaGreatDoor
open Go Go.RowKit Go.Gv

/-- Of each two logs one is a beginning of the other one. -/
def agreeB (ls : List (List GEntry)) : Bool := decide (∀ i < ls.length, ∀ j < i, prefixB (ls.getD i []) (ls.getD j []) = true)
theorem agreeB_iff (ls : List (List GEntry)) : agreeB ls = true ↔ ∀ (i j : Nat) (a b : List GEntry), ls[i]? = some a → ls[j]? = some b → j < i → prefixB a b = true := by
  unfold agreeB
  rw [decide_eq_true_eq]
  constructor
  · intro h i j a b hi hj hji
    have := h i (List.getElem?_eq_some_iff.1 hi).1 j hji
    rwa [getD_of hi, getD_of hj] at this
  · intro h i hi j hj
    exact h i j _ _ (by rw [List.getD_eq_getElem?_getD, List.getElem?_eq_getElem hi]; rfl) (by rw [List.getD_eq_getElem?_getD, List.getElem?_eq_getElem (by omega)]; rfl) hj
theorem LogsIs.drewN {w : World} {B : Nat} {A : Option Addr} {n : Nat} {ls : List (List GEntry)} (h : LogsIs w B A n ls) (m : Nat) : LogsIs (w.drewN m) B A n ls := by
  obtain ⟨hs, h1, h2, h3⟩ := h
  exact ⟨hs, h1.drewN_ m, h2, fun i h l a b => ⟨(h3 i h l a b).1.drewN_ m, (h3 i h l a b).2⟩⟩
theorem agreeB_take {ls : List (List GEntry)} {k : Nat} {l : List GEntry} (hl : ls[k]? = some l) (h : agreeB (ls.take k) = true) (h2 : ∀ j a, j < k → ls[j]? = some a → prefixB l a = true) : agreeB (ls.take (k + 1)) = true := by
  rw [agreeB_iff] at h ⊢
  intro i j a b hi hj hji
  have hik : i < k + 1 := by have := (List.getElem?_eq_some_iff.1 hi).1; simp at this; omega
  rw [List.getElem?_take_of_lt hik] at hi
  rw [List.getElem?_take_of_lt (by omega)] at hj
  by_cases he : i = k
  · subst he; rw [hl] at hi; injection hi with hi; subst hi
    exact h2 j b hji hj
  · exact h i j a b (by rw [List.getElem?_take_of_lt (by omega)]; exact hi) (by rw [List.getElem?_take_of_lt (by omega)]; exact hj) hji
theorem agreeB_no {ls : List (List GEntry)} {k j : Nat} {l m : List GEntry} (hl : ls[k]? = some l) (hm : ls[j]? = some m) (hj : j < k) (h : prefixB l m = false) : agreeB ls = false := by
  cases hA : agreeB ls
  · rfl
  · have := (agreeB_iff ls).1 hA k j l m hl hm hj
    rw [h] at this; cases this

end Go.Proofs.YthkifibmihijaaaGreatDoor
/- AuditGrows returns true, walked. Conditions: those named in each theorem. -/
namespace Go.Proofs.YthkifibmihijaaaGreatDoor
open Go Go.RowKit Go.Gv

/-- Slices of the call's own, by their address. -/
def OwnA {α : Type} [Enc α] (w : World) (base : Nat) (e : TypeId) (A : Option Addr) (c : Nat) (xs : List α) : Prop := OwnS w base e (.slice A xs.length c) xs
section
variable {α : Type} [Enc α] {w w' : World} {base B : Nat} {e t : TypeId} {A : Option Addr} {c : Nat} {xs ys : List α} {P : Program}
theorem OwnS.ownA {v : Value} (h : OwnS w base e v xs) : ∃ A c, v = .slice A xs.length c ∧ OwnA w base e A c xs ∧ xs.length ≤ c ∧ c ≤ maxLen := by
  obtain ⟨A, c, rfl, _, h1, h2, _⟩ := h.shape
  exact ⟨A, c, rfl, h, h1, h2⟩
theorem OwnA.sl (h : OwnA w base e A c xs) : Sl α w w.heap.size A xs.length xs := by
  obtain ⟨A', c', hv, hs, _⟩ := OwnS.shape h
  injection hv with h1 h2 h3; subst h1; exact hs
theorem OwnA.below (h : OwnA w base e A c xs) (hb : Below w.heap.size w w') : OwnA w' base e A c xs := OwnS.below h hb (Nat.le_refl _)
end

theorem entry_time (x : GEntry) (t : Int) : Enc.enc (⟨x.name, x.hash, t⟩ : GEntry) = (Enc.enc x).set 34 (.int .u64 t) := by
  change GEntry.enc _ = (GEntry.enc x).set 34 _
  unfold GEntry.enc
  rw [List.set_append_right _ _ (by rw [GName.enc_len]; omega), List.set_append_right _ _ (by rw [GHash.enc_len, GName.enc_len]; omega), GName.enc_len, GHash.enc_len]
  rfl
theorem flat_set {α : Type} [Enc α] {x y : α} {j : Nat} {v : Value} (hj : j < Enc.n α) (hy : Enc.enc y = (Enc.enc x).set j v) :
    ∀ (xs : List α) (k : Nat), xs[k]? = some x → (xs.flatMap Enc.enc).set (k * Enc.n α + j) v = (xs.set k y).flatMap Enc.enc
  | [], k, h => by simp at h
  | z :: xs, 0, h => by
    simp at h; subst h
    rw [List.flatMap_cons, List.set_cons_zero, List.flatMap_cons, hy, Nat.zero_mul, Nat.zero_add, List.set_append_left _ _ (by rw [Enc.len]; exact hj)]
  | z :: xs, k + 1, h => by
    have e : (k + 1) * Enc.n α + j - (Enc.enc z).length = k * Enc.n α + j := by rw [Enc.len, Nat.add_mul]; omega
    rw [List.flatMap_cons, List.set_cons_succ, List.flatMap_cons, List.set_append_right _ _ (by rw [Enc.len, Nat.add_mul]; omega), e, flat_set hj hy xs k (by simpa using h)]
theorem OwnA.poke {α : Type} [Enc α] {w : World} {base e c g k j : Nat} {xs : List α} {x y : α} {v : Value} (h : OwnA w base e (some ⟨g, 0, none⟩) c xs) (hk : xs[k]? = some x) (hj : j < Enc.n α) (hy : Enc.enc y = (Enc.enc x).set j v) :
    OwnA (w.setCell ⟨g, k * Enc.n α + j, none⟩ v) base e (some ⟨g, 0, none⟩) c (xs.set k y) := by
  rcases h with ⟨h0, ⟨h1, _⟩ | ⟨g', cap, cur, h1, h2, h3, h4, h5, h6, h7⟩⟩
  · cases h1
  · injection h1 with h1 _ h1c; injection h1 with h1; injection h1 with h1; subst h1; subst h1c
    have hh := heap_setCell_same w g (k * Enc.n α + j) cur e v h3
    refine ⟨by rw [flat_len, List.length_set], .inr ⟨g, c, _, by rw [List.length_set], h2, hh, by rw [List.length_set]; exact h4, h5, by simpa using h6, ?_⟩⟩
    rw [List.length_set, Array.toList_setIfInBounds, List.take_set, h7, flat_set hj hy xs k hk]
theorem add_zeroA (g n : Nat) : (⟨g, 0, none⟩ : Addr).add n = ⟨g, n, none⟩ := by unfold Addr.add; split <;> simp_all

theorem _root_.Go.Gv.Sl.step {α : Type} [Enc α] {w w' : World} {A : Option Addr} {n : Nat} {xs : List α} (h : Sl α w w.heap.size A n xs) (hb : Below w.heap.size w w') : Sl α w' w'.heap.size A n xs := (h.below hb).more hb.size

theorem prefixB_takes (l : List GEntry) (i j : Nat) : prefixB (l.take i) (l.take j) = true := by
  unfold prefixB
  rw [decide_eq_true_eq, List.take_take, List.take_take, List.length_take, List.length_take]
  congr 1; omega
theorem prefixB_of {l a b : List GEntry} {i j : Nat} (ha : a = l.take i) (hb : b = l.take j) : prefixB a b = true := by rw [ha, hb]; exact prefixB_takes l i j
theorem agreeB_takes (l : List GEntry) (ls : List (List GEntry)) (h : ∀ a ∈ ls, ∃ k, a = l.take k) : agreeB ls = true := by
  rw [agreeB_iff]
  intro i j a b hi hj _
  obtain ⟨k, rfl⟩ := h a (List.mem_of_getElem? hi)
  obtain ⟨k2, rfl⟩ := h b (List.mem_of_getElem? hj)
  exact prefixB_takes l k k2

def Logs2 (w : World) (B : Nat) : List Hdr → List (List GEntry) → Prop
  | [], [] => True
  | h :: hs, l :: ls => (Sl GEntry w B h.a h.len l ∧ h.len ≤ h.cap ∧ h.cap ≤ maxLen) ∧ Logs2 w B hs ls
  | _, _ => False
theorem Logs2.len {w : World} {B : Nat} : ∀ {hs : List Hdr} {ls : List (List GEntry)}, Logs2 w B hs ls → hs.length = ls.length
  | [], [], _ => rfl
  | _ :: hs, _ :: ls, h => by simp [Logs2.len h.2]
  | [], _ :: _, h => h.elim
  | _ :: _, [], h => h.elim
theorem Logs2.get {w : World} {B : Nat} : ∀ {hs : List Hdr} {ls : List (List GEntry)}, Logs2 w B hs ls → ∀ (i : Nat) (h : Hdr) (l : List GEntry), hs[i]? = some h → ls[i]? = some l → Sl GEntry w B h.a h.len l ∧ h.len ≤ h.cap ∧ h.cap ≤ maxLen
  | [], [], _, i, h, l, h1, _ => by simp at h1
  | x :: hs, y :: ls, H, 0, h, l, h1, h2 => by
    simp at h1 h2; subst h1; subst h2; exact H.1
  | x :: hs, y :: ls, H, i + 1, h, l, h1, h2 => Logs2.get H.2 i h l (by simpa using h1) (by simpa using h2)
theorem LogsIs.new {w : World} {B n p : Nat} {t : TypeId} {cs : Array Value} {hs : List Hdr} {ls : List (List GEntry)} (h : Logs2 w B hs ls) (hB : B ≤ w.heap.size) (hcs : cs.toList = hs.flatMap Enc.enc) (hn : hs.length = n) (hp : p = w.heap.size) :
    LogsIs (w.alloc (.cells cs t)) (w.heap.size + 1) (some ⟨p, 0, none⟩) n ls :=
  ⟨hs, Sl.new_ hcs hn hp (by omega), h.len, fun i hd l h1 h2 => by
    obtain ⟨a, b, c⟩ := h.get i hd l h1 h2
    exact ⟨((a.below ((Below.refl _ _).alloc hB _))).more (by omega), b, c⟩⟩

end Go.Proofs.YthkifibmihijaaaGreatDoor
/- A map of stamps under construction; AuditTurned returns true, walked. Conditions: those named in each theorem. -/
namespace Go.Proofs.YthkifibmihijaaaGreatDoor
open Go Go.RowKit Go.Gv

theorem _root_.Go.Gv.Sl.grown {α : Type} [Enc α] {w w' : World} {B : Nat} {A : Option Addr} {n : Nat} {xs : List α} {row : Option Nat} (h : Sl α w B A n xs) (hg : w.grownBy w' row) (hB : B ≤ w.heap.size) (hne : 0 < n → ∀ ad, A = some ad → row ≠ some ad.block) : Sl α w' B A n xs := by
  refine ⟨h.1, fun hn => ?_⟩
  obtain ⟨ad, e, hb, hc⟩ := h.2 hn
  exact ⟨ad, e, hb, fun k x hx => (get?_keep (hg.block _ (by rw [add_block]; omega) (by rw [add_block]; exact fun h => hne hn ad e h.symm))).trans (hc k x hx)⟩
theorem _root_.Go.Gv.Sl.block_lt {α : Type} [Enc α] {w : World} {B : Nat} {A : Option Addr} {n : Nat} {xs : List α} (h : Sl α w B A n xs) (hn : 0 < n) {ad : Addr} (ha : A = some ad) : ad.block < B := by
  obtain ⟨ad', e, hb, _⟩ := h.2 hn
  rw [ha] at e; injection e with e; subst e; exact hb
theorem append_spec {α : Type} [Enc α] {w : World} {base B : Nat} {e t : TypeId} {v : Value} {xs ys : List α} {P : Program} {by8 : Nat} {A : Option Addr} {m c : Nat} {ty : TypeId} {r : Result Value} (hrun : (gAppend #[t, t] ty #[v, .slice A m c]).run P w = r) (E : ElemI P t e α by8) (hown : OwnS w base e v xs) (hr : Sl α w B A m ys) (h63 : xs.length + m ≤ maxLen) (hbytes : (xs.length + m) * by8 ≤ 140737488355328) (hbase : base ≤ w.heap.size) :
    ∃ v' w', r = .ok v' w' ∧ OwnS w' base e v' (xs ++ ys) ∧ w.grownBy w' v.ownBlock ∧ (v'.ownBlock = v.ownBlock ∨ v'.ownBlock = some w.heap.size) := by
  obtain ⟨v', w', h, rest⟩ := gAppend_S E hown hr h63 hbytes hbase ty
  exact ⟨v', w', hrun.symm.trans h, rest⟩

section
variable {w w' : World} {r : Nat} {ob ob' : Option Nat} {m : List (GName × Hdr)} {st : GName → List U64}
end

/-! ### AuditTurned, plain -/
def entE (i : Nat) (t : Int) : GEntry := ⟨⟨i, 1⟩, default, t⟩
def entL (T : List Int) : List GEntry := T.mapIdx entE
def stOf (T : List Int) (k : GName) : List U64 := if k.seq = 1 ∧ 0 ≤ k.client then (match T[k.client.toNat]? with | some t => [⟨t⟩, ⟨t + 1⟩] | none => []) else []
structure TimesOk (T : List Int) (L : Int) : Prop where
  up : ∀ (i j : Nat) (a b : Int), T[i]? = some a → T[j]? = some b → i < j → a + 1 < b
  le : ∀ t ∈ T, 0 ≤ t ∧ t + 1 ≤ L
  l0 : 0 ≤ L
  l6 : L ≤ 6 * T.length
theorem stOf_snoc (T : List Int) (t : Int) : (fun k' => if k' = (⟨(T.length : Int), 1⟩ : GName) then [⟨t⟩, ⟨t + 1⟩] else stOf T k') = stOf (T ++ [t]) := by
  funext k
  by_cases e : k = ⟨(T.length : Int), 1⟩
  · subst e
    simp [stOf]
  · rw [if_neg e]
    unfold stOf
    by_cases hk : k.seq = 1 ∧ 0 ≤ k.client
    · rw [if_pos hk, if_pos hk]
      have hne : k.client.toNat ≠ T.length := fun h => e (by obtain ⟨c, s⟩ := k; simp only at hk h; congr 1 <;> omega)
      by_cases hlt : k.client.toNat < T.length
      · rw [List.getElem?_append_left hlt]
      · rw [List.getElem?_eq_none (by omega), List.getElem?_eq_none (by simp; omega)]
    · rw [if_neg hk, if_neg hk]
theorem TimesOk.snoc {T : List Int} {L x : Int} (h : TimesOk T L) (h0 : 0 ≤ x) (h4 : x ≤ 4) : TimesOk (T ++ [L + 1 + x]) (L + 1 + x + 1) := by
  have hle := h.le; have hl0 := h.l0; have hl6 := h.l6
  refine ⟨fun i j a b hi hj hij => ?_, fun t ht => ?_, by omega, by simp; omega⟩
  · have hj' := (List.getElem?_eq_some_iff.1 hj).1
    simp at hj'
    rw [List.getElem?_append_left (by omega)] at hi
    by_cases hjl : j < T.length
    · rw [List.getElem?_append_left hjl] at hj
      exact h.up i j a b hi hj hij
    · have : j = T.length := by omega
      subst this
      simp at hj
      have := hle a (List.mem_of_getElem? hi)
      omega
  · simp at ht
    rcases ht with ht | rfl
    · have := hle t ht; omega
    · omega
theorem entL_snoc (T : List Int) (t : Int) : entL (T ++ [t]) = entL T ++ [entE T.length t] := by simp [entL, List.mapIdx_append]
theorem entL_get {T : List Int} {i : Nat} {e : GEntry} (h : (entL T)[i]? = some e) : ∃ t, T[i]? = some t ∧ e = entE i t := by
  simp only [entL, List.getElem?_mapIdx, Option.map_eq_some_iff] at h
  obtain ⟨t, h1, h2⟩ := h; exact ⟨t, h1, h2.symm⟩
theorem stOf_at {T : List Int} {i : Nat} {t : Int} (h : T[i]? = some t) : stOf T (entE i t).name = [⟨t⟩, ⟨t + 1⟩] := by simp [stOf, entE, h]
theorem belowB_pair (s t : Int) : belowB [⟨s⟩, ⟨s + 1⟩] [⟨t⟩, ⟨t + 1⟩] = decide (s + 1 < t) := by
  rw [Bool.eq_iff_iff]
  simp [belowB, allBelow]
  omega
theorem fair_entL {T : List Int} {L : Int} (h : TimesOk T L) (ls : List (List GEntry)) (hls : ∀ l ∈ ls, ∃ k, l = (entL T).take k) : fairB ls (stOf T) = true := by
  rw [fairB_iff]
  intro l hl i j b a hi hj hji
  obtain ⟨k, rfl⟩ := hls l hl
  have hi' : (entL T)[i]? = some b := by rw [List.getElem?_take] at hi; split at hi; exact hi; cases hi
  have hj' : (entL T)[j]? = some a := by rw [List.getElem?_take] at hj; split at hj; exact hj; cases hj
  obtain ⟨t, h1, rfl⟩ := entL_get hi'
  obtain ⟨s, h2, rfl⟩ := entL_get hj'
  rw [stOf_at h1, stOf_at h2, belowB_pair, decide_eq_false_iff_not]
  have := h.up j i s t h2 h1 hji
  omega
theorem unfair_swap {T : List Int} {L : Int} (h : TimesOk T L) {i : Nat} {a b : GEntry} (ha : (entL T)[i]? = some a) (hb : (entL T)[i + 1]? = some b) (l : List GEntry) : fairB [l, ((entL T).set i b).set (i + 1) a] (stOf T) = false := by
  obtain ⟨s, h1, rfl⟩ := entL_get ha
  obtain ⟨t, h2, rfl⟩ := entL_get hb
  have l1 := (List.getElem?_eq_some_iff.1 ha).1
  have l2 := (List.getElem?_eq_some_iff.1 hb).1
  refine fairB_no (k := 1) (i := i + 1) (j := i) (l := ((entL T).set i (entE (i + 1) t)).set (i + 1) (entE i s)) rfl ?_ ?_ (by omega) ?_ (a := entE (i + 1) t) (b := entE i s)
  · rw [List.getElem?_set_self (by simpa using l2)]
  · rw [List.getElem?_set_ne (by omega), List.getElem?_set_self l1]
  · rw [stOf_at h1, stOf_at h2, belowB_pair, decide_eq_true_eq]
    exact h.up i (i + 1) s t h1 h2 (by omega)
theorem fair_none (ls : List (List GEntry)) : fairB ls (fun _ => []) = true := by
  rw [fairB_iff]; intro l _ i j b a _ _ _; rfl
end Go.Proofs.YthkifibmihijaaaGreatDoor
/- A whole element written into a slice of the call's own. Conditions: those named in each theorem. -/
namespace Go.Proofs.YthkifibmihijaaaGreatDoor
open Go Go.RowKit Go.Gv

def setSeg : List Value → Nat → List Value → List Value
  | l, _, [] => l
  | l, p, v :: vs => setSeg (l.set p v) (p + 1) vs
theorem setSeg_mid : ∀ (b a pre rest : List Value), a.length = b.length → setSeg (pre ++ (a ++ rest)) pre.length b = pre ++ (b ++ rest)
  | [], a, pre, rest, h => by
    have : a = [] := List.eq_nil_of_length_eq_zero h
    subst this; rfl
  | v :: vs, [], pre, rest, h => by simp at h
  | v :: vs, u :: us, pre, rest, h => by
    unfold setSeg
    rw [List.set_append_right _ _ (Nat.le_refl _), Nat.sub_self, List.cons_append, List.set_cons_zero]
    have := setSeg_mid vs us (pre ++ [v]) rest (by simpa using h)
    simpa using this
theorem putFrom_heap {g o e : Nat} : ∀ (vs : List Value) (i : Nat) (w : World) (cur : Array Value), w.heap[g]? = some (.cells cur e (0, 0)) →
    ∃ cur', (World.putFrom w ⟨g, o, none⟩ i vs).heap[g]? = some (.cells cur' e (0, 0)) ∧ cur'.toList = setSeg cur.toList (o + i) vs ∧ cur'.size = cur.size
  | [], i, w, cur, h => ⟨cur, h, rfl, rfl⟩
  | v :: vs, i, w, cur, h => by
    have ha : (⟨g, o, none⟩ : Addr).add i = ⟨g, o + i, none⟩ := by unfold Addr.add; split <;> simp_all
    obtain ⟨cur', h1, h2, h3⟩ := putFrom_heap (o := o) vs (i + 1) (w.setCell ⟨g, o + i, none⟩ v) _ (heap_setCell_same w g (o + i) cur e v h)
    refine ⟨cur', ?_, ?_, by simpa using h3⟩
    · unfold World.putFrom; rw [ha]; exact h1
    · rw [h2, Array.toList_setIfInBounds]; rfl
theorem putFrom_below {B g o : Nat} (hB : B ≤ g) : ∀ (vs : List Value) (i : Nat) (w0 w : World), Below B w0 w → Below B w0 (World.putFrom w ⟨g, o, none⟩ i vs)
  | [], _, _, _, h => h
  | v :: vs, i, w0, w, h => putFrom_below hB vs (i + 1) w0 _ (h.setCell (by rw [add_block]; exact hB) v)
theorem putCells_below {B g o : Nat} {w0 w : World} (h : Below B w0 w) (hB : B ≤ g) (vs : List Value) : Below B w0 (World.putCells w ⟨g, o, none⟩ vs) := by
  unfold World.putCells; exact putFrom_below hB vs 0 w0 w h
theorem OwnA.put {α : Type} [Enc α] {w : World} {base e c g k : Nat} {xs : List α} (h : OwnA w base e (some ⟨g, 0, none⟩) c xs) (hk : k < xs.length) (y : α) :
    OwnA (World.putCells w ⟨g, k * Enc.n α, none⟩ (Enc.enc y)) base e (some ⟨g, 0, none⟩) c (xs.set k y) ∧ blkFree (World.putCells w ⟨g, k * Enc.n α, none⟩ (Enc.enc y)) g = true := by
  rcases h with ⟨h0, ⟨h1, _⟩ | ⟨g', cap, cur, h1, h2, h3, h4, h5, h6, h7⟩⟩
  · cases h1
  · injection h1 with h1 _ h1c; injection h1 with h1; injection h1 with h1; subst h1; subst h1c
    unfold World.putCells
    obtain ⟨cur', e1, e2, e3⟩ := putFrom_heap (o := k * Enc.n α) (Enc.enc y) 0 w cur h3
    refine ⟨⟨by rw [flat_len, List.length_set], .inr ⟨g, c, cur', by rw [List.length_set], h2, e1, by rw [List.length_set]; exact h4, h5, by rw [e3]; exact h6, ?_⟩⟩, by unfold blkFree; rw [e1]; rfl⟩
    have hx : xs = xs.take k ++ xs[k] :: xs.drop (k + 1) := by rw [List.getElem_cons_drop, List.take_append_drop]
    have hpre : ((xs.take k).flatMap Enc.enc).length = k * Enc.n α := by rw [flat_len, List.length_take, Nat.min_eq_left (by omega)]
    have hcur : cur.toList = (xs.take k).flatMap Enc.enc ++ (Enc.enc xs[k] ++ ((xs.drop (k + 1)).flatMap Enc.enc ++ cur.toList.drop (xs.length * Enc.n α))) := by
      conv => lhs; rw [← List.take_append_drop (xs.length * Enc.n α) cur.toList, h7]
      conv => lhs; rw [hx]
      simp only [List.flatMap_append, List.flatMap_cons, List.append_assoc]
      rw [← hx]
    have hset : xs.set k y = xs.take k ++ y :: xs.drop (k + 1) := by
      rw [List.set_eq_take_append_cons_drop, if_pos hk]
    have e4 : cur'.toList = (xs.set k y).flatMap Enc.enc ++ cur.toList.drop (xs.length * Enc.n α) := by
      have := setSeg_mid (Enc.enc y) (Enc.enc xs[k]) ((xs.take k).flatMap Enc.enc) ((xs.drop (k + 1)).flatMap Enc.enc ++ cur.toList.drop (xs.length * Enc.n α)) (by rw [Enc.len, Enc.len])
      rw [hpre, ← hcur] at this
      rw [e2, Nat.add_zero, this, hset]
      simp only [List.flatMap_append, List.flatMap_cons, List.append_assoc]
    rw [e4, List.length_set, List.take_append_of_le_length (by rw [flat_len, List.length_set]; exact Nat.le_refl _), List.take_of_length_le (by rw [flat_len, List.length_set]; exact Nat.le_refl _)]
end Go.Proofs.YthkifibmihijaaaGreatDoor
/- Slices of slices that the call owns. Conditions: those named in each theorem. -/
namespace Go.Proofs.YthkifibmihijaaaGreatDoor
open Go Go.RowKit Go.Gv

/-- Headers that read as lists, none of them in block ob. -/
def RowsAt {α : Type} [Enc α] (w : World) (ob : Option Nat) : List Hdr → List (List α) → Prop
  | [], [] => True
  | h :: hs, l :: ls => (Sl α w w.heap.size h.a h.len l ∧ h.len ≤ h.cap ∧ h.cap ≤ maxLen ∧ (0 < h.len → ∀ ad, h.a = some ad → ob ≠ some ad.block)) ∧ RowsAt w ob hs ls
  | _, _ => False
section
variable {α : Type} [Enc α] {w w' : World} {ob ob' : Option Nat}
theorem RowsAt.len : ∀ {hs : List Hdr} {ls : List (List α)}, RowsAt w ob hs ls → hs.length = ls.length
  | [], [], _ => rfl
  | _ :: hs, _ :: ls, h => by simp [RowsAt.len h.2]
  | [], _ :: _, h => h.elim
  | _ :: _, [], h => h.elim
theorem RowsAt.get : ∀ {hs : List Hdr} {ls : List (List α)}, RowsAt w ob hs ls → ∀ (i : Nat) (h : Hdr) (l : List α), hs[i]? = some h → ls[i]? = some l → Sl α w w.heap.size h.a h.len l ∧ h.len ≤ h.cap ∧ h.cap ≤ maxLen ∧ (0 < h.len → ∀ ad, h.a = some ad → ob ≠ some ad.block)
  | [], [], _, i, h, l, h1, _ => by simp at h1
  | x :: hs, y :: ls, H, 0, h, l, h1, h2 => by
    simp at h1 h2; subst h1; subst h2; exact H.1
  | x :: hs, y :: ls, H, i + 1, h, l, h1, h2 => RowsAt.get H.2 i h l (by simpa using h1) (by simpa using h2)
theorem RowsAt.step (hb : Below w.heap.size w w') : ∀ {hs : List Hdr} {ls : List (List α)}, RowsAt w ob hs ls → RowsAt w' ob hs ls
  | [], [], h => h
  | _ :: _, _ :: _, h => ⟨⟨h.1.1.stepB hb, h.1.2⟩, RowsAt.step hb h.2⟩
  | [], _ :: _, h => h.elim
  | _ :: _, [], h => h.elim
theorem RowsAt.grown (hg : w.grownBy w' ob) (ho : ob' = ob ∨ ob' = some w.heap.size) : ∀ {hs : List Hdr} {ls : List (List α)}, RowsAt w ob hs ls → RowsAt w' ob' hs ls
  | [], [], h => h
  | x :: _, _ :: _, h => by
    obtain ⟨⟨h1, h2, h3, h4⟩, hr⟩ := h
    refine ⟨⟨(h1.grown hg (Nat.le_refl _) h4).more hg.size, h2, h3, fun hn ad ha => ?_⟩, RowsAt.grown hg ho hr⟩
    rcases ho with rfl | rfl
    · exact h4 hn ad ha
    · intro e; injection e with e
      have := h1.block_lt hn ha; omega
  | [], _ :: _, h => h.elim
  | _ :: _, [], h => h.elim
theorem RowsAt.snoc {h : Hdr} {l : List α} (hl : Sl α w w.heap.size h.a h.len l ∧ h.len ≤ h.cap ∧ h.cap ≤ maxLen ∧ (0 < h.len → ∀ ad, h.a = some ad → ob ≠ some ad.block)) : ∀ {hs : List Hdr} {ls : List (List α)}, RowsAt w ob hs ls → RowsAt w ob (hs ++ [h]) (ls ++ [l])
  | [], [], _ => ⟨hl, trivial⟩
  | _ :: _, _ :: _, h => ⟨h.1, RowsAt.snoc hl h.2⟩
  | [], _ :: _, h => h.elim
  | _ :: _, [], h => h.elim

/-- A slice of slices, all of the call's own. -/
def OwnRows (α : Type) [Enc α] (w : World) (base : Nat) (e : TypeId) (v : Value) (ls : List (List α)) : Prop := ∃ hs : List Hdr, OwnS w base e v hs ∧ RowsAt w v.ownBlock hs ls
variable {base : Nat} {e : TypeId} {v : Value} {ls : List (List α)}
theorem OwnRows.nil (w : World) (base : Nat) (e : TypeId) : OwnRows α w base e (.slice none 0 0) [] := ⟨[], OwnS.nil _ _ _, trivial⟩
theorem OwnRows.step (h : OwnRows α w base e v ls) (hb : Below w.heap.size w w') : OwnRows α w' base e v ls := by
  obtain ⟨hs, h1, h2⟩ := h
  exact ⟨hs, h1.step hb, h2.step hb⟩
theorem OwnRows.ownA (h : OwnRows α w base e v ls) : ∃ (A : Option Addr) (c : Nat), v = .slice A ls.length c ∧ ls.length ≤ c ∧ c ≤ maxLen := by
  obtain ⟨hs, h1, h2⟩ := h
  obtain ⟨A, c, rfl, _, hc, hm⟩ := OwnS.ownA h1
  exact ⟨A, c, by rw [h2.len], by rw [← h2.len]; exact hc, hm⟩
end
theorem OwnRows.logs {w : World} {base : Nat} {e : TypeId} {A : Option Addr} {n c : Nat} {ls : List (List GEntry)} (h : OwnRows GEntry w base e (.slice A n c) ls) : LogsIs w w.heap.size A n ls := by
  obtain ⟨hs, h1, h2⟩ := h
  obtain ⟨A', c', hv, h3, hc, hm⟩ := OwnS.ownA h1
  injection hv with e1 e2 e3
  subst e1; subst e2
  exact ⟨hs, h3.sl, h2.len, fun i hd l a b => by
    obtain ⟨g1, g2, g3, _⟩ := h2.get i hd l a b
    exact ⟨g1, g2, g3⟩⟩
theorem LogsIs.stepB {w w' : World} {A : Option Addr} {n : Nat} {ls : List (List GEntry)} (h : LogsIs w w.heap.size A n ls) (hb : Below w.heap.size w w') : LogsIs w' w'.heap.size A n ls := by
  obtain ⟨hs, h1, h2, h3⟩ := h
  exact ⟨hs, h1.stepB hb, h2, fun i hd l a b => ⟨(h3 i hd l a b).1.stepB hb, (h3 i hd l a b).2⟩⟩
theorem OwnA.stepB {α : Type} [Enc α] {w w' : World} {base : Nat} {e : TypeId} {A : Option Addr} {c : Nat} {xs : List α} (h : OwnA w base e A c xs) (hb : Below w.heap.size w w') : OwnA w' base e A c xs := OwnS.step h hb
end Go.Proofs.YthkifibmihijaaaGreatDoor
/- Regions that leave their order open, phase by phase, beside calls that make memory. Conditions: those named in each theorem. -/
namespace Go.Gv
open Go Go.RowKit

/-! G w w': what may come between two operations of the region (draws, new blocks ..). An operation named in T may do more; it waits for all that looks. -/
section
variable {P : Program} {ops : Array Oper} {md : Region.Mode} {Q : Exit → Act → World → Prop} {G : World → World → Prop} {T : List Nat}

@[go_sem] def lookUponG (P : Program) (G : World → World → Prop) (w : World) (v : Value) : Result Next → Prop
  | .ok (.value u) w' => w' = w ∧ u = v
  | .ok .skip w' => w' = w ∧ v = undef
  | .ok (.enter f args) w' => w' = w ∧ Calls P f args w (fun e w'' => e = .returned v ∧ G w w'')
  | _ => False
@[go_sem] def _root_.Go.Oper.looksG {ι : Type} (P : Program) (G : World → World → Prop) (o : Oper) (a : Act) (W : ι → World) (next : Act → Prop) : Prop := ∃ v, (∀ z, lookUponG P G (W z) v ((execOp a.eval o).run P (W z))) ∧ next (a.put o.dst v)

def YieldsG (P : Program) (ops : Array Oper) (G : World → World → Prop) (w : World) (o : Oper) (v : Value) (a : Act) : Prop :=
  (Region.wanted o (yielded ops a.tmps) = true ∧ ∀ w', G w w' → lookUponG P G w' v ((execOp a.eval o).run P w')) ∨ (Region.wanted o (yielded ops a.tmps) = false ∧ v = undef)
theorem YieldsG.of_same {w : World} {o : Oper} {v : Value} {a a' : Act} (hy : YieldsG P ops G w o v a) (he : execOp a'.eval o = execOp a.eval o)
    (hw : Region.wanted o (yielded ops a'.tmps) = Region.wanted o (yielded ops a.tmps)) : YieldsG P ops G w o v a' := by
  unfold YieldsG at *
  rw [he, hw]
  exact hy
theorem YieldsG.ext (ht : ∀ a b c, G a b → G b c → G a c) {w w1 : World} {o : Oper} {v : Value} {a : Act} (hy : YieldsG P ops G w o v a) (h : G w w1) : YieldsG P ops G w1 o v a := by
  rcases hy with ⟨h1, h2⟩ | h
  · exact .inl ⟨h1, fun w' hw' => h2 w' (ht _ _ _ h hw')⟩
  · exact .inr h
theorem YieldsG.wpOp (hrf : ∀ a, G a a) {i : Nat} {o : Oper} {v : Value} {a : Act} {w w' : World} {K : Act → World → Prop} (hi : ops[i]? = some o) (hy : YieldsG P ops G w o v a) (hw' : G w w') (h : ∀ w'', G w' w'' → K (a.put o.dst v) w'') : wpOp P ops Q i K a w' := by
  unfold Go.wpOp
  simp only [hi]
  rcases hy with ⟨hw, hv⟩ | ⟨hw, rfl⟩
  · simp only [hw, if_true]
    refine .inl ?_
    have hz := hv w' hw'
    unfold Oper.wp
    generalize (execOp a.eval o).run P w' = r at hz
    cases r with
    | ok n w1 =>
      cases n <;> simp only [lookUponG] at hz <;> simp only [Oper.upon]
      case value u => obtain ⟨rfl, rfl⟩ := hz; exact h _ (hrf _)
      case skip => obtain ⟨rfl, rfl⟩ := hz; exact h _ (hrf _)
      case enter f args =>
        obtain ⟨rfl, hc⟩ := hz
        refine hc.mono fun e w'' ⟨he, hm⟩ => ?_
        subst he; exact h _ hm
    | halt x w1 => simp only [lookUponG] at hz
  · simp only [hw, Bool.false_eq_true, if_false]; exact h _ (hrf _)
theorem wpOp_putG {j : Nat} {oi oj : Oper} {v : Value} {w w0 : World} (hj : ops[j]? = some oj) (hap : oi.apart ops oj = true)
    (hsi : ∀ cs b, oi.op ≠ .select cs b) (hsj : ∀ cs b, oj.op ≠ .select cs b)
    (hQ : ∀ c a w, Q (.panic c) (a.put oi.dst v) w → Q (.panic c) a w) {K : Act → World → Prop} {a : Act}
    (hy : YieldsG P ops G w0 oi v a) (h : wpOp P ops Q j K (a.put oi.dst v) w) :
    wpOp P ops Q j (fun a' w' => YieldsG P ops G w0 oi v a' ∧ K (a'.put oi.dst v) w') a w := by
  obtain ⟨h1, h2, h3⟩ := Oper.apart_spec hap
  have keep : ∀ (a : Act), YieldsG P ops G w0 oi v a → ∀ u, YieldsG P ops G w0 oi v (a.put oj.dst u) := fun a hy u =>
    hy.of_same (execOp_put oi hsi a oj.dst u h3) (wanted_put oi a oj.dst u h3)
  have keepD : ∀ d, YieldsG P ops G w0 oi v { a with defers := d :: a.defers } := fun d => hy.of_same rfl rfl
  unfold Go.wpOp at *
  simp only [hj] at *
  rw [wanted_put oj a oi.dst v h1] at h
  split
  · rename_i hw
    simp only [hw, if_true] at h
    rcases h with h | ⟨hasks, hlets⟩
    case inr => exact .inr ⟨by unfold Oper.asks at *; rw [execOp_put oj hsj a oi.dst v h1] at hasks; exact hasks, hlets⟩
    refine .inl ?_
    unfold Oper.wp at *
    rw [execOp_put oj hsj a oi.dst v h1] at h
    generalize (execOp a.eval oj).run P w = r at *
    cases r with
    | ok n w' =>
      cases n <;> simp only [Oper.upon] at h ⊢
      case value u => exact ⟨keep a hy u, by rw [← Act.put_comm a v u h2]; exact h⟩
      case skip => exact ⟨keep a hy _, by rw [← Act.put_comm a v undef h2]; exact h⟩
      case defer d =>
        refine ⟨keep _ (keepD d) _, ?_⟩
        rw [← Act.put_comm _ v undef h2, ← Act.put_defers]
        exact h
      case enter f args =>
        refine Calls.mono h fun e w'' he => ?_
        cases e with
        | returned u => exact ⟨keep a hy u, by rw [← Act.put_comm a v u h2]; exact he⟩
        | panicked c => exact hQ _ _ _ he
        | outgrown => exact he
      case row row args => exact Rows.mono h fun u w'' he => ⟨keep a hy u, by rw [← Act.put_comm a v u h2]; exact he⟩
    | halt x w' =>
      cases x <;> simp only [Oper.upon] at h ⊢
      case panic u => exact hQ _ _ _ h
  · rename_i hw
    simp only [hw] at h
    exact ⟨keep a hy _, by rw [← Act.put_comm a v undef h2]; exact h⟩

/-- Whatever order is picked from here on. -/
def wpG (P : Program) (md : Region.Mode) (ops : Array Oper) (Q : Exit → Act → World → Prop) (G : World → World → Prop) (T : List Nat) : Nat → Array Bool → Act → World → Prop
  | 0, listed, a, w => Region.ready md ops listed = [] ∧ ∀ w', G w w' → Q .normal a w'
  | fuel + 1, listed, a, w =>
    (Region.ready md ops listed = [] → ∀ w', G w w' → Q .normal a w') ∧
    ∀ i ∈ Region.ready md ops listed, ∀ w', G w w' → wpOp P ops Q i (fun a' w'' => (i ∉ T → G w' w'') ∧ wpG P md ops Q G T fuel (listed.setIfInBounds i true) a' w'') a w'
theorem wpG_ext (ht : ∀ a b c, G a b → G b c → G a c) {fuel : Nat} {listed : Array Bool} {a : Act} {w w1 : World} (h : wpG P md ops Q G T fuel listed a w) (h1 : G w w1) : wpG P md ops Q G T fuel listed a w1 := by
  cases fuel with
  | zero => exact ⟨h.1, fun w' hw' => h.2 _ (ht _ _ _ h1 hw')⟩
  | succ f => exact ⟨fun h0 w' hw' => h.1 h0 _ (ht _ _ _ h1 hw'), fun i hi w' hw' => h.2 i hi _ (ht _ _ _ h1 hw')⟩
theorem wpAny_of_G (hrf : ∀ a, G a a) : ∀ (fuel : Nat) (listed : Array Bool) (a : Act) (w : World), wpG P md ops Q G T fuel listed a w → wpAny P md ops Q fuel listed a w
  | 0, _, _, _, h => ⟨h.1, h.2 _ (hrf _)⟩
  | fuel + 1, _, _, _, h => ⟨fun h0 => h.1 h0 _ (hrf _), fun i hi => wpOp_mono (fun a' w' h' => wpAny_of_G hrf fuel _ a' w' h'.2) (h.2 i hi _ (hrf _))⟩

/-- What an operation waits for, through others. -/
def waitsFor (md : Region.Mode) (ops : Array Oper) : Nat → Nat → List Nat
  | 0, _ => []
  | n + 1, t => match ops[t]? with
    | none => []
    | some o => (o.after.toList.filter fun e => Region.binds md e).flatMap fun e => e.on :: waitsFor md ops n e.on
def downC (md : Region.Mode) (ops : Array Oper) (listed : Array Bool) : Prop := ∀ j oj, ops[j]? = some oj → listed.getD j false = true → ∀ e ∈ oj.after, Region.binds md e = true → listed.getD e.on false = true
theorem downC_waits {listed : Array Bool} (hd : downC md ops listed) : ∀ (n t : Nat), listed.getD t false = true → ∀ i ∈ waitsFor md ops n t, listed.getD i false = true
  | 0, _, _, i, hi => by simp [waitsFor] at hi
  | n + 1, t, ht, i, hi => by
    unfold waitsFor at hi
    split at hi
    · simp at hi
    · rename_i o ho
      rw [List.mem_flatMap] at hi
      obtain ⟨e, he, hi⟩ := hi
      rw [List.mem_filter] at he
      have h1 := hd t o ho ht e (by simpa using he.1) he.2
      simp only [List.mem_cons] at hi
      rcases hi with rfl | hi
      · exact h1
      · exact downC_waits hd n e.on h1 i hi
theorem ready_waits {listed : Array Bool} (hd : downC md ops listed) {t n : Nat} (hr : t ∈ Region.ready md ops listed) {i : Nat} (hi : i ∈ waitsFor md ops n t) : listed.getD i false = true := by
  obtain ⟨_, o, ho, hall⟩ := mem_ready.1 hr
  cases n with
  | zero => simp [waitsFor] at hi
  | succ n =>
    unfold waitsFor at hi
    rw [ho] at hi
    simp only at hi
    rw [List.mem_flatMap] at hi
    obtain ⟨e, he, hi⟩ := hi
    rw [List.mem_filter] at he
    have h1 := hall e (by simpa using he.1) he.2
    simp only [List.mem_cons] at hi
    rcases hi with rfl | hi
    · exact h1
    · exact downC_waits hd n e.on h1 i hi
theorem downC_set {listed : Array Bool} (hd : downC md ops listed) {i : Nat} (hr : i ∈ Region.ready md ops listed) : downC md ops (listed.setIfInBounds i true) := by
  intro j oj hj hl e he hb
  obtain ⟨_, o, ho, hall⟩ := mem_ready.1 hr
  by_cases hij : i = j
  · subst hij
    rw [ho] at hj; injection hj with hj; subst hj
    exact getD_set_true (hall e he hb)
  · rw [getD_set_ne false hij] at hl
    exact getD_set_true (hd j oj hj hl e he hb)

theorem wpG_first {i : Nat} {oi : Oper} {v : Value} (hrf : ∀ a, G a a) (ht : ∀ a b c, G a b → G b c → G a c) (hi : ops[i]? = some oi) (hsel : ∀ (j : Nat) (o : Oper) cs b, ops[j]? = some o → o.op ≠ .select cs b)
    (hQ : ∀ c (a a' : Act) w, a.defers = a'.defers → Q (.panic c) a w → Q (.panic c) a' w) (n : Nat) (hT : ∀ t ∈ T, i ∈ waitsFor md ops n t) :
    ∀ (fuel : Nat) (listed : Array Bool) (a : Act) (w : World), downC md ops listed →
      (∀ j oj, ops[j]? = some oj → j ≠ i → listed.getD j true = false → (∀ e ∈ oj.after, Region.binds md e = true → e.on ≠ i) → oi.apart ops oj = true) →
      i ∈ Region.ready md ops listed → YieldsG P ops G w oi v a →
      wpG P md ops Q G T fuel (listed.setIfInBounds i true) (a.put oi.dst v) w → wpG P md ops Q G T (fuel + 1) listed a w := by
  intro fuel
  induction fuel with
  | zero =>
    intro listed a w hdc _ hr hy H
    refine ⟨fun h => (by rw [h] at hr; cases hr), fun j hj w' hw' => ?_⟩
    by_cases hji : j = i
    · subst hji
      exact hy.wpOp hrf hi hw' fun w'' hw'' => ⟨fun _ => hw'', wpG_ext ht H (ht _ _ _ hw' hw'')⟩
    · have := ready_mono hj hji
      rw [H.1] at this
      cases this
  | succ fuel ih =>
    intro listed a w hdc hfree hr hy H
    refine ⟨fun h => (by rw [h] at hr; cases hr), fun j hj w' hw' => ?_⟩
    by_cases hji : j = i
    · subst hji
      exact hy.wpOp hrf hi hw' fun w'' hw'' => ⟨fun _ => hw'', wpG_ext ht H (ht _ _ _ hw' hw'')⟩
    · have h1 := H.2 j (ready_mono hj hji) w' hw'
      obtain ⟨hjun, oj, hoj, hall⟩ := mem_ready.1 hj
      have hun : listed.getD i true = false := (mem_ready.1 hr).1
      have hun2 : listed.getD i false = false := by
        rcases Nat.lt_or_ge i listed.size with h' | h'
        · simpa [h'] using hun
        · simp [Array.getElem?_eq_none h'] at hun
      have hnot : ∀ e ∈ oj.after, Region.binds md e = true → e.on ≠ i := fun e he hb heq => by
        have h1 := hall e he hb
        rw [heq, hun2] at h1; cases h1
      have hjT : j ∉ T := fun hjt => by
        have := ready_waits hdc hj (hT j hjt)
        rw [hun2] at this; cases this
      have h2 := wpOp_putG (G := G) hoj (hfree j oj hoj hji hjun hnot) (fun cs b => hsel i oi cs b hi) (fun cs b => hsel j oj cs b hoj) (fun c a w h => hQ c _ _ w (by cases oi.dst <;> rfl) h) (hy.ext ht hw') h1
      have hfree' : ∀ k ok, ops[k]? = some ok → k ≠ i → (listed.setIfInBounds j true).getD k true = false →
          (∀ e ∈ ok.after, Region.binds md e = true → e.on ≠ i) → oi.apart ops ok = true := fun k ok hk hki hun hno => by
        refine hfree k ok hk hki ?_ hno
        by_cases hjk : j = k
        · subst hjk; exact hjun
        · rw [getD_set_ne true hjk] at hun; exact hun
      refine wpOp_mono (fun a' w'' h3 => ⟨h3.2.1, ?_⟩) h2
      obtain ⟨hy', hG, h4⟩ := h3
      refine ih (listed.setIfInBounds j true) a' w'' (downC_set hdc hj) hfree' (ready_mono hr (Ne.symm hji)) (hy'.ext ht (hG hjT)) ?_
      rw [Array.setIfInBounds_comm _ _ hji]
      exact h4

/-- The looking operations, as they are walked. -/
def wpLooksG {ι : Type} (P : Program) (ops : Array Oper) (G : World → World → Prop) (W : ι → World) (K : Act → Prop) : List Oper → Act → Prop
  | [], a => K a
  | o :: rest, a => if Region.wanted o (yielded ops a.tmps) then o.looksG P G a W (wpLooksG P ops G W K rest) else wpLooksG P ops G W K rest (a.put o.dst undef)
theorem wpLooksG_nil {ι : Type} {W : ι → World} {K : Act → Prop} {a : Act} (h : K a) : wpLooksG P ops G W K [] a := h
theorem wpLooksG_step {ι : Type} {W : ι → World} {K0 : Act → Prop} {a : Act} {o : Oper} {rest : List Oper}
    (h : ∀ K : Act → Prop, (∀ a, wpLooksG P ops G W K0 rest a → K a) → if Region.wanted o (yielded ops a.tmps) then o.looksG P G a W K else K (a.put o.dst undef)) : wpLooksG P ops G W K0 (o :: rest) a :=
  h _ (fun _ h => h)
def permG (md : Region.Mode) (ops : Array Oper) (T : List Nat) (m : Nat) : List Nat → Array Bool → Bool
  | [], _ => true
  | i :: hd, listed => (Region.ready md ops listed).contains i && Region.free md ops listed i && (T.all fun t => (waitsFor md ops m t).contains i) && permG md ops T m hd (listed.setIfInBounds i true)
def downB (md : Region.Mode) (ops : Array Oper) (listed : Array Bool) : Bool := (List.range ops.size).all fun j => !(listed.getD j false) || ((ops[j]?).map fun o => o.after.all fun e => !(Region.binds md e) || listed.getD e.on false).getD true
theorem downB_spec {listed : Array Bool} (h : downB md ops listed = true) : downC md ops listed := by
  intro j oj hj hl e he hb
  unfold downB at h
  rw [List.all_eq_true] at h
  have := h j (List.mem_range.2 (Array.getElem?_eq_some_iff.1 hj).1)
  rw [hl, hj] at this
  simp only [Bool.not_true, Bool.false_or, Option.map_some, Option.getD_some, Array.all_eq_true_iff_forall_mem] at this
  have := this e he
  rw [hb] at this
  simpa using this
theorem wpG_looks_aux {ι : Type} {W : ι → World} (hrf : ∀ a, G a a) (ht : ∀ a b c, G a b → G b c → G a c) (hs : Region.noSelect ops = true) (hQ : ∀ c (a a' : Act) w, a.defers = a'.defers → Q (.panic c) a w → Q (.panic c) a' w) (m fuel : Nat) (w : World) (hW : ∀ w', G w w' → ∃ z, w' = W z) :
    ∀ (hd : List Nat) (lh : List Oper) (listed : Array Bool) (a : Act), hd.mapM (fun i => ops[i]?) = some lh → downC md ops listed → permG md ops T m hd listed = true →
    wpLooksG P ops G W (fun a' => wpG P md ops Q G T fuel (setAll listed hd) a' w) lh a → wpG P md ops Q G T (hd.length + fuel) listed a w
  | [], lh, listed, a, hl, _, _, h => by
    simp at hl; subst hl
    have e : ([] : List Nat).length + fuel = fuel := by simp
    rw [e]; exact h
  | i :: hd, lh, listed, a, hl, hdc, hB, h => by
    simp only [List.mapM_cons, Option.bind_eq_bind, Option.pure_def] at hl
    cases hi : ops[i]? with
    | none => simp [hi] at hl
    | some o =>
      cases hr : hd.mapM (fun i => ops[i]?) with
      | none => simp [hi, hr] at hl
      | some l' =>
        simp [hi, hr] at hl
        subst hl
        simp only [permG, Bool.and_eq_true, List.all_eq_true, List.contains_iff_mem] at hB
        obtain ⟨⟨⟨hB1, hB2⟩, hB3⟩, hB4⟩ := hB
        rw [show (i :: hd).length + fuel = (hd.length + fuel) + 1 by simp; omega]
        unfold wpLooksG at h
        split at h
        · rename_i hw
          obtain ⟨v, hv, hk⟩ := h
          exact wpG_first hrf ht hi (Region.noSelect_spec hs) hQ m hB3 _ listed a w hdc (Region.free_spec hi hB2) hB1 (.inl ⟨hw, fun w' hw' => by
            obtain ⟨z, rfl⟩ := hW w' hw'
            exact hv z⟩) (wpG_looks_aux hrf ht hs hQ m fuel w hW hd l' _ _ hr (downC_set hdc hB1) hB4 hk)
        · rename_i hw
          exact wpG_first hrf ht hi (Region.noSelect_spec hs) hQ m hB3 _ listed a w hdc (Region.free_spec hi hB2) hB1 (.inr ⟨by simpa using hw, rfl⟩) (wpG_looks_aux hrf ht hs hQ m fuel w hW hd l' _ _ hr (downC_set hdc hB1) hB4 h)
/-- The operations, written out. -/
def nthO : List Oper → Nat → Option Oper
  | [], _ => none
  | o :: _, 0 => some o
  | _ :: l, n + 1 => nthO l n
theorem nthO_eq : ∀ (l : List Oper) (n : Nat), nthO l n = l[n]?
  | [], n => by simp [nthO]
  | _ :: _, 0 => rfl
  | _ :: l, n + 1 => by unfold nthO; rw [nthO_eq l n]; rfl
def picks (l : List Oper) : List Nat → Option (List Oper)
  | [] => some []
  | i :: hd => match nthO l i, picks l hd with
    | some o, some r => some (o :: r)
    | _, _ => none
theorem picks_eq (l : List Oper) : ∀ (hd : List Nat) (lh : List Oper), picks l hd = some lh → hd.mapM (fun i => l.toArray[i]?) = some lh
  | [], lh, h => by simp [picks] at h; subst h; rfl
  | i :: hd, lh, h => by
    unfold picks at h
    split at h
    · rename_i o r h1 h2
      injection h with h; subst h
      rw [List.mapM_cons, picks_eq l hd r h2]
      rw [nthO_eq] at h1
      simp [h1]
    · cases h
/-- What looks comes first; W z: the worlds in which it may look. -/
theorem wpG_looks {l : List Oper} {n : Nat} {lh : List Oper} {listed : Array Bool} {a : Act} {w : World} (fuel m : Nat) (hd : List Nat) (hn : n = hd.length + fuel) (hrf : ∀ a, G a a) (ht : ∀ a b c, G a b → G b c → G a c) (hs : Region.noSelect l.toArray = true) (hQ : ∀ c (a a' : Act) w, a.defers = a'.defers → Q (.panic c) a w → Q (.panic c) a' w)
    (hl : picks l hd = some lh) (hB : (downB md l.toArray listed && permG md l.toArray T m hd listed) = true)
    (h : ∀ (ι : Type) (W : ι → World), Nonempty ι → Hid (∀ z, G w (W z)) → wpLooksG P l.toArray G W (fun a' => wpG P md l.toArray Q G T fuel (setAll listed hd) a' w) lh a) : wpG P md l.toArray Q G T n listed a w := by
  subst hn
  rw [Bool.and_eq_true] at hB
  obtain ⟨ι, W, hne, hW, hWs⟩ := classFam (G w) (hrf w)
  exact wpG_looks_aux hrf ht hs hQ m fuel w hWs hd lh listed a (picks_eq l hd lh hl) (downB_spec hB.1) hB.2 (h ι W hne (Lib.hid hW))
/-- One operation alone is ready. -/
theorem wpG_force {l : List Oper} {fuel : Nat} {listed : Array Bool} {a : Act} {w : World} (t : Nat) (o : Oper) (ho : nthO l t = some o) (hr : (Region.ready md l.toArray listed == [t]) = true) (hg : o.guard = none)
    (h : ∀ w', G w w' → ∀ K : Act → World → Prop, (∀ a' w'', (t ∉ T → G w' w'') → wpG P md l.toArray Q G T fuel (listed.setIfInBounds t true) a' w'' → K a' w'') → o.wp P a w' K Q) : wpG P md l.toArray Q G T (fuel + 1) listed a w := by
  have ho : l.toArray[t]? = some o := by rw [← ho, nthO_eq]; simp
  have hr' : Region.ready md l.toArray listed = [t] := by simpa using hr
  refine ⟨fun h0 => (by rw [hr'] at h0; cases h0), fun i hi w' hw' => ?_⟩
  rw [hr'] at hi
  obtain rfl : i = t := by simpa using hi
  unfold Go.wpOp
  simp only [ho]
  rw [if_pos (by simp [Region.wanted, hg])]
  exact .inl (h w' hw' _ fun a' w'' h1 h2 => ⟨h1, h2⟩)
theorem wpG_end {listed : Array Bool} {a : Act} {w : World} (hr : (Region.ready md ops listed).isEmpty = true) (h : ∀ w', G w w' → Q .normal a w') : ∀ fuel, wpG P md ops Q G T fuel listed a w
  | 0 => ⟨by simpa using hr, h⟩
  | _ + 1 => ⟨fun _ => h, fun i hi => by
      have : Region.ready md ops listed = [] := by simpa using hr
      rw [this] at hi; cases hi⟩
/-- A new variable of a struct's type, and the value stored into it. -/
theorem wpG_new {l : List Oper} {α : Type} [Enc α] {fuel : Nat} {listed : Array Bool} {t : TypeId} {a : Act} {w : World} (t1 t2 : Nat) (o1 o2 : Oper) (ho1 : nthO l t1 = some o1) (ho2 : nthO l t2 = some o2) (hr1 : (Region.ready md l.toArray listed == [t1]) = true) (hr2 : (Region.ready md l.toArray (listed.setIfInBounds t1 true) == [t2]) = true) (hg1 : o1.guard = none) (hg2 : o2.guard = none) (hT : T.contains t2 = true) (x y : Operand) (hp1 : o1.op = .alloc t) (hp2 : o2.op = .store t x y) (z u : α)
    (hal : ∀ w, (gAlloc t).run P w = .ok (.pointer (some ⟨w.heap.size, 0, none⟩)) (w.alloc (.cells (Enc.enc z).toArray t))) (ha : sizeT P t = Enc.n α)
    (hx : ∀ p, (a.put o1.dst p).eval x = p) (hy : ∀ p, (a.put o1.dst p).eval y = .agg (Enc.enc u).toArray)
    (hGa : ∀ w o, G w (w.alloc o)) (hGb : ∀ a b, G a b → Bel a b)
    (h : ∀ (g : Nat) (w1 w2 : World), G w w1 → g = w1.heap.size → Bel w1 w2 → get? α w2 ⟨g, 0, none⟩ = some u → g < w2.heap.size → wpG P md l.toArray Q G T fuel ((listed.setIfInBounds t1 true).setIfInBounds t2 true) ((a.put o1.dst (.pointer (some ⟨g, 0, none⟩))).put o2.dst undef) w2) : wpG P md l.toArray Q G T (fuel + 1 + 1) listed a w := by
  refine wpG_force t1 o1 ho1 hr1 hg1 fun w1 hw1 K hK => ?_
  have e1 := hal w1
  unfold gAlloc at e1
  unfold Oper.wp execOp
  simp only [hp1, Sem.run_bind]
  rw [e1]
  refine hK _ _ (fun _ => hGa _ _) ?_
  refine wpG_force t2 o2 ho2 hr2 hg2 fun w2 hw2 K hK => ?_
  have hbel := hGb _ _ hw2
  have hlt : w1.heap.size < (w1.alloc (.cells (Enc.enc z).toArray t)).heap.size := by simp
  have hget : get? α w2 ⟨w1.heap.size, 0, none⟩ = some z := (get?_below hbel (by exact hlt)).trans (get?_new t z)
  have hfree : blkFree w2 w1.heap.size = true := (blkFree_keep (hbel.block _ hlt)).trans (blkFree_new _ _ rfl)
  have hst := run_gStore (P := P) (t := t) (w := w2) (a := ⟨w1.heap.size, 0, none⟩) ha u (Option.isSome_iff_exists.2 ⟨z, hget⟩) hfree
  unfold gStore at hst
  unfold Oper.wp execOp
  simp only [hp2, Sem.run_bind, hx, hy]
  rw [hst]
  have hsz := hbel.size
  simp only [World.size_alloc] at hsz
  refine hK _ _ (fun hne => absurd (by simpa using hT) hne) (h _ w1 _ hw1 rfl ?_ ?_ ?_)
  · exact Below_putCells (Below.trans ((Below.refl _ _).alloc (Nat.le_refl _) _) (Below.mono hbel (by simp))) (Nat.le_refl _) _
  · rw [get?_iff]
    intro j v hj
    have hjl : j < Enc.n α := by have := (List.getElem?_eq_some_iff.1 hj).1; rwa [Enc.len] at this
    have hadd : ∀ i, (⟨w1.heap.size, 0, none⟩ : Addr).add i = ⟨w1.heap.size, i, none⟩ := fun i => by unfold Addr.add; split <;> simp_all
    rw [hadd]
    have hc := get?_iff.1 hget j ((Enc.enc z)[j]'(by rw [Enc.len]; exact hjl)) (List.getElem?_eq_getElem _)
    rw [hadd] at hc
    unfold World.putCells
    rw [cell_putFrom (a := ⟨w1.heap.size, 0, none⟩) rfl (Enc.enc u) 0 w2 ⟨w1.heap.size, j, none⟩ rfl (by rw [hc]; rfl)]
    rw [if_pos ⟨rfl, by simp, by simpa [Enc.len] using hjl⟩]
    simpa using hj
  · rw [size_putCells]; omega
theorem wp_region_G {id : Nat} {a : Act} {w : World} {l : List Oper} (G : World → World → Prop) (T : List Nat) (hrf : ∀ a, G a a) (hm : P.follows .mixedOrders = true)
    (h : wpG P .any l.toArray Q G T l.toArray.size (Array.replicate l.toArray.size false) a w.drew) : (Code.region id l.toArray true).wp P Q a w :=
  wp_region_any hm (wpAny_of_G hrf _ _ _ _ h)
end

/-- New blocks and draws; what was there stands. -/
def GB (w w' : World) : Prop := Below w.heap.size w w'
theorem GB.rf (a : World) : GB a a := Below.refl _ _
theorem GB.tr (a b c : World) (h : GB a b) (k : GB b c) : GB a c := Below.trans h (Below.mono k (Below.size h))
theorem GB.drewN (a : World) (n : Nat) : GB a (a.drewN n) := bdN (Below.refl _ _) n
theorem GB.al (w : World) (o : Obj) : GB w (w.alloc o) := (Below.refl _ _).alloc (Nat.le_refl _) o
theorem GB.bel (a b : World) (h : GB a b) : Bel a b := h
theorem GB.undrew {w w' : World} (h : GB w.drew w') : Bel w w' := by
  have h0 : Below w.drew.heap.size w.drew w' := h
  exact ⟨h0.os, h0.tape, h0.output, h0.size, h0.block⟩
theorem GB.cell {w w' : World} (h : GB w w') {p : Addr} {v : Value} (hc : w.cell? p = some v) : w'.cell? p = some v := (Below.cell h (World.block_lt_of_cell? w _ hc)).trans hc
theorem GB.get {α : Type} [Enc α] {w w' : World} (h : GB w w') {p : Addr} {x : α} (hc : get? α w p = some x) : get? α w' p = some x := (get?_below h (get?_lt hc)).trans hc
theorem quietG {P : Program} {f : FuncId} {args : Array Value} {w : World} {v : Value} {R : Ending → World → Prop} (h : Calls P f args w R) (hR : ∀ e w', R e w' → e = .returned v ∧ w' = w) : Calls P f args w fun e w' => e = .returned v ∧ GB w w' :=
  h.mono fun e w' h => by obtain ⟨h1, h2⟩ := hR e w' h; subst h2; exact ⟨h1, GB.rf _⟩
/-- .. but for one block. -/
def GX (r : Nat) (w w' : World) : Prop := w.grownBy w' (some r)
theorem GX.rf {r : Nat} (a : World) : GX r a a := ⟨rfl, rfl, rfl, Nat.le_refl _, fun _ _ _ => rfl⟩
theorem GX.tr {r : Nat} (a b c : World) (h : GX r a b) (k : GX r b c) : GX r a c := World.grownBy.trans h k
end Go.Gv
/- Regions with two operations ready at once; a field of a struct written. Conditions: those named in each theorem. -/
namespace Go.Gv
open Go Go.RowKit
section
variable {P : Program} {md : Region.Mode} {Q : Exit → Act → World → Prop} {G : World → World → Prop} {T : List Nat}
/-- Two operations are ready. -/
theorem wpG_two {l : List Oper} {fuel : Nat} {listed : Array Bool} {a : Act} {w : World} (t1 t2 : Nat) (o1 o2 : Oper) (ho1 : nthO l t1 = some o1) (ho2 : nthO l t2 = some o2) (hr : (Region.ready md l.toArray listed == [t1, t2]) = true) (hg1 : o1.guard = none) (hg2 : o2.guard = none)
    (h1 : ∀ w', G w w' → ∀ K : Act → World → Prop, (∀ a' w'', (t1 ∉ T → G w' w'') → wpG P md l.toArray Q G T fuel (listed.setIfInBounds t1 true) a' w'' → K a' w'') → o1.wp P a w' K Q)
    (h2 : ∀ w', G w w' → ∀ K : Act → World → Prop, (∀ a' w'', (t2 ∉ T → G w' w'') → wpG P md l.toArray Q G T fuel (listed.setIfInBounds t2 true) a' w'' → K a' w'') → o2.wp P a w' K Q) : wpG P md l.toArray Q G T (fuel + 1) listed a w := by
  have ho1 : l.toArray[t1]? = some o1 := by rw [← ho1, nthO_eq]; simp
  have ho2 : l.toArray[t2]? = some o2 := by rw [← ho2, nthO_eq]; simp
  have hr' : Region.ready md l.toArray listed = [t1, t2] := by simpa using hr
  refine ⟨fun h0 => (by rw [hr'] at h0; cases h0), fun i hi w' hw' => ?_⟩
  rw [hr'] at hi
  simp only [List.mem_cons, List.not_mem_nil, or_false] at hi
  unfold Go.wpOp
  rcases hi with rfl | rfl
  · simp only [ho1]
    rw [if_pos (by simp [Region.wanted, hg1])]
    exact .inl (h1 w' hw' _ fun a' w'' k1 k2 => ⟨k1, k2⟩)
  · simp only [ho2]
    rw [if_pos (by simp [Region.wanted, hg2])]
    exact .inl (h2 w' hw' _ fun a' w'' k1 k2 => ⟨k1, k2⟩)
theorem wpLooksG_on {ops : Array Oper} {ι : Type} {W : ι → World} {K : Act → Prop} {a : Act} {o : Oper} {rest : List Oper} (v : Value) (hw : Region.wanted o (yielded ops a.tmps) = true) (hv : ∀ z, lookUponG P G (W z) v ((execOp a.eval o).run P (W z))) (h : wpLooksG P ops G W K rest (a.put o.dst v)) : wpLooksG P ops G W K (o :: rest) a := by
  unfold wpLooksG
  rw [if_pos hw]
  exact ⟨v, hv, h⟩
theorem wpLooksG_off {ops : Array Oper} {ι : Type} {W : ι → World} {K : Act → Prop} {a : Act} {o : Oper} {rest : List Oper} (hw : Region.wanted o (yielded ops a.tmps) = false) (h : wpLooksG P ops G W K rest (a.put o.dst undef)) : wpLooksG P ops G W K (o :: rest) a := by
  unfold wpLooksG
  rw [if_neg (by rw [hw]; decide)]
  exact h
end
theorem get?_poke {α : Type} [Enc α] {w : World} {g j : Nat} {x y : α} {v : Value} (h : get? α w ⟨g, 0, none⟩ = some x) (hy : Enc.enc y = (Enc.enc x).set j v) : get? α (w.setCell ⟨g, j, none⟩ v) ⟨g, 0, none⟩ = some y := by
  have hadd : ∀ i, (⟨g, 0, none⟩ : Addr).add i = ⟨g, i, none⟩ := fun i => by unfold Addr.add; split <;> simp_all
  rw [get?_iff] at h ⊢
  intro i u hu
  have hlen : (Enc.enc x).length = Enc.n α := Enc.len x
  rw [hadd]
  have hi : i < (Enc.enc x).length := by have := (List.getElem?_eq_some_iff.1 hu).1; rw [Enc.len] at this; omega
  have hx := h i _ (List.getElem?_eq_getElem hi)
  rw [hadd] at hx
  rw [hy] at hu
  by_cases e : j = i
  · subst e
    rw [World.cell?_setCell_same w _ v hx]
    rw [List.getElem?_set_self hi] at hu; exact hu
  · rw [World.cell?_setCell_other w _ _ v (fun h => e (by injection h)), hx]
    rw [List.getElem?_set_ne e, List.getElem?_eq_getElem hi] at hu; exact hu
end Go.Gv
/- Ranging over a map that reads as a list. Conditions: those named in each theorem. -/
namespace Go.Gv
open Go Go.RowKit Go.ChangeMaps Go.MapKept
set_option linter.unusedSectionVars false

theorem leftOf_push (es : Array MapEntry) (seen : Array Nat) (k : Nat) : (leftOf es (seen.push k)).toList = (leftOf es seen).toList.filter fun x => !(x.born == k) := by
  unfold leftOf
  rw [Array.toList_filter, Array.toList_filter, List.filter_filter]
  apply List.filter_congr
  intro x _
  rw [Go.contains_push]
  cases seen.contains x.born <;> cases (x.born == k) <;> rfl
theorem filter_born {a b : List MapEntry} {e : MapEntry} (hp : (a ++ e :: b).Pairwise fun x y => x.born < y.born) : (a ++ e :: b).filter (fun x => !(x.born == e.born)) = a ++ b := by
  rw [List.pairwise_append] at hp
  obtain ⟨_, h2, h3⟩ := hp
  rw [List.pairwise_cons] at h2
  rw [List.filter_append, List.filter_cons]
  have ha : a.filter (fun x => !(x.born == e.born)) = a := by
    rw [List.filter_eq_self]
    intro x hx
    have := h3 x hx e (by simp)
    simp; omega
  have hb : b.filter (fun x => !(x.born == e.born)) = b := by
    rw [List.filter_eq_self]
    intro x hx
    have := h2.1 x hx
    simp; omega
  simp [ha, hb]
section
variable {K V : Type} [DecidableEq K] [KEnc K] [VEnc V] {P : Program} {w w' : World} {r it : Nat} {m left : List (K × V)}
/-- Block it is an iterator over the map in block r, which reads as m; left: what is still to come. -/
def Ranges (w : World) (r it : Nat) (m left : List (K × V)) : Prop :=
  ∃ es clock since seen c0, w.heap[r]? = some (.map es clock) ∧ es.toList.map (fun e => (e.key, e.val)) = m.map (fun p => (KEnc.kv p.1, VEnc.vv p.2)) ∧ (m.map (·.1)).Nodup ∧
    es.toList.Pairwise (fun a b => a.born < b.born) ∧ (∀ e ∈ es.toList, e.born < clock) ∧
    w.heap[it]? = some (.mapIter (some r) since seen c0) ∧ (∀ x ∈ es.toList, x.born < since) ∧ since ≤ c0 ∧ since ≤ clock ∧
    (leftOf es seen).toList.map (fun e => (e.key, e.val)) = left.map (fun p => (KEnc.kv p.1, VEnc.vv p.2))
theorem Ranges.is (h : Ranges w r it m left) : mapAt K V w r = some m := by
  obtain ⟨es, clock, since, seen, c0, hb, he, hn, hp, hc, _⟩ := h
  exact mapAt_iff.2 ⟨es, clock, hb, he, hn, hp, hc⟩
theorem Ranges.lt (h : Ranges w r it m left) : it < w.heap.size := by
  obtain ⟨es, clock, since, seen, c0, _, _, _, _, _, hi, _⟩ := h
  exact (Array.getElem?_eq_some_iff.1 hi).1
theorem Ranges.ne (h : Ranges w r it m left) : it ≠ r := by
  obtain ⟨es, clock, since, seen, c0, hb, _, _, _, _, hi, _⟩ := h
  intro e
  rw [e, hb] at hi
  cases hi
theorem Ranges.leftN (h : Ranges w r it m left) : w.rangeLeft r it = left.length := by
  obtain ⟨es, clock, since, seen, c0, hb, _, _, _, _, hi, _, _, _, hl⟩ := h
  simp only [World.rangeLeft, hb, hi]
  have := congrArg List.length hl
  simpa using this
theorem Ranges.kept {row : Option Nat} (h : Ranges w r it m left) (hg : w.grownBy w' row) (hr : some r ≠ row) (hi : some it ≠ row) : Ranges w' r it m left := by
  have h1 := mapAt_lt h.is
  have h2 := h.lt
  obtain ⟨es, clock, since, seen, c0, hb, he, hn, hp, hc, hit, rest⟩ := h
  exact ⟨es, clock, since, seen, c0, (hg.block r h1 hr).trans hb, he, hn, hp, hc, (hg.block it h2 hi).trans hit, rest⟩
theorem Ranges.below (h : Ranges w r it m left) (hb : Below w.heap.size w w') : Ranges w' r it m left := by
  have h1 := mapAt_lt h.is
  have h2 := h.lt
  obtain ⟨es, clock, since, seen, c0, hbk, he, hn, hp, hc, hit, rest⟩ := h
  exact ⟨es, clock, since, seen, c0, (hb.block r h1).trans hbk, he, hn, hp, hc, (hb.block it h2).trans hit, rest⟩
/-- 'range m'. -/
theorem ranges_start {tM tK tV : TypeId} (hM : P.underlying tM = some (.map tK tV)) (h : mapAt K V w r = some m) :
    ∃ o, (Instr.range tM (.map (some r))).run P w = .ok (.pointer (some ⟨w.heap.size, 0, none⟩)) (w.alloc o) ∧ Ranges (w.alloc o) r w.heap.size m m := by
  have hlt := mapAt_lt h
  obtain ⟨es, clock, hb, he, hn, hp, hc⟩ := mapAt_iff.1 h
  refine ⟨_, run_range_map w tM tK tV r es clock hM hb, es, clock, clock, #[], clock, (Go.heap_alloc_old w _ hlt).trans hb, he, hn, hp, hc, Go.heap_alloc_new w _, hc, Nat.le_refl _, Nat.le_refl _, ?_⟩
  rw [← he]
  unfold leftOf
  rw [Array.toList_filter, List.filter_eq_self.2 (by intro x _; simp)]
/-- The step: nothing is left, or one that is left comes, whichever. -/
theorem Ranges.next (P : Program) (h : Ranges w r it m left) :
    (left = [] ∧ ∀ ty : TypeId, (Instr.next (.pointer (some ⟨it, 0, none⟩)) false ty).run P w = .ok (.tuple #[.bool false]) w) ∨
    ∃ l1 p l2 w', left = l1 ++ p :: l2 ∧ (∀ ty : TypeId, (Instr.next (.pointer (some ⟨it, 0, none⟩)) false ty).run P w = .ok (.tuple #[.bool true, KEnc.kv p.1, VEnc.vv p.2]) w') ∧ Ranges w' r it m (l1 ++ l2) ∧
      w.grownBy w' (some it) ∧ w'.heap.size = w.heap.size ∧ (Instr.entry (.pointer (some ⟨it, 0, none⟩))).run P w' = .ok (.tuple #[KEnc.kv p.1, VEnc.vv p.2]) w' := by
  have hne := h.ne
  obtain ⟨es, clock, since, seen, c0, hb, he, hn, hp, hc, hit, hold, hsc, hsk, hl⟩ := h
  rcases run_next_at (P := P) w 0 it r since c0 seen es clock hit hb hold hsc with ⟨h0, hrun⟩ | ⟨e, hel, w1, hal, hrun⟩
  · refine .inl ⟨?_, fun _ => hrun⟩
    have := congrArg List.length hl
    simp only [List.length_map, Array.length_toList, h0] at this
    exact List.eq_nil_of_length_eq_zero this.symm
  · obtain ⟨hem, hes⟩ := mem_left hel
    obtain ⟨a, b, hab⟩ := List.append_of_mem hel
    have hl2 := hl
    rw [hab, List.map_append, List.map_cons] at hl2
    obtain ⟨l1, lr, rfl, e1, e2⟩ := List.map_eq_append_iff.1 hl2.symm
    obtain ⟨p, l2, rfl, e3, e4⟩ := List.map_eq_cons_iff.1 e2
    simp only [Prod.mk.injEq] at e3
    have hr1 : w1.heap[it]? = some (.mapIter (some r) since seen c0) := by rcases hal with rfl | rfl <;> exact hit
    have hb1 : w1.heap[r]? = some (.map es clock) := by rcases hal with rfl | rfl <;> exact hb
    have hset := heap_set (o' := .mapIter (some r) since (seen.push e.born) clock) hr1
    have hb' : (setBlock w1 it (.mapIter (some r) since (seen.push e.born) clock)).heap[r]? = some (.map es clock) := (hset.2 r (fun e1 => hne e1.symm)).trans hb1
    have hborn : (es.toList.map (·.born)).Nodup := by
      rw [List.Nodup, List.pairwise_map]
      exact hp.imp fun h => by omega
    refine .inr ⟨l1, p, l2, _, rfl, fun ty => by rw [e3.1, e3.2]; exact hrun, ⟨es, clock, since, seen.push e.born, clock, hb', he, hn, hp, hc, hset.1, hold, hsk, hsk, ?_⟩, ?_, ?_, ?_⟩
    · rw [leftOf_push, hab, filter_born, List.map_append, List.map_append, e1, e4]
      rw [← hab]
      unfold leftOf
      rw [Array.toList_filter]
      exact hp.filter _
    · rcases hal with rfl | rfl <;> exact ⟨rfl, rfl, rfl, by simp [setBlock], fun i _ hi => hset.2 i (fun e1 => hi (by rw [e1]))⟩
    · rcases hal with rfl | rfl <;> simp [setBlock]
    · rw [e3.1, e3.2]
      exact run_entry_at _ it r since seen es clock e hset.1 hb' hem hborn
end
end Go.Gv
/- Two lists, place by place. Conditions: those named in each theorem. -/
namespace Go.Gv
/-- Two lists, place by place. -/
def R2 {α β : Type} (R : α → β → Prop) : List α → List β → Prop
  | [], [] => True
  | a :: l, b :: m => R a b ∧ R2 R l m
  | _, _ => False
section
variable {α β : Type} {R R' : α → β → Prop}
theorem R2.len : ∀ {l : List α} {m : List β}, R2 R l m → l.length = m.length
  | [], [], _ => rfl
  | _ :: _, _ :: _, h => by simp [R2.len h.2]
  | [], _ :: _, h => h.elim
  | _ :: _, [], h => h.elim
theorem R2.mono (hR : ∀ a b, R a b → R' a b) : ∀ {l : List α} {m : List β}, R2 R l m → R2 R' l m
  | [], [], h => h
  | _ :: _, _ :: _, h => ⟨hR _ _ h.1, R2.mono hR h.2⟩
  | [], _ :: _, h => h.elim
  | _ :: _, [], h => h.elim
theorem R2.at_ : ∀ {l : List α} {m : List β}, R2 R l m → ∀ {i : Nat} {a : α}, l[i]? = some a → ∃ b, m[i]? = some b ∧ R a b
  | [], [], _, i, a, e => by simp at e
  | x :: l, y :: m, h, 0, a, e => by simp at e; subst e; exact ⟨y, rfl, h.1⟩
  | x :: l, y :: m, h, i + 1, a, e => by
    obtain ⟨b, h1, h2⟩ := R2.at_ h.2 (i := i) (a := a) (by simpa using e)
    exact ⟨b, by simpa using h1, h2⟩
  | [], _ :: _, h, _, _, _ => h.elim
  | _ :: _, [], h, _, _, _ => h.elim
theorem R2.perm {l l' : List α} (hp : l.Perm l') : ∀ {m : List β}, R2 R l m → ∃ m', m.Perm m' ∧ R2 R l' m' := by
  induction hp with
  | nil => intro m h; exact ⟨m, .refl _, h⟩
  | cons x _ ih =>
    intro m h
    cases m with
    | nil => exact h.elim
    | cons y m =>
      obtain ⟨m', h1, h2⟩ := ih h.2
      exact ⟨y :: m', h1.cons y, h.1, h2⟩
  | swap x y l =>
    intro m h
    cases m with
    | nil => exact h.elim
    | cons a m =>
      cases m with
      | nil => exact h.2.elim
      | cons b m => exact ⟨b :: a :: m, .swap _ _ _, h.2.1, h.1, h.2.2⟩
  | trans _ _ ih1 ih2 =>
    intro m h
    obtain ⟨m1, h1, h2⟩ := ih1 h
    obtain ⟨m2, h3, h4⟩ := ih2 h2
    exact ⟨m2, h1.trans h3, h4⟩
theorem R2.filter {p : α → Bool} {q : β → Bool} (hpq : ∀ a b, R a b → p a = q b) : ∀ {l : List α} {m : List β}, R2 R l m → R2 R (l.filter p) (m.filter q)
  | [], [], h => h
  | a :: l, b :: m, h => by
    rw [List.filter_cons, List.filter_cons, hpq a b h.1]
    cases q b
    · exact R2.filter hpq h.2
    · exact ⟨h.1, R2.filter hpq h.2⟩
  | [], _ :: _, h => h.elim
  | _ :: _, [], h => h.elim
theorem R2.map {γ δ : Type} {S : γ → δ → Prop} {f : α → γ} {g : β → δ} (hfg : ∀ a b, R a b → S (f a) (g b)) : ∀ {l : List α} {m : List β}, R2 R l m → R2 S (l.map f) (m.map g)
  | [], [], h => h
  | _ :: _, _ :: _, h => ⟨hfg _ _ h.1, R2.map hfg h.2⟩
  | [], _ :: _, h => h.elim
  | _ :: _, [], h => h.elim
theorem R2.append {l2 : List α} {m2 : List β} (h2 : R2 R l2 m2) : ∀ {l : List α} {m : List β}, R2 R l m → R2 R (l ++ l2) (m ++ m2)
  | [], [], _ => h2
  | _ :: _, _ :: _, h => ⟨h.1, R2.append h2 h.2⟩
  | [], _ :: _, h => h.elim
  | _ :: _, [], h => h.elim
theorem R2.set {a : α} {b : β} (hab : R a b) : ∀ {l : List α} {m : List β}, R2 R l m → ∀ i, R2 R (l.set i a) (m.set i b)
  | [], [], _, _ => trivial
  | _ :: _, _ :: _, h, 0 => ⟨hab, h.2⟩
  | _ :: _, _ :: _, h, i + 1 => ⟨h.1, R2.set hab h.2 i⟩
  | [], _ :: _, h, _ => h.elim
  | _ :: _, [], h, _ => h.elim
theorem R2.pairwise {P : α → α → Prop} {P' : β → β → Prop} (hP : ∀ a b a' b', R a a' → R b b' → P a b → P' a' b') : ∀ {l : List α} {m : List β}, R2 R l m → l.Pairwise P → m.Pairwise P'
  | [], [], _, _ => List.Pairwise.nil
  | a :: l, b :: m, h, hp => by
    rw [List.pairwise_cons] at hp ⊢
    refine ⟨fun y hy => ?_, R2.pairwise hP h.2 hp.2⟩
    obtain ⟨i, hi⟩ := List.getElem?_of_mem hy
    have hil : i < l.length := by rw [h.2.len]; exact (List.getElem?_eq_some_iff.1 hi).1
    obtain ⟨y', hy', hr⟩ := h.2.at_ (List.getElem?_eq_getElem hil)
    rw [hi] at hy'; injection hy' with hy'; subst hy'
    exact hP _ _ _ _ h.1 hr (hp.1 _ (List.getElem_mem _))
  | [], _ :: _, h, _ => h.elim
  | _ :: _, [], h, _ => h.elim
end
end Go.Gv
/- Worlds that differ in some blocks alone; slices by the blocks they lie in. Conditions: those named in each theorem. -/
namespace Go.Proofs.YthkifibmihijaaaGreatDoor
open Go Go.RowKit Go.Gv

/-- w' is w but for the blocks S, and new ones. -/
structure Chg (S : Nat → Prop) (w w' : World) : Prop where
  os : w'.os = w.os
  tape : w'.tape = w.tape
  output : w'.output = w.output
  size : w.heap.size ≤ w'.heap.size
  block : ∀ k, k < w.heap.size → ¬ S k → w'.heap[k]? = w.heap[k]?
theorem Chg.sub {S S' : Nat → Prop} {w w' : World} (h : Chg S w w') (hS : ∀ k, S k → S' k) : Chg S' w w' := ⟨h.os, h.tape, h.output, h.size, fun k hk hn => h.block k hk (fun hs => hn (hS k hs))⟩
section
variable {S S' : Nat → Prop} {w w' w2 : World}
theorem Chg.refl (S : Nat → Prop) (w : World) : Chg S w w := ⟨rfl, rfl, rfl, Nat.le_refl _, fun _ _ _ => rfl⟩
theorem Chg.trans (h : Chg S w w') (k : Chg S' w' w2) (hS : ∀ k, S' k → S k ∨ w.heap.size ≤ k) : Chg S w w2 :=
  ⟨k.os.trans h.os, k.tape.trans h.tape, k.output.trans h.output, Nat.le_trans h.size k.size, fun i hi hn => (k.block i (Nat.lt_of_lt_of_le hi h.size) (fun hs => by rcases hS i hs with h1 | h1; exact hn h1; omega)).trans (h.block i hi hn)⟩
theorem Chg.tr (h : Chg S w w') (k : Chg S w' w2) : Chg S w w2 := h.trans k fun _ h => .inl h
theorem Chg.of_bel (h : Bel w w') (S : Nat → Prop) : Chg S w w' := ⟨Below.os h, Below.tape h, Below.output h, Below.size h, fun k hk _ => Below.block h k hk⟩
theorem Chg.of_grown {row : Option Nat} (h : w.grownBy w' row) (hS : ∀ k, row = some k → S k) : Chg S w w' := ⟨h.os, h.tape, h.output, h.size, fun k hk hn => h.block k hk (fun e => hn (hS k e.symm))⟩
theorem Chg.bel (h : Chg S w w') (hS : ∀ k, S k → w.heap.size ≤ k) : Bel w w' := ⟨h.os, h.tape, h.output, h.size, fun k hk => h.block k hk (fun hs => by have := hS k hs; omega)⟩
theorem Chg.bel2 {w0 : World} (hb : Bel w0 w) (h : Chg S w w') (hS : ∀ k, S k → w0.heap.size ≤ k) : Bel w0 w' :=
  ⟨h.os.trans (Below.os hb), h.tape.trans (Below.tape hb), h.output.trans (Below.output hb), Nat.le_trans hb.size h.size, fun k hk => (h.block k (Nat.lt_of_lt_of_le hk hb.size) (fun hs => by have := hS k hs; omega)).trans (Below.block hb k hk)⟩
theorem Chg.cell {p : Addr} {v : Value} (h : Chg S w w') (hc : w.cell? p = some v) (hp : ¬ S p.block) : w'.cell? p = some v :=
  (World.cell?_of_block (w := w) (h.block _ (World.block_lt_of_cell? w _ hc) hp)).trans hc
theorem Chg.get {α : Type} [Enc α] {a : Addr} {x : α} (h : Chg S w w') (hg : get? α w a = some x) (hp : ¬ S a.block) : get? α w' a = some x := (get?_keep (h.block _ (get?_lt hg) hp)).trans hg
theorem Chg.free {n : Nat} (h : Chg S w w') (hf : blkFree w n = true) (hl : n < w.heap.size) (hn : ¬ S n) : blkFree w' n = true := (blkFree_keep (h.block _ hl hn)).trans hf
theorem Chg.map {K V : Type} [DecidableEq K] [KEnc K] [VEnc V] {r : Nat} {m : List (K × V)} (h : Chg S w w') (hm : mapAt K V w r = some m) (hr : ¬ S r) : mapAt K V w' r = some m := (mapAt_keep (h.block _ (mapAt_lt hm) hr)).trans hm
/-- A slice whose block, if it has elements, is one of Q. -/
def SlQ (α : Type) [Enc α] (Q : Nat → Prop) (w : World) (h : Hdr) (xs : List α) : Prop := Sl α w w.heap.size h.a h.len xs ∧ h.len ≤ h.cap ∧ h.cap ≤ maxLen ∧ (0 < h.len → ∀ ad, h.a = some ad → Q ad.block)
theorem _root_.Go.Gv.Sl.chg {α : Type} [Enc α] {A : Option Addr} {n : Nat} {xs : List α} (h : Chg S w w') (hs : Sl α w w.heap.size A n xs) (hx : 0 < n → ∀ ad, A = some ad → ¬ S ad.block) : Sl α w' w'.heap.size A n xs := by
  refine ⟨hs.1, fun hn => ?_⟩
  obtain ⟨ad, e, hb, hc⟩ := hs.2 hn
  exact ⟨ad, e, Nat.lt_of_lt_of_le hb h.size, fun k x hx' => Chg.get h (hc k x hx') (by rw [add_block]; exact hx hn ad e)⟩
theorem SlQ.chg {α : Type} [Enc α] {Q : Nat → Prop} {hd : Hdr} {xs : List α} (h : Chg S w w') (hs : SlQ α Q w hd xs) (hQ : ∀ k, Q k → ¬ S k) : SlQ α Q w' hd xs := ⟨Sl.chg h hs.1 (fun hn ad e => hQ _ (hs.2.2.2 hn ad e)), hs.2.1, hs.2.2.1, hs.2.2.2⟩
theorem SlQ.mono {α : Type} [Enc α] {Q Q' : Nat → Prop} {hd : Hdr} {xs : List α} (hs : SlQ α Q w hd xs) (hQ : ∀ k, k < w.heap.size → Q k → Q' k) : SlQ α Q' w hd xs :=
  ⟨hs.1, hs.2.1, hs.2.2.1, fun hn ad e => hQ _ (hs.1.block_lt hn e) (hs.2.2.2 hn ad e)⟩
theorem SlQ.bel {α : Type} [Enc α] {Q : Nat → Prop} {hd : Hdr} {xs : List α} (hs : SlQ α Q w hd xs) (hb : Bel w w') : SlQ α Q w' hd xs := ⟨hs.1.stepB hb, hs.2⟩
theorem _root_.Go.Gv.OwnS.keep {α : Type} [Enc α] {base : Nat} {e : TypeId} {v : Value} {xs : List α} (h : OwnS w base e v xs) (hk : ∀ k, v.ownBlock = some k → w'.heap[k]? = w.heap[k]?) : OwnS w' base e v xs := by
  refine ⟨h.1, ?_⟩
  rcases h.2 with ⟨h1, h2⟩ | ⟨g, cap, cur, hv, hb, hh, rest⟩
  · exact .inl ⟨h1, h2⟩
  · exact .inr ⟨g, cap, cur, hv, hb, (hk g (by rw [hv]; rfl)).trans hh, rest⟩
theorem _root_.Go.Gv.OwnS.chg {α : Type} [Enc α] {base : Nat} {e : TypeId} {v : Value} {xs : List α} (h : OwnS w base e v xs) (hc : Chg S w w') (hS : ∀ k, v.ownBlock = some k → ¬ S k) : OwnS w' base e v xs :=
  h.keep fun k hk => hc.block k (h.lt k hk).2 (hS k hk)
end
end Go.Proofs.YthkifibmihijaaaGreatDoor
/- Regions that leave their order open, where a call may come ahead of what looks behind it. Conditions: those named in each theorem. -/
namespace Go.Gv
open Go Go.RowKit

/-! G w w': what what looks may do; G2 w w': what any operation of the region may do: what looks sees the same behind it. -/
section
variable {P : Program} {ops : Array Oper} {md : Region.Mode} {Q : Exit → Act → World → Prop} {G G2 : World → World → Prop} {T U : List Nat}
def YieldsH (P : Program) (ops : Array Oper) (G G2 : World → World → Prop) (w : World) (o : Oper) (v : Value) (a : Act) : Prop :=
  (Region.wanted o (yielded ops a.tmps) = true ∧ ∀ w', G2 w w' → lookUponG P G w' v ((execOp a.eval o).run P w')) ∨ (Region.wanted o (yielded ops a.tmps) = false ∧ v = undef)
theorem YieldsH.of_same {w : World} {o : Oper} {v : Value} {a a' : Act} (hy : YieldsH P ops G G2 w o v a) (he : execOp a'.eval o = execOp a.eval o)
    (hw : Region.wanted o (yielded ops a'.tmps) = Region.wanted o (yielded ops a.tmps)) : YieldsH P ops G G2 w o v a' := by
  unfold YieldsH at *
  rw [he, hw]
  exact hy
theorem YieldsH.ext (ht : ∀ a b c, G2 a b → G2 b c → G2 a c) {w w1 : World} {o : Oper} {v : Value} {a : Act} (hy : YieldsH P ops G G2 w o v a) (h : G2 w w1) : YieldsH P ops G G2 w1 o v a := by
  rcases hy with ⟨h1, h2⟩ | h
  · exact .inl ⟨h1, fun w' hw' => h2 w' (ht _ _ _ h hw')⟩
  · exact .inr h
theorem YieldsH.wpOp (hrf : ∀ a, G a a) {i : Nat} {o : Oper} {v : Value} {a : Act} {w w' : World} {K : Act → World → Prop} (hi : ops[i]? = some o) (hy : YieldsH P ops G G2 w o v a) (hw' : G2 w w') (h : ∀ w'', G w' w'' → K (a.put o.dst v) w'') : wpOp P ops Q i K a w' := by
  unfold Go.wpOp
  simp only [hi]
  rcases hy with ⟨hw, hv⟩ | ⟨hw, rfl⟩
  · simp only [hw, if_true]
    refine .inl ?_
    have hz := hv w' hw'
    unfold Oper.wp
    generalize (execOp a.eval o).run P w' = r at hz
    cases r with
    | ok n w1 =>
      cases n <;> simp only [lookUponG] at hz <;> simp only [Oper.upon]
      case value u => obtain ⟨rfl, rfl⟩ := hz; exact h _ (hrf _)
      case skip => obtain ⟨rfl, rfl⟩ := hz; exact h _ (hrf _)
      case enter f args =>
        obtain ⟨rfl, hc⟩ := hz
        refine hc.mono fun e w'' ⟨he, hm⟩ => ?_
        subst he; exact h _ hm
    | halt x w1 => simp only [lookUponG] at hz
  · simp only [hw, Bool.false_eq_true, if_false]; exact h _ (hrf _)
theorem wpOp_putH {j : Nat} {oi oj : Oper} {v : Value} {w w0 : World} (hj : ops[j]? = some oj) (hap : oi.apart ops oj = true)
    (hsi : ∀ cs b, oi.op ≠ .select cs b) (hsj : ∀ cs b, oj.op ≠ .select cs b)
    (hQ : ∀ c a w, Q (.panic c) (a.put oi.dst v) w → Q (.panic c) a w) {K : Act → World → Prop} {a : Act}
    (hy : YieldsH P ops G G2 w0 oi v a) (h : wpOp P ops Q j K (a.put oi.dst v) w) :
    wpOp P ops Q j (fun a' w' => YieldsH P ops G G2 w0 oi v a' ∧ K (a'.put oi.dst v) w') a w := by
  obtain ⟨h1, h2, h3⟩ := Oper.apart_spec hap
  have keep : ∀ (a : Act), YieldsH P ops G G2 w0 oi v a → ∀ u, YieldsH P ops G G2 w0 oi v (a.put oj.dst u) := fun a hy u =>
    hy.of_same (execOp_put oi hsi a oj.dst u h3) (wanted_put oi a oj.dst u h3)
  have keepD : ∀ d, YieldsH P ops G G2 w0 oi v { a with defers := d :: a.defers } := fun d => hy.of_same rfl rfl
  unfold Go.wpOp at *
  simp only [hj] at *
  rw [wanted_put oj a oi.dst v h1] at h
  split
  · rename_i hw
    simp only [hw, if_true] at h
    rcases h with h | ⟨hasks, hlets⟩
    case inr => exact .inr ⟨by unfold Oper.asks at *; rw [execOp_put oj hsj a oi.dst v h1] at hasks; exact hasks, hlets⟩
    refine .inl ?_
    unfold Oper.wp at *
    rw [execOp_put oj hsj a oi.dst v h1] at h
    generalize (execOp a.eval oj).run P w = r at *
    cases r with
    | ok n w' =>
      cases n <;> simp only [Oper.upon] at h ⊢
      case value u => exact ⟨keep a hy u, by rw [← Act.put_comm a v u h2]; exact h⟩
      case skip => exact ⟨keep a hy _, by rw [← Act.put_comm a v undef h2]; exact h⟩
      case defer d =>
        refine ⟨keep _ (keepD d) _, ?_⟩
        rw [← Act.put_comm _ v undef h2, ← Act.put_defers]
        exact h
      case enter f args =>
        refine Calls.mono h fun e w'' he => ?_
        cases e with
        | returned u => exact ⟨keep a hy u, by rw [← Act.put_comm a v u h2]; exact he⟩
        | panicked c => exact hQ _ _ _ he
        | outgrown => exact he
      case row row args => exact Rows.mono h fun u w'' he => ⟨keep a hy u, by rw [← Act.put_comm a v u h2]; exact he⟩
    | halt x w' =>
      cases x <;> simp only [Oper.upon] at h ⊢
      case panic u => exact hQ _ _ _ h
  · rename_i hw
    simp only [hw] at h
    exact ⟨keep a hy _, by rw [← Act.put_comm a v undef h2]; exact h⟩

/-- Whatever order is picked from here on. -/
def wpH (P : Program) (md : Region.Mode) (ops : Array Oper) (Q : Exit → Act → World → Prop) (G G2 : World → World → Prop) (T U : List Nat) : Nat → Array Bool → Act → World → Prop
  | 0, listed, a, w => Region.ready md ops listed = [] ∧ ∀ w', G w w' → Q .normal a w'
  | fuel + 1, listed, a, w =>
    (Region.ready md ops listed = [] → ∀ w', G w w' → Q .normal a w') ∧
    ∀ i ∈ Region.ready md ops listed, ∀ w', G w w' → wpOp P ops Q i (fun a' w'' => (i ∉ T → G w' w'') ∧ (i ∉ U → G2 w' w'') ∧ wpH P md ops Q G G2 T U fuel (listed.setIfInBounds i true) a' w'') a w'
theorem wpH_ext (ht : ∀ a b c, G a b → G b c → G a c) {fuel : Nat} {listed : Array Bool} {a : Act} {w w1 : World} (h : wpH P md ops Q G G2 T U fuel listed a w) (h1 : G w w1) : wpH P md ops Q G G2 T U fuel listed a w1 := by
  cases fuel with
  | zero => exact ⟨h.1, fun w' hw' => h.2 _ (ht _ _ _ h1 hw')⟩
  | succ f => exact ⟨fun h0 w' hw' => h.1 h0 _ (ht _ _ _ h1 hw'), fun i hi w' hw' => h.2 i hi _ (ht _ _ _ h1 hw')⟩
theorem wpAny_of_H (hrf : ∀ a, G a a) : ∀ (fuel : Nat) (listed : Array Bool) (a : Act) (w : World), wpH P md ops Q G G2 T U fuel listed a w → wpAny P md ops Q fuel listed a w
  | 0, _, _, _, h => ⟨h.1, h.2 _ (hrf _)⟩
  | fuel + 1, _, _, _, h => ⟨fun h0 => h.1 h0 _ (hrf _), fun i hi => wpOp_mono (fun a' w' h' => wpAny_of_H hrf fuel _ a' w' h'.2.2) (h.2 i hi _ (hrf _))⟩

theorem wpH_first {i : Nat} {oi : Oper} {v : Value} (hrf : ∀ a, G a a) (ht : ∀ a b c, G a b → G b c → G a c) (ht2 : ∀ a b c, G2 a b → G2 b c → G2 a c) (hsub : ∀ a b, G a b → G2 a b) (hi : ops[i]? = some oi) (hsel : ∀ (j : Nat) (o : Oper) cs b, ops[j]? = some o → o.op ≠ .select cs b)
    (hQ : ∀ c (a a' : Act) w, a.defers = a'.defers → Q (.panic c) a w → Q (.panic c) a' w) (n : Nat) (hU : ∀ t ∈ U, i ∈ waitsFor md ops n t) :
    ∀ (fuel : Nat) (listed : Array Bool) (a : Act) (w : World), downC md ops listed →
      (∀ j oj, ops[j]? = some oj → j ≠ i → listed.getD j true = false → (∀ e ∈ oj.after, Region.binds md e = true → e.on ≠ i) → oi.apart ops oj = true) →
      i ∈ Region.ready md ops listed → YieldsH P ops G G2 w oi v a →
      wpH P md ops Q G G2 T U fuel (listed.setIfInBounds i true) (a.put oi.dst v) w → wpH P md ops Q G G2 T U (fuel + 1) listed a w := by
  intro fuel
  induction fuel with
  | zero =>
    intro listed a w hdc _ hr hy H
    refine ⟨fun h => (by rw [h] at hr; cases hr), fun j hj w' hw' => ?_⟩
    by_cases hji : j = i
    · subst hji
      exact hy.wpOp hrf hi (hsub _ _ hw') fun w'' hw'' => ⟨fun _ => hw'', fun _ => hsub _ _ hw'', wpH_ext ht H (ht _ _ _ hw' hw'')⟩
    · have := ready_mono hj hji
      rw [H.1] at this
      cases this
  | succ fuel ih =>
    intro listed a w hdc hfree hr hy H
    refine ⟨fun h => (by rw [h] at hr; cases hr), fun j hj w' hw' => ?_⟩
    by_cases hji : j = i
    · subst hji
      exact hy.wpOp hrf hi (hsub _ _ hw') fun w'' hw'' => ⟨fun _ => hw'', fun _ => hsub _ _ hw'', wpH_ext ht H (ht _ _ _ hw' hw'')⟩
    · have h1 := H.2 j (ready_mono hj hji) w' hw'
      obtain ⟨hjun, oj, hoj, hall⟩ := mem_ready.1 hj
      have hun : listed.getD i true = false := (mem_ready.1 hr).1
      have hun2 : listed.getD i false = false := by
        rcases Nat.lt_or_ge i listed.size with h' | h'
        · simpa [h'] using hun
        · simp [Array.getElem?_eq_none h'] at hun
      have hnot : ∀ e ∈ oj.after, Region.binds md e = true → e.on ≠ i := fun e he hb heq => by
        have h1 := hall e he hb
        rw [heq, hun2] at h1; cases h1
      have hjU : j ∉ U := fun hjt => by
        have := ready_waits hdc hj (hU j hjt)
        rw [hun2] at this; cases this
      have h2 := wpOp_putH (G := G) (G2 := G2) hoj (hfree j oj hoj hji hjun hnot) (fun cs b => hsel i oi cs b hi) (fun cs b => hsel j oj cs b hoj) (fun c a w h => hQ c _ _ w (by cases oi.dst <;> rfl) h) (hy.ext ht2 (hsub _ _ hw')) h1
      have hfree' : ∀ k ok, ops[k]? = some ok → k ≠ i → (listed.setIfInBounds j true).getD k true = false →
          (∀ e ∈ ok.after, Region.binds md e = true → e.on ≠ i) → oi.apart ops ok = true := fun k ok hk hki hun hno => by
        refine hfree k ok hk hki ?_ hno
        by_cases hjk : j = k
        · subst hjk; exact hjun
        · rw [getD_set_ne true hjk] at hun; exact hun
      refine wpOp_mono (fun a' w'' h3 => ⟨h3.2.1, h3.2.2.1, ?_⟩) h2
      obtain ⟨hy', _, hG2, h4⟩ := h3
      refine ih (listed.setIfInBounds j true) a' w'' (downC_set hdc hj) hfree' (ready_mono hr (Ne.symm hji)) (hy'.ext ht2 (hG2 hjU)) ?_
      rw [Array.setIfInBounds_comm _ _ hji]
      exact h4

def permE (md : Region.Mode) (ops : Array Oper) (U : List Nat) (m : Nat) : List Nat → Array Bool → Bool
  | [], _ => true
  | i :: hd, listed => (Region.ready md ops listed).contains i && Region.free md ops listed i && (U.all fun t => (waitsFor md ops m t).contains i) && permE md ops U m hd (listed.setIfInBounds i true)
theorem wpH_looks_aux {ι : Type} {W : ι → World} (hrf : ∀ a, G a a) (ht : ∀ a b c, G a b → G b c → G a c) (ht2 : ∀ a b c, G2 a b → G2 b c → G2 a c) (hsub : ∀ a b, G a b → G2 a b) (hs : Region.noSelect ops = true) (hQ : ∀ c (a a' : Act) w, a.defers = a'.defers → Q (.panic c) a w → Q (.panic c) a' w) (m fuel : Nat) (w : World) (hW : ∀ w', G2 w w' → ∃ z, w' = W z) :
    ∀ (hd : List Nat) (lh : List Oper) (listed : Array Bool) (a : Act), hd.mapM (fun i => ops[i]?) = some lh → downC md ops listed → permE md ops U m hd listed = true →
    wpLooksG P ops G W (fun a' => wpH P md ops Q G G2 T U fuel (setAll listed hd) a' w) lh a → wpH P md ops Q G G2 T U (hd.length + fuel) listed a w
  | [], lh, listed, a, hl, _, _, h => by
    simp at hl; subst hl
    have e : ([] : List Nat).length + fuel = fuel := by simp
    rw [e]; exact h
  | i :: hd, lh, listed, a, hl, hdc, hB, h => by
    simp only [List.mapM_cons, Option.bind_eq_bind, Option.pure_def] at hl
    cases hi : ops[i]? with
    | none => simp [hi] at hl
    | some o =>
      cases hr : hd.mapM (fun i => ops[i]?) with
      | none => simp [hi, hr] at hl
      | some l' =>
        simp [hi, hr] at hl
        subst hl
        simp only [permE, Bool.and_eq_true, List.all_eq_true, List.contains_iff_mem] at hB
        obtain ⟨⟨⟨hB1, hB2⟩, hB3⟩, hB4⟩ := hB
        rw [show (i :: hd).length + fuel = (hd.length + fuel) + 1 by simp; omega]
        unfold wpLooksG at h
        split at h
        · rename_i hw
          obtain ⟨v, hv, hk⟩ := h
          exact wpH_first hrf ht ht2 hsub hi (Region.noSelect_spec hs) hQ m hB3 _ listed a w hdc (Region.free_spec hi hB2) hB1 (.inl ⟨hw, fun w' hw' => by
            obtain ⟨z, rfl⟩ := hW w' hw'
            exact hv z⟩) (wpH_looks_aux hrf ht ht2 hsub hs hQ m fuel w hW hd l' _ _ hr (downC_set hdc hB1) hB4 hk)
        · rename_i hw
          exact wpH_first hrf ht ht2 hsub hi (Region.noSelect_spec hs) hQ m hB3 _ listed a w hdc (Region.free_spec hi hB2) hB1 (.inr ⟨by simpa using hw, rfl⟩) (wpH_looks_aux hrf ht ht2 hsub hs hQ m fuel w hW hd l' _ _ hr (downC_set hdc hB1) hB4 h)
/-- What looks comes first; W z: the worlds in which it may look. -/
theorem wpH_looks {l : List Oper} {n : Nat} {lh : List Oper} {listed : Array Bool} {a : Act} {w : World} (fuel m : Nat) (hd : List Nat) (hn : n = hd.length + fuel) (hrf : ∀ a, G a a) (ht : ∀ a b c, G a b → G b c → G a c) (hrf2 : ∀ a, G2 a a) (ht2 : ∀ a b c, G2 a b → G2 b c → G2 a c) (hsub : ∀ a b, G a b → G2 a b) (hs : Region.noSelect l.toArray = true) (hQ : ∀ c (a a' : Act) w, a.defers = a'.defers → Q (.panic c) a w → Q (.panic c) a' w)
    (hl : picks l hd = some lh) (hB : (downB md l.toArray listed && permE md l.toArray U m hd listed) = true)
    (h : ∀ (ι : Type) (W : ι → World), Nonempty ι → Hid (∀ z, G2 w (W z)) → wpLooksG P l.toArray G W (fun a' => wpH P md l.toArray Q G G2 T U fuel (setAll listed hd) a' w) lh a) : wpH P md l.toArray Q G G2 T U n listed a w := by
  subst hn
  rw [Bool.and_eq_true] at hB
  obtain ⟨ι, W, hne, hW, hWs⟩ := classFam (G2 w) (hrf2 w)
  exact wpH_looks_aux hrf ht ht2 hsub hs hQ m fuel w hWs hd lh listed a (picks_eq l hd lh hl) (downB_spec hB.1) hB.2 (h ι W hne (Lib.hid hW))
/-- One operation alone is ready. -/
theorem wpH_force {l : List Oper} {fuel : Nat} {listed : Array Bool} {a : Act} {w : World} (t : Nat) (o : Oper) (ho : nthO l t = some o) (hr : (Region.ready md l.toArray listed == [t]) = true) (hg : o.guard = none)
    (h : ∀ w', G w w' → ∀ K : Act → World → Prop, (∀ a' w'', (t ∉ T → G w' w'') → (t ∉ U → G2 w' w'') → wpH P md l.toArray Q G G2 T U fuel (listed.setIfInBounds t true) a' w'' → K a' w'') → o.wp P a w' K Q) : wpH P md l.toArray Q G G2 T U (fuel + 1) listed a w := by
  have ho : l.toArray[t]? = some o := by rw [← ho, nthO_eq]; simp
  have hr' : Region.ready md l.toArray listed = [t] := by simpa using hr
  refine ⟨fun h0 => (by rw [hr'] at h0; cases h0), fun i hi w' hw' => ?_⟩
  rw [hr'] at hi
  obtain rfl : i = t := by simpa using hi
  unfold Go.wpOp
  simp only [ho]
  rw [if_pos (by simp [Region.wanted, hg])]
  exact .inl (h w' hw' _ fun a' w'' h1 h2 h3 => ⟨h1, h2, h3⟩)
theorem wpH_end {listed : Array Bool} {a : Act} {w : World} (hr : (Region.ready md ops listed).isEmpty = true) (h : ∀ w', G w w' → Q .normal a w') : ∀ fuel, wpH P md ops Q G G2 T U fuel listed a w
  | 0 => ⟨by simpa using hr, h⟩
  | _ + 1 => ⟨fun _ => h, fun i hi => by
      have : Region.ready md ops listed = [] := by simpa using hr
      rw [this] at hi; cases hi⟩
/-- Two operations are ready. -/
theorem wpH_two {l : List Oper} {fuel : Nat} {listed : Array Bool} {a : Act} {w : World} (t1 t2 : Nat) (o1 o2 : Oper) (ho1 : nthO l t1 = some o1) (ho2 : nthO l t2 = some o2) (hr : (Region.ready md l.toArray listed == [t1, t2]) = true) (hg1 : o1.guard = none) (hg2 : o2.guard = none)
    (h1 : ∀ w', G w w' → ∀ K : Act → World → Prop, (∀ a' w'', (t1 ∉ T → G w' w'') → (t1 ∉ U → G2 w' w'') → wpH P md l.toArray Q G G2 T U fuel (listed.setIfInBounds t1 true) a' w'' → K a' w'') → o1.wp P a w' K Q)
    (h2 : ∀ w', G w w' → ∀ K : Act → World → Prop, (∀ a' w'', (t2 ∉ T → G w' w'') → (t2 ∉ U → G2 w' w'') → wpH P md l.toArray Q G G2 T U fuel (listed.setIfInBounds t2 true) a' w'' → K a' w'') → o2.wp P a w' K Q) : wpH P md l.toArray Q G G2 T U (fuel + 1) listed a w := by
  have ho1 : l.toArray[t1]? = some o1 := by rw [← ho1, nthO_eq]; simp
  have ho2 : l.toArray[t2]? = some o2 := by rw [← ho2, nthO_eq]; simp
  have hr' : Region.ready md l.toArray listed = [t1, t2] := by simpa using hr
  refine ⟨fun h0 => (by rw [hr'] at h0; cases h0), fun i hi w' hw' => ?_⟩
  rw [hr'] at hi
  simp only [List.mem_cons, List.not_mem_nil, or_false] at hi
  unfold Go.wpOp
  rcases hi with rfl | rfl
  · simp only [ho1]
    rw [if_pos (by simp [Region.wanted, hg1])]
    exact .inl (h1 w' hw' _ fun a' w'' k1 k2 k3 => ⟨k1, k2, k3⟩)
  · simp only [ho2]
    rw [if_pos (by simp [Region.wanted, hg2])]
    exact .inl (h2 w' hw' _ fun a' w'' k1 k2 k3 => ⟨k1, k2, k3⟩)
theorem wp_region_H {id : Nat} {a : Act} {w : World} {l : List Oper} (G G2 : World → World → Prop) (T U : List Nat) (hrf : ∀ a, G a a) (hm : P.follows .mixedOrders = true)
    (h : wpH P .any l.toArray Q G G2 T U l.toArray.size (Array.replicate l.toArray.size false) a w.drew) : (Code.region id l.toArray true).wp P Q a w :=
  wp_region_any hm (wpAny_of_H hrf _ _ _ _ h)
end
/-- What was there below B stands. -/
def GZ (B : Nat) (a b : World) : Prop := B ≤ a.heap.size → Below B a b
theorem GZ.rf (B : Nat) (a : World) : GZ B a a := fun _ => Below.refl _ _
theorem GZ.tr (B : Nat) (a b c : World) (h : GZ B a b) (k : GZ B b c) : GZ B a c := fun hb => Below.trans (h hb) (k (Nat.le_trans hb (Below.size (h hb))))
theorem GZ.sub (B : Nat) (a b : World) (h : GB a b) : GZ B a b := fun hb => Below.mono h hb
end Go.Gv
/- Maps read as lists: an entry taken out. Conditions: those named in each theorem. -/
namespace Go.Gv
open Go Go.RowKit

section
set_option linter.unusedSectionVars false
variable {K V : Type} [DecidableEq K] [KEnc K] [VEnc V] {P : Program} {tK tM tV : TypeId}
theorem mdel_eq_erase : ∀ {m : List (K × V)} {i : Nat} (h : i < m.length) {k : K}, (m.map (·.1)).Nodup → m[i].1 = k → mdel m k = m.eraseIdx i
  | p :: m, 0, _, k, hn, hk => by
    simp only [List.map_cons, List.nodup_cons] at hn
    simp only [List.getElem_cons_zero] at hk
    unfold mdel
    rw [List.eraseIdx_cons_zero, List.filter_cons_of_neg (by simp [hk]), List.filter_eq_self]
    intro q hq
    have : q.1 ≠ k := fun e => hn.1 (by rw [hk, ← e]; exact List.mem_map.2 ⟨q, hq, rfl⟩)
    simp [this]
  | p :: m, i + 1, h, k, hn, hk => by
    simp only [List.map_cons, List.nodup_cons] at hn
    simp only [List.getElem_cons_succ] at hk
    have hil : i < m.length := by simpa using h
    have hne : ¬ p.1 = k := fun e => hn.1 (by rw [e, ← hk]; exact List.mem_map.2 ⟨m[i], List.getElem_mem _, rfl⟩)
    have ih := mdel_eq_erase (m := m) hil hn.2 hk
    unfold mdel at ih ⊢
    rw [List.eraseIdx_cons_succ, List.filter_cons_of_pos (by simp [hne]), ih]
theorem map_erase {α β : Type} (f : α → β) : ∀ (l : List α) (i : Nat), (l.eraseIdx i).map f = (l.map f).eraseIdx i
  | [], _ => rfl
  | _ :: _, 0 => rfl
  | a :: l, i + 1 => by rw [List.eraseIdx_cons_succ, List.map_cons, List.map_cons, List.eraseIdx_cons_succ, map_erase f l i]
theorem mdel_none {m : List (K × V)} {k : K} (h : k ∉ m.map (·.1)) : mdel m k = m := by
  unfold mdel
  rw [List.filter_eq_self]
  intro q hq
  have : q.1 ≠ k := fun e => h (by rw [← e]; exact List.mem_map.2 ⟨q, hq, rfl⟩)
  simp [this]
theorem run_delete_ex (L : KeyLaws P tK K) (hM : P.underlying tM = some (.map tK tV)) {w : World} {r : Nat} {m : List (K × V)} (h : mapAt K V w r = some m) (k : K) (ty : TypeId) :
    ∃ w', (Builtin.delete_ #[tM, tK] ty #[.map (some r), KEnc.kv k]).run P w = .ok (.tuple #[]) w' ∧ mapAt K V w' r = some (mdel m k) ∧ GX r w w' := by
  obtain ⟨es, c, hb, he, hn, hp, hc⟩ := mapAt_iff.1 h
  have hlt : r < w.heap.size := (Array.getElem?_eq_some_iff.1 hb).1
  have hk : es.toList.map (·.key) = (m.map (·.1)).map KEnc.kv := by
    have := congrArg (List.map Prod.fst) he
    simpa [List.map_map, Function.comp_def] using this
  have hl : es.toList.length = m.length := by have := congrArg List.length he; simpa using this
  have hf := L.fnd k es.toList (m.map (·.1)) w hk
  have hg : (getObj r).run P w = .ok (.map es c) w := by simp [getObj, Sem.run, hb]
  have hs : ∀ o, (setObj r o).run P w = .ok () { w with heap := w.heap.setIfInBounds r o } := fun o => by simp [setObj, Sem.run, hb]
  by_cases hmem : k ∈ m.map (·.1)
  · cases hi : (m.map (·.1)).findIdx? fun x => decide (x = k) with
    | none =>
      rw [List.findIdx?_eq_none_iff] at hi
      have := hi k hmem
      simp at this
    | some i =>
      obtain ⟨hil, hik, _⟩ := List.findIdx?_eq_some_iff_getElem.1 hi
      have hlt' : i < m.length := by simpa using hil
      have hle : i < es.toList.length := by omega
      have hik' : m[i].1 = k := by simpa using hik
      have hel : (es.eraseIdxIfInBounds i).toList = es.toList.eraseIdx i := by
        have hi9 : i < es.size := by simpa using hle
        unfold Array.eraseIdxIfInBounds
        rw [dif_pos hi9, Array.toList_eraseIdx]
      refine ⟨{ w with heap := w.heap.setIfInBounds r (.map (es.eraseIdxIfInBounds i) c) }, ?_, ?_, ?_⟩
      · simp only [Builtin.delete_, Sem.run_bind, run_underlying hM, Result.andThen_ok, hg, L.chk, hf, hi, Option.bind_some, List.getElem?_eq_getElem hle, Option.map_some, hs, Sem.run_pure, List.getElem?_toArray, List.getElem?_cons_zero, List.getElem?_cons_succ]
      · refine mapAt_iff.2 ⟨es.eraseIdxIfInBounds i, c, by simp [hlt], ?_, ?_, ?_, ?_⟩
        · rw [mdel_eq_erase hlt' hn hik', hel, map_erase, he, map_erase]
        · unfold mdel
          exact hn.sublist (List.filter_sublist.map _)
        · rw [hel]
          exact hp.sublist (List.eraseIdx_sublist _ _)
        · intro e hm2
          rw [hel] at hm2
          exact hc e ((List.eraseIdx_sublist _ _).mem hm2)
      · refine ⟨rfl, rfl, rfl, by simp, fun j hj hne => ?_⟩
        show (w.heap.setIfInBounds r _)[j]? = _
        rw [Array.getElem?_setIfInBounds_ne (by intro e; exact hne (by rw [e]))]
  · refine ⟨{ w with heap := w.heap.setIfInBounds r (.map es c) }, ?_, ?_, ?_⟩
    · simp only [Builtin.delete_, Sem.run_bind, run_underlying hM, Result.andThen_ok, hg, L.chk, hf, findIdx_none hmem, Option.bind_none, Sem.run_pure, List.getElem?_toArray, List.getElem?_cons_zero, List.getElem?_cons_succ, hs]
    · rw [mdel_none hmem]
      exact mapAt_iff.2 ⟨es, c, by simp [hlt], he, hn, hp, hc⟩
    · refine ⟨rfl, rfl, rfl, by simp, fun j hj hne => ?_⟩
      show (w.heap.setIfInBounds r _)[j]? = _
      rw [Array.getElem?_setIfInBounds_ne (by intro e; exact hne (by rw [e]))]
end
end Go.Gv
/- Results that lie in memory. Conditions: those named in each theorem. -/
namespace Go.Proofs.YthkifibmihijaaaGreatDoor
open Go Go.RowKit Go.Gv
theorem results_cell_tmp {P : Program} {fn : Func} {α : Type} [Enc α] {a u : Tmp} {t : TypeId} {tmps : Array Value} {w : World} {ad : Addr} {x : α} (hres : fn.results = #[.cell a t, .tmp u]) (ha : tmps.getD a undef = .pointer (some ad)) (h1 : aggT P t = true) (h2 : sizeT P t = Enc.n α) (hg : get? α w ad = some x) :
    (results fn tmps).run P w = .ok (.tuple #[.agg (Enc.enc x).toArray, tmps.getD u undef]) w := by
  have hl := run_loadVar_get (P := P) h1 h2 hg
  simp only [Array.getD_eq_getD_getElem?] at ha
  simp [results, hres, ha, asAddr, hl]
theorem results_cell {P : Program} {fn : Func} {α : Type} [Enc α] {a : Tmp} {t : TypeId} {tmps : Array Value} {w : World} {ad : Addr} {x : α} (hres : fn.results = #[.cell a t]) (ha : tmps.getD a undef = .pointer (some ad)) (h1 : aggT P t = true) (h2 : sizeT P t = Enc.n α) (hg : get? α w ad = some x) :
    (results fn tmps).run P w = .ok (.agg (Enc.enc x).toArray) w := by
  have hl := run_loadVar_get (P := P) h1 h2 hg
  simp only [Array.getD_eq_getD_getElem?] at ha
  simp [results, hres, ha, asAddr, hl]
end Go.Proofs.YthkifibmihijaaaGreatDoor
/- Where own lists lie. Conditions: those named in each theorem. -/
namespace Go.Gv
open Go
theorem addN (blk off n : Nat) : (⟨blk, off, none⟩ : Addr).add n = ⟨blk, off + n, none⟩ := by
  unfold Addr.add
  by_cases h : n = 0
  · subst h; rfl
  · rw [if_neg h]
end Go.Gv
namespace Go.Proofs.YthkifibmihijaaaGreatDoor
open Go Go.RowKit Go.Gv
theorem OwnA.place {α : Type} [Enc α] {w : World} {base c : Nat} {e : TypeId} {A : Option Addr} {xs : List α} (h : OwnA w base e A c xs) (hn : 0 < xs.length) :
    ∃ g, A = some ⟨g, 0, none⟩ ∧ base ≤ g ∧ g < w.heap.size ∧ blkFree w g = true := by
  rcases h with ⟨_, ⟨h1, h2⟩ | ⟨g, cap, cur, h1, h2, h3, _⟩⟩
  · omega
  · injection h1 with h1 _ _
    refine ⟨g, h1, h2, ?_, by unfold blkFree; rw [h3]; rfl⟩
    exact (Array.getElem?_eq_some_iff.1 h3).1
end Go.Proofs.YthkifibmihijaaaGreatDoor
/- Stores into blocks of cells, and what they leave alone. Conditions: those named in each theorem. -/
namespace Go.Proofs.YthkifibmihijaaaGreatDoor
open Go Go.RowKit Go.Gv

theorem atPokeV {w : World} {g : Nat} {cs : List Value} (h : At w ⟨g, 0, none⟩ cs) {j : Nat} (hj : j < cs.length) (v : Value) : At (w.setCell ⟨g, j, none⟩ v) ⟨g, 0, none⟩ (cs.set j v) := by
  intro i u hu
  rw [addN, Nat.zero_add]
  have hi : i < cs.length := by have := (List.getElem?_eq_some_iff.1 hu).1; simpa using this
  have hx := h i _ (List.getElem?_eq_getElem hi)
  rw [addN, Nat.zero_add] at hx
  by_cases e : j = i
  · subst e
    rw [World.cell?_setCell_same w _ v hx]
    rw [List.getElem?_set_self hj] at hu; exact hu
  · rw [World.cell?_setCell_other w _ _ v (fun h => e (by injection h)), hx]
    rw [List.getElem?_set_ne e, List.getElem?_eq_getElem hi] at hu; exact hu
theorem atPutSegV {g j : Nat} : ∀ (vs : List Value) (i : Nat) (w : World) (cs : List Value), At w ⟨g, 0, none⟩ cs → j + i + vs.length ≤ cs.length → At (World.putFrom w ⟨g, j, none⟩ i vs) ⟨g, 0, none⟩ (setSeg cs (j + i) vs)
  | [], _, _, _, h, _ => h
  | v :: vs, i, w, cs, h, hl => by
    simp only [List.length_cons] at hl
    unfold World.putFrom setSeg
    rw [addN]
    exact atPutSegV vs (i + 1) _ _ (atPokeV h (by omega) v) (by rw [List.length_set]; omega)
theorem get?_putSegV {α : Type} [Enc α] {w : World} {g j : Nat} {x y : α} {vs : List Value} (h : get? α w ⟨g, 0, none⟩ = some x) (hl : j + vs.length ≤ Enc.n α) (hy : Enc.enc y = setSeg (Enc.enc x) j vs) : get? α (World.putCells w ⟨g, j, none⟩ vs) ⟨g, 0, none⟩ = some y := by
  rw [get?_iff] at h ⊢
  rw [hy]
  unfold World.putCells
  exact atPutSegV vs 0 w _ h (by rw [Enc.len]; omega)
theorem get?_putV {α : Type} [Enc α] {w : World} {b o : Nat} {y : α} (x : α) (h : get? α w ⟨b, o, none⟩ = some y) : get? α (World.putCells w ⟨b, o, none⟩ (Enc.enc x)) ⟨b, o, none⟩ = some x := by
  refine get?_iff.2 fun j v hv => ?_
  have hj : j < (Enc.enc x).length := (List.getElem?_eq_some_iff.1 hv).1
  have hjy : j < (Enc.enc y).length := by rw [Enc.len] at hj ⊢; exact hj
  have hc := (get?_iff.1 h) j _ (List.getElem?_eq_getElem hjy)
  rw [addN] at hc ⊢
  unfold World.putCells
  rw [cell_putFrom rfl _ _ _ _ rfl (by rw [hc]; rfl), if_pos ⟨rfl, by simp, by simp; exact hj⟩]
  simpa using hv
theorem chg_put {S : Nat → Prop} {w : World} {b o : Nat} (hb : S b) (vs : List Value) : Chg S w (World.putCells w ⟨b, o, none⟩ vs) := by
  unfold World.putCells
  have key : ∀ (vs : List Value) (i : Nat) (w1 : World), Chg S w w1 → Chg S w (World.putFrom w1 ⟨b, o, none⟩ i vs) := by
    intro vs
    induction vs with
    | nil => intro i w1 h; exact h
    | cons v vs ih =>
      intro i w1 h
      refine ih _ _ (h.tr ⟨rfl, rfl, rfl, by simp, fun k _ hn => Below.heap_setCell _ _ _ _ (fun e => hn ?_)⟩)
      rw [add_block] at e
      exact e ▸ hb
  exact key vs 0 w (Chg.refl _ _)
theorem chg_cell {S : Nat → Prop} {w : World} {b o : Nat} (hb : S b) (u : Value) : Chg S w (w.setCell ⟨b, o, none⟩ u) :=
  ⟨rfl, rfl, rfl, by simp, fun k _ hn => Below.heap_setCell _ _ _ _ (fun e => hn (e ▸ hb))⟩
theorem chg_new {S : Nat → Prop} {w w' : World} (h : Chg (fun k => S k ∨ w.heap.size ≤ k) w w') : Chg S w w' :=
  ⟨h.os, h.tape, h.output, h.size, fun k hk hn => h.block k hk (by rintro (h1 | h1); exact hn h1; omega)⟩
theorem chg_after {S T : Nat → Prop} {w wx w' : World} (hb : Bel w wx) (h : Chg T wx w') (hT : ∀ k, T k → S k ∨ w.heap.size ≤ k) : Chg S w w' := chg_new ((Chg.of_bel hb _).tr (h.sub hT))
theorem blkFree_put {w : World} {b o n : Nat} (vs : List Value) : blkFree (World.putCells w ⟨b, o, none⟩ vs) n = blkFree w n := by
  unfold World.putCells
  have key : ∀ (vs : List Value) (i : Nat) (w1 : World), blkFree (World.putFrom w1 ⟨b, o, none⟩ i vs) n = blkFree w1 n := by
    intro vs
    induction vs with
    | nil => intro i w1; rfl
    | cons v vs ih => intro i w1; exact (ih _ _).trans (blkFree_setCell _ _ _)
  exact key vs 0 w
theorem get_not_mapV {α : Type} [Enc α] {K V : Type} [DecidableEq K] [KEnc K] [VEnc V] {w : World} {r : Nat} {m : List (K × V)} (hm : mapAt K V w r = some m) {a : Addr} {x : α} (h : get? α w a = some x) : a.block ≠ r := by
  intro e
  obtain ⟨es, c, hb, _⟩ := mapAt_iff.1 hm
  have h0 : (Enc.enc x)[0]? = some ((Enc.enc x)[0]'(by rw [Enc.len]; exact Enc.pos)) := List.getElem?_eq_getElem _
  have := get?_iff.1 h 0 _ h0
  simp [World.cell?, add_block, e, hb] at this
theorem own_not_mapV {α : Type} [Enc α] {K V : Type} [DecidableEq K] [KEnc K] [VEnc V] {w : World} {r base : Nat} {m : List (K × V)} {e : TypeId} {v : Value} {xs : List α} (hm : mapAt K V w r = some m) (h : OwnS w base e v xs) : v.ownBlock ≠ some r := by
  intro he
  rcases h.2 with ⟨rfl, _⟩ | ⟨g, cap, cur, rfl, _, hh, _⟩
  · cases he
  · injection he with he
    subst he
    obtain ⟨es, c, hb, _⟩ := mapAt_iff.1 hm
    rw [hh] at hb
    cases hb
end Go.Proofs.YthkifibmihijaaaGreatDoor
/- Zero values written as literals. Conditions: none. -/
namespace Go.Proofs.YthkifibmihijaaaGreatDoor
open Go Go.RowKit Go.Gv

theorem gBuild_zero {α : Type} [Enc α] {P : Program} {t : TypeId} {x : α} (val : α → Value) (hv : val x = .agg (Enc.enc x).toArray) (h : P.built t [] = some (Enc.enc x).toArray) (w : World) : (gBuild t #[]).run P w = .ok (val x) w := by
  rw [hv]
  unfold gBuild
  exact run_build w t #[] _ h
@[go_sem ↓ high] theorem xd0_312 (ρ : Operand → Value) (dst : Option Tmp) (ps : Array (Nat × Operand)) (ty : TypeId) (pos : String) (after : Array Edge) (guard : Option (Nat × Bool)) : execOp ρ { dst, op := .build 312 ps, type := ty, pos, after, guard } = (do pure (.value (← gBuild 312 (ps.map fun (i, x) => (i, ρ x))))) := ex_build ..
@[go_sem ↓ high] theorem bd0_312 (w : World) : (gBuild 312 #[]).run Tryz.prog w = .ok (GCodeWriter.val default) w := gBuild_zero GCodeWriter.val (GCodeWriter.val_eq _) (by kernel_rfl) w
@[go_sem ↓ high] theorem bd0_44 (w : World) : (gBuild 44 #[]).run Tryz.prog w = .ok (GStamp.val default) w := gBuild_zero GStamp.val (GStamp.val_eq _) (by kernel_rfl) w
@[go_sem ↓ high] theorem bd0_52 (w : World) : (gBuild 52 #[]).run Tryz.prog w = .ok (GPromise.val default) w := gBuild_zero GPromise.val (GPromise.val_eq _) (by kernel_rfl) w
@[go_sem ↓ high] theorem xd0_37 (ρ : Operand → Value) (dst : Option Tmp) (ps : Array (Nat × Operand)) (ty : TypeId) (pos : String) (after : Array Edge) (guard : Option (Nat × Bool)) : execOp ρ { dst, op := .build 37 ps, type := ty, pos, after, guard } = (do pure (.value (← gBuild 37 (ps.map fun (i, x) => (i, ρ x))))) := ex_build ..
@[go_sem ↓ high] theorem bd0_37 (w : World) : (gBuild 37 #[]).run Tryz.prog w = .ok (GHash.val default) w := gBuild_zero GHash.val (GHash.val_eq _) (by kernel_rfl) w
end Go.Proofs.YthkifibmihijaaaGreatDoor
