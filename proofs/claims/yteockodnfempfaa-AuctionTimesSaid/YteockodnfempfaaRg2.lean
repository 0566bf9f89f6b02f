/- Regions that leave their order open, phase by phase; facts carried from world to world. Conditions: those named in each theorem. -/
import Derived.Test.YteockodnfempfaaRg
namespace Go.Gv
open Go Go.RowKit

section
variable {P : Program} {ops : Array Oper} {md : Region.Mode} {Q : Exit → Act → World → Prop} {ι ι' : Type} {W : ι → World} {W' : ι' → World}

/-- A narrower class of worlds serves too. -/
theorem wpE_sub (hs : ∀ z', ∃ z, W' z' = W z) : ∀ (fuel : Nat) (listed : Array Bool) (a : Act) (w : World), wpE P md ops Q W' fuel listed a w → wpE P md ops Q W fuel listed a w
  | 0, _, _, _, h => h
  | fuel + 1, _, _, _, h => ⟨h.1, fun i hi n => wpOp_mono (fun a' w' h' => ⟨by
      obtain ⟨⟨z', e⟩, _⟩ := h'
      obtain ⟨z, e'⟩ := hs z'
      exact ⟨z, e.trans e'⟩, wpE_sub hs fuel _ a' w' h'.2⟩) (h.2 i hi n)⟩
def setAll (listed : Array Bool) : List Nat → Array Bool
  | [] => listed
  | i :: hd => setAll (listed.setIfInBounds i true) hd
def permH (md : Region.Mode) (ops : Array Oper) : List Nat → Array Bool → Bool
  | [], _ => true
  | i :: hd, listed => (Region.ready md ops listed).contains i && Region.free md ops listed i && permH md ops hd (listed.setIfInBounds i true)

/-- What looks comes first. -/
theorem wpE_looks (hcl : ∀ z n, ∃ z', (W z).drewN n = W z') (hs : Region.noSelect ops = true) (hQ : ∀ c (a a' : Act) w, a.defers = a'.defers → Q (.panic c) a w → Q (.panic c) a' w) (fuel : Nat) (z : ι) :
    ∀ (hd : List Nat) (lh : List Oper) (listed : Array Bool) (a : Act), hd.mapM (fun i => ops[i]?) = some lh → permH md ops hd listed = true →
    wpLooks P ops W (fun a' => wpE P md ops Q W fuel (setAll listed hd) a' (W z)) lh a → wpE P md ops Q W (hd.length + fuel) listed a (W z)
  | [], lh, listed, a, hl, _, h => by
    simp at hl; subst hl
    have e : ([] : List Nat).length + fuel = fuel := by simp
    rw [e]; exact h
  | i :: hd, lh, listed, a, hl, hB, h => by
    simp only [List.mapM_cons, Option.bind_eq_bind, Option.pure_def] at hl
    cases hi : ops[i]? with
    | none => simp [hi] at hl
    | some o =>
      cases hr : hd.mapM (fun i => ops[i]?) with
      | none => simp [hi, hr] at hl
      | some l' =>
        simp [hi, hr] at hl
        subst hl
        simp only [permH, Bool.and_eq_true] at hB
        have hrd : i ∈ Region.ready md ops listed := by simpa using hB.1.1
        rw [show (i :: hd).length + fuel = (hd.length + fuel) + 1 by simp; omega]
        unfold wpLooks at h
        split at h
        · rename_i hw
          obtain ⟨v, hv, hk⟩ := h
          exact wpE_first hcl hi (Region.noSelect_spec hs) hQ _ listed a z (Region.free_spec hi hB.1.2) hrd (.inl ⟨hw, hv⟩) (wpE_looks hcl hs hQ fuel z hd l' _ _ hr hB.2 hk)
        · rename_i hw
          exact wpE_first hcl hi (Region.noSelect_spec hs) hQ _ listed a z (Region.free_spec hi hB.1.2) hrd (.inr ⟨by simpa using hw, rfl⟩) (wpE_looks hcl hs hQ fuel z hd l' _ _ hr hB.2 h)

theorem wpE_looks' {n : Nat} {lh : List Oper} {listed : Array Bool} {a : Act} (fuel : Nat) (hd : List Nat) (hn : n = hd.length + fuel) (hcl : ∀ z n, ∃ z', (W z).drewN n = W z') (hs : Region.noSelect ops = true) (hQ : ∀ c (a a' : Act) w, a.defers = a'.defers → Q (.panic c) a w → Q (.panic c) a' w) (z : ι)
    (hl : hd.mapM (fun i => ops[i]?) = some lh) (hB : permH md ops hd listed = true) (h : wpLooks P ops W (fun a' => wpE P md ops Q W fuel (setAll listed hd) a' (W z)) lh a) : wpE P md ops Q W n listed a (W z) := by
  subst hn; exact wpE_looks hcl hs hQ fuel z hd lh listed a hl hB h

/-- One operation alone is ready. -/
theorem wpE_force {fuel : Nat} {listed : Array Bool} {a : Act} {w : World} (t : Nat) (o : Oper) (ho : ops[t]? = some o) (hr : (Region.ready md ops listed == [t]) = true) (hg : o.guard = none)
    (h : ∀ n, ∀ K : Act → World → Prop, (∀ a' w', (∃ z, w' = W z) → wpE P md ops Q W fuel (listed.setIfInBounds t true) a' w' → K a' w') → o.wp P a (w.drewN n) K Q) : wpE P md ops Q W (fuel + 1) listed a w := by
  have hr' : Region.ready md ops listed = [t] := by simpa using hr
  refine ⟨fun h0 => (by rw [hr'] at h0; cases h0), fun i hi n => ?_⟩
  rw [hr'] at hi
  obtain rfl : i = t := by simpa using hi
  unfold Go.wpOp
  simp only [ho]
  rw [if_pos (by simp [Region.wanted, hg])]
  exact .inl (h n _ fun a' w' h1 h2 => ⟨h1, h2⟩)
theorem wpE_end {listed : Array Bool} {a : Act} {w : World} (hr : (Region.ready md ops listed).isEmpty = true) (h : ∀ n, Q .normal a (w.drewN n)) : ∀ fuel, wpE P md ops Q W fuel listed a w
  | 0 => ⟨by simpa using hr, h⟩
  | _ + 1 => ⟨fun _ => h, fun i hi => by
      have : Region.ready md ops listed = [] := by simpa using hr
      rw [this] at hi; cases hi⟩

/-- A region's start: the class is all worlds above block B as they are in w0. -/
theorem wp_region_E {id : Nat} {a : Act} {w : World} {l : List Oper} (C : World → Prop) (hC : C w.drew) (hm : P.follows .mixedOrders = true)
    (h : ∀ (ι : Type) (W : ι → World) (z0 : ι), w.drew = W z0 → Hid (∀ z, C (W z)) → Hid (∀ w', C w' → ∃ z, w' = W z) → wpE P .any l.toArray Q W l.toArray.size (Array.replicate l.toArray.size false) a (W z0)) : (Code.region id l.toArray true).wp P Q a w := by
  obtain ⟨ι, W, _, hW, hWs⟩ := classFam C hC
  obtain ⟨z0, hz⟩ := hWs _ hC
  have := h ι W z0 hz (Lib.hid hW) (Lib.hid hWs)
  rw [← hz] at this
  exact wp_region_any hm (wpAny_of_E _ _ _ _ this)
/-- The class narrowed in the midst of a region. -/
theorem wpE_class {fuel : Nat} {listed : Array Bool} {a : Act} {w : World} (C : World → Prop) (hC : C w) (hs : ∀ w', C w' → ∃ z, w' = W z)
    (h : ∀ (ι : Type) (W' : ι → World) (z0 : ι), w = W' z0 → Hid (∀ z, C (W' z)) → Hid (∀ w', C w' → ∃ z, w' = W' z) → wpE P md ops Q W' fuel listed a (W' z0)) : wpE P md ops Q W fuel listed a w := by
  obtain ⟨ι, W', _, hW, hWs⟩ := classFam C hC
  obtain ⟨z0, hz⟩ := hWs _ hC
  have := h ι W' z0 hz (Lib.hid hW) (Lib.hid hWs)
  rw [← hz] at this
  refine wpE_sub (fun z' => ?_) _ _ _ _ this
  obtain ⟨z, e⟩ := hs _ (hW z')
  exact ⟨z, e⟩

/-! Forced operations of the common kinds. -/
section
variable {fuel : Nat} {listed : Array Bool} {a : Act} {w : World} (t : Nat) (o : Oper) (ho : ops[t]? = some o) (hr : (Region.ready md ops listed == [t]) = true) (hg : o.guard = none)
include ho hr hg
theorem wpE_value (v : Value) (w1 : Nat → World) (hx : ∀ n, (execOp a.eval o).run P (w.drewN n) = .ok (.value v) (w1 n)) (hcls : ∀ n, ∃ z, w1 n = W z)
    (h : ∀ n, wpE P md ops Q W fuel (listed.setIfInBounds t true) (a.put o.dst v) (w1 n)) : wpE P md ops Q W (fuel + 1) listed a w :=
  wpE_force t o ho hr hg fun n K hK => by
    unfold Oper.wp
    rw [hx n]
    exact hK _ _ (hcls n) (h n)
theorem wpE_skip (w1 : Nat → World) (hx : ∀ n, (execOp a.eval o).run P (w.drewN n) = .ok .skip (w1 n)) (hcls : ∀ n, ∃ z, w1 n = W z)
    (h : ∀ n, wpE P md ops Q W fuel (listed.setIfInBounds t true) (a.put o.dst undef) (w1 n)) : wpE P md ops Q W (fuel + 1) listed a w :=
  wpE_force t o ho hr hg fun n K hK => by
    unfold Oper.wp
    rw [hx n]
    exact hK _ _ (hcls n) (h n)
theorem wpE_call (f : FuncId) (args : Array Value) (R : Value → World → Prop) (hx : ∀ n, (execOp a.eval o).run P (w.drewN n) = .ok (.enter f args) (w.drewN n)) (hc : ∀ n, Calls P f args (w.drewN n) fun e w' => ∃ v, e = .returned v ∧ R v w') (hcls : ∀ v w', R v w' → ∃ z, w' = W z)
    (h : ∀ v w', R v w' → wpE P md ops Q W fuel (listed.setIfInBounds t true) (a.put o.dst v) w') : wpE P md ops Q W (fuel + 1) listed a w :=
  wpE_force t o ho hr hg fun n K hK => by
    unfold Oper.wp
    rw [hx n]
    refine (hc n).mono fun e w' ⟨v, he, hR⟩ => ?_
    subst he
    exact hK _ _ (hcls v w' hR) (h v w' hR)
theorem wpE_assign (x : Operand) (hop : o.op = .assign x) (hcls : ∀ n, ∃ z, w.drewN n = W z)
    (h : ∀ n, wpE P md ops Q W fuel (listed.setIfInBounds t true) (a.put o.dst (a.eval x)) (w.drewN n)) : wpE P md ops Q W (fuel + 1) listed a w :=
  wpE_value t o ho hr hg (a.eval x) (fun n => w.drewN n) (fun n => by unfold execOp; simp only [hop, Sem.run_pure]) hcls h
theorem wpE_build1 {α : Type} [Enc α] {ts e : TypeId} {by8 : Nat} (y : Operand) (hop : o.op = .buildSlice ts 1 #[(0, y)]) (E : ElemI P ts e α by8) (hsmall : Enc.n α ≤ 16777216) (x : α)
    (hy : a.eval y = .agg (Enc.enc x).toArray) (hcls : ∀ n, ∃ z, (w.drewN n).alloc (.cells (Enc.enc x).toArray e) = W z)
    (h : ∀ n, wpE P md ops Q W fuel (listed.setIfInBounds t true) (a.put o.dst (.slice (some ⟨w.heap.size, 0, none⟩) 1 1)) ((w.drewN n).alloc (.cells (Enc.enc x).toArray e))) : wpE P md ops Q W (fuel + 1) listed a w :=
  wpE_value t o ho hr hg _ (fun n => (w.drewN n).alloc (.cells (Enc.enc x).toArray e)) (fun n => by
    have := run_buildSlice_one E hsmall x (w.drewN n)
    unfold gBuildSlice at this
    unfold execOp
    simp only [hop, Sem.run_bind, List.map_toArray, List.map_cons, List.map_nil, hy]
    rw [this]; rfl) hcls h
theorem wpE_append {α : Type} [Enc α] {ts e : TypeId} {by8 base B : Nat} {xs ys : List α} {v : Value} (s x : Operand)
    (hop : o.op = .call { callee := .builtin .append, args := #[s, x], argTypes := #[ts, ts] }) (E : ElemI P ts e α by8)
    (hs : a.eval s = v) (hown : OwnS w base e v xs) {A : Option Addr} {m c : Nat} (hx : a.eval x = .slice A m c) (hsl : Sl α w B A m ys) (h63 : xs.length + m ≤ maxLen) (hbytes : (xs.length + m) * by8 ≤ 140737488355328) (hbase : base ≤ w.heap.size)
    (hcls : ∀ n w', (w.drewN n).grownBy w' v.ownBlock → ∃ z, w' = W z)
    (h : ∀ n v' w', OwnS w' base e v' (xs ++ ys) → (w.drewN n).grownBy w' v.ownBlock → (v'.ownBlock = v.ownBlock ∨ v'.ownBlock = some w.heap.size) → wpE P md ops Q W fuel (listed.setIfInBounds t true) (a.put o.dst v') w') : wpE P md ops Q W (fuel + 1) listed a w :=
  wpE_force t o ho hr hg fun n _K hK => wp_append_S s x ts hop E hs (hown.drewN n) hx (hsl.drewN_ n) h63 hbytes hbase fun v' w' h2 h3 h4 => hK _ _ (hcls n w' h3) (h n v' w' h2 h3 h4)
end
end

/-! ### Facts carried from one world to the next -/
/-- All that there was in w0 is there in w. -/
def Bel (w0 w : World) : Prop := Below w0.heap.size w0 w
theorem Bel.refl (w : World) : Bel w w := Below.refl _ _
theorem Bel.step {w0 w w' : World} (h : Bel w0 w) (hb : Below w.heap.size w w') : Bel w0 w' := Below.trans h (hb.mono h.size)
theorem Bel.trans {w0 w w' : World} (h : Bel w0 w) (hb : Bel w w') : Bel w0 w' := h.step hb
theorem Bel.alloc {w0 w : World} (h : Bel w0 w) (o : Obj) : Bel w0 (w.alloc o) := Below.alloc h h.size o
theorem Bel.drew {w0 w : World} (h : Bel w0 w) : Bel w0 w.drew := Below.drew h
theorem Bel.drewN {w0 w : World} (h : Bel w0 w) (n : Nat) : Bel w0 (w.drewN n) := bdN h n
theorem Bel.size {w0 w : World} (h : Bel w0 w) : w0.heap.size ≤ w.heap.size := Below.size h
theorem Bel.grown {w0 w w' : World} {row : Option Nat} (h : Bel w0 w) (hg : w.grownBy w' row) (hr : ∀ k, row = some k → w0.heap.size ≤ k) : Bel w0 w' := Below.grown h hg h.size hr
theorem Bel.setCell {w0 w : World} (h : Bel w0 w) {p : Addr} (hp : w0.heap.size ≤ p.block) (u : Value) : Bel w0 (w.setCell p u) := Below.setCell h hp u
theorem Bel.appS {α : Type} [Enc α] {w0 w w' : World} {base : Nat} {e : TypeId} {v : Value} {xs : List α} (h : Bel w0 w) (hg : w.grownBy w' v.ownBlock) (hown : OwnS w base e v xs) (hb : w0.heap.size ≤ base) : Bel w0 w' :=
  Gv.Below.appS h hg hown hb h.size
theorem Sl.stepB {α : Type} [Enc α] {w w' : World} {A : Option Addr} {n : Nat} {xs : List α} (h : Sl α w w.heap.size A n xs) (hb : Bel w w') : Sl α w' w'.heap.size A n xs := (h.below hb).more hb.size
theorem OwnS.step {α : Type} [Enc α] {w w' : World} {base : Nat} {e : TypeId} {v : Value} {xs : List α} (h : OwnS w base e v xs) (hb : Below w.heap.size w w') : OwnS w' base e v xs := h.below hb (Nat.le_refl _)
end Go.Gv
