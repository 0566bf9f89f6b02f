/- Slices of the call that it owns: append, one-element slices, struct literals. Conditions: those named in each theorem. -/
import Derived.Test.YteockodnfempfaaMp
import Derived.Maps.AppendAt
import Derived.Deep.AppendLies
namespace Go.Gv
open Go Go.RowKit
set_option linter.unusedSectionVars false

/-- What an append wants to know of a slice's type. -/
structure ElemI (P : Program) (t e : TypeId) (α : Type) [Enc α] (by8 : Nat) : Prop where
  ht : P.underlying t = some (.slice e)
  ex : (P.info? e).map (fun i => (i.size, i.bytes, i.zero.map fun z => z.cells.size)) = some (Enc.n α, by8, some (Enc.n α))

/-- v is a slice of the call's own that holds xs. -/
def OwnS {α : Type} [Enc α] (w : World) (base : Nat) (e : TypeId) (v : Value) (xs : List α) : Prop := w.ownsRow base e (Enc.n α) v xs.length (xs.flatMap Enc.enc)

section
variable {α : Type} [Enc α] {w w' : World} {base B : Nat} {e t : TypeId} {v : Value} {xs ys : List α} {P : Program}
theorem OwnS.nil (w : World) (base : Nat) (e : TypeId) : OwnS w base e (.slice none 0 0) ([] : List α) := World.ownsRow_nil _ _ _ _
theorem OwnS.kept {row : Option Nat} (h : OwnS w base e v xs) (hg : w.grownBy w' row) (hne : v.ownBlock = none ∨ v.ownBlock ≠ row) : OwnS w' base e v xs := World.ownsRow.kept h hg hne
theorem OwnS.alloc (h : OwnS w base e v xs) (o : Obj) : OwnS (w.alloc o) base e v xs := World.ownsRow.alloc h o
theorem OwnS.lt (h : OwnS w base e v xs) : ∀ k, v.ownBlock = some k → base ≤ k ∧ k < w.heap.size := World.ownsRow.lt h
theorem OwnS.below {B : Nat} (h : OwnS w base e v xs) (hb : Below B w w') (hB : w.heap.size ≤ B) : OwnS w' base e v xs := by
  refine h.kept (row := none) ⟨hb.os, hb.tape, hb.output, hb.size, fun k hk _ => hb.block k (by omega)⟩ ?_
  cases v.ownBlock <;> simp
theorem OwnS.drew (h : OwnS w base e v xs) : OwnS w.drew base e v xs := h
theorem OwnS.drewN (h : OwnS w base e v xs) (n : Nat) : OwnS (w.drewN n) base e v xs := h
theorem OwnS.mono {base' : Nat} (h : OwnS w base e v xs) (hb : base' ≤ base) : OwnS w base' e v xs := by
  refine ⟨h.1, ?_⟩
  rcases h.2 with h | ⟨g, cap, cur, h1, h2, h3⟩
  · exact .inl h
  · exact .inr ⟨g, cap, cur, h1, by omega, h3⟩
/-- Its value, written out; and what it reads as. -/
theorem OwnS.shape (h : OwnS w base e v xs) : ∃ A c, v = .slice A xs.length c ∧ Sl α w w.heap.size A xs.length xs ∧ xs.length ≤ c ∧ c ≤ maxLen ∧ (∀ ad, A = some ad → base ≤ ad.block ∧ ad = ⟨ad.block, 0, none⟩ ∧ blkFree w ad.block = true) := by
  rcases h.2 with ⟨rfl, h0⟩ | ⟨g, cap, cur, rfl, hb, hh, hc, hm, hsz, htake⟩
  · have : xs = [] := List.eq_nil_of_length_eq_zero h0
    subst this
    exact ⟨none, 0, rfl, Sl.nil, Nat.le_refl _, Nat.zero_le _, fun ad h => by cases h⟩
  · have hlt : g < w.heap.size := (Array.getElem?_eq_some_iff.1 hh).1
    refine ⟨some ⟨g, 0, none⟩, cap, rfl, Sl.of_row hh htake rfl hlt, hc, hm, fun ad h => ?_⟩
    injection h with h; subst h
    exact ⟨hb, rfl, by unfold blkFree; rw [hh]; rfl⟩
theorem flat_get {xs : List α} {j : Nat} {u : Value} (h : (xs.flatMap Enc.enc)[j]? = some u) : ∃ k i x, xs[k]? = some x ∧ (Enc.enc x)[i]? = some u ∧ j = k * Enc.n α + i := by
  induction xs generalizing j with
  | nil => simp at h
  | cons x xs ih =>
    rw [List.flatMap_cons] at h
    by_cases hj : j < Enc.n α
    · rw [List.getElem?_append_left (by rw [Enc.len]; exact hj)] at h
      exact ⟨0, j, x, rfl, h, by omega⟩
    · rw [List.getElem?_append_right (by rw [Enc.len]; omega), Enc.len] at h
      obtain ⟨k, i, y, h1, h2, h3⟩ := ih h
      exact ⟨k + 1, i, y, h1, h2, by rw [Nat.add_mul]; omega⟩
theorem Sl.flat {A : Option Addr} {m : Nat} (h : Sl α w B A m xs) (hm : 0 < m) : ∃ ad, A = some ad ∧ ∀ j u, (xs.flatMap Enc.enc)[j]? = some u → w.cell? (ad.add j) = some u := by
  obtain ⟨ad, e, _, hc⟩ := h.2 hm
  refine ⟨ad, e, fun j u hu => ?_⟩
  obtain ⟨k, i, x, h1, h2, rfl⟩ := flat_get hu
  have := get?_iff.1 (hc k x h1) i u h2
  rwa [add_add] at this
theorem flat_one (xs : List α) : ∀ u ∈ xs.flatMap Enc.enc, u.oneCell' = true := by
  intro u hu
  obtain ⟨x, _, h⟩ := List.mem_flatMap.1 hu
  exact Enc.one x u h
theorem run_append_nil {by8 : Nat} (E : ElemI P t e α by8) (hown : OwnS w base e v xs) (ty : TypeId) (c : Nat) : (Builtin.append_ #[t, t] ty #[v, .slice none 0 c]).run P w = .ok v w := by
  obtain ⟨i, hi, hx⟩ := Option.map_eq_some_iff.1 E.ex
  rcases hown.2 with ⟨rfl, _⟩ | ⟨g, cap, cur, rfl, _, _, hnc, _⟩
  · simp [Builtin.append_, run_underlying E.ht, sizeOf, typeInfo, hi, Builtin.lenOf, Builtin.firstCells]
  · simp [Builtin.append_, run_underlying E.ht, sizeOf, typeInfo, hi, Builtin.lenOf, Builtin.firstCells, hnc, storeCells]
theorem run_append_S {by8 : Nat} (E : ElemI P t e α by8) (hown : OwnS w base e v xs) {A : Option Addr} {m c : Nat} (hr : Sl α w B A m ys) (h63 : xs.length + m ≤ maxLen) (hbytes : (xs.length + m) * by8 ≤ 140737488355328) (hbase : base ≤ w.heap.size) (hA : m = 0 → A = none ∨ A ≠ none) (ty : TypeId) :
    ∃ v' w', (Builtin.append_ #[t, t] ty #[v, .slice A m c]).run P w = .ok v' w' ∧ OwnS w' base e v' (xs ++ ys) ∧ w.grownBy w' v.ownBlock ∧ (v'.ownBlock = v.ownBlock ∨ v'.ownBlock = some w.heap.size) := by
  obtain ⟨i, hi, hx⟩ := Option.map_eq_some_iff.1 E.ex
  simp only [Prod.mk.injEq, Option.map_eq_some_iff] at hx
  obtain ⟨h1, h2, z, h3, h4⟩ := hx
  have hl := hr.1
  cases A with
  | none =>
    have hm : m = 0 := by
      rcases Nat.eq_zero_or_pos m with h0 | h0
      · exact h0
      · obtain ⟨ad, h, _⟩ := hr.2 h0; cases h
    subst hm
    have : ys = [] := List.eq_nil_of_length_eq_zero hl
    subst this
    exact ⟨v, w, run_append_nil E hown ty c, by simpa using hown, ⟨rfl, rfl, rfl, Nat.le_refl _, fun _ _ _ => rfl⟩, .inl rfl⟩
  | some ad =>
    have hcells : ∀ j u, (ys.flatMap Enc.enc)[j]? = some u → w.cell? (ad.add j) = some u := by
      intro j u hu
      rcases Nat.eq_zero_or_pos m with h0 | h0
      · subst h0
        have : ys = [] := List.eq_nil_of_length_eq_zero hl
        subst this; simp at hu
      · obtain ⟨ad', h, hc⟩ := hr.flat h0
        injection h with h; subst h
        exact hc j u hu
    obtain ⟨v', w', hrun, g1, g2, _, g3⟩ := run_append_own_at (P := P) w base t ty e i z (Enc.n α) by8 E.ht hi h3 h1 h2 h4 Enc.pos v xs.length _ hown ad m c (ys.flatMap Enc.enc) (by rw [flat_len, hl]) hcells (flat_one ys) h63 hbytes hbase
    refine ⟨v', w', hrun, ?_, g2, g3⟩
    unfold OwnS
    rw [List.flatMap_append, List.length_append, hl]
    exact g1

theorem wp_append_S {o : Oper} {a : Act} {K : Act → World → Prop} {Q : Exit → Act → World → Prop} (s x : Operand) (t : TypeId) {by8 : Nat}
    (ho : o.op = .call { callee := .builtin .append, args := #[s, x], argTypes := #[t, t] }) (E : ElemI P t e α by8)
    (hs : a.eval s = v) (hown : OwnS w base e v xs) {A : Option Addr} {m c : Nat} (hx : a.eval x = .slice A m c) (hr : Sl α w B A m ys) (h63 : xs.length + m ≤ maxLen) (hbytes : (xs.length + m) * by8 ≤ 140737488355328) (hbase : base ≤ w.heap.size)
    (h : ∀ v' w', OwnS w' base e v' (xs ++ ys) → w.grownBy w' v.ownBlock → (v'.ownBlock = v.ownBlock ∨ v'.ownBlock = some w.heap.size) → K (a.put o.dst v') w') : o.wp P a w K Q := by
  obtain ⟨v', w', hrun, h2, h3, h4⟩ := run_append_S E hown hr h63 hbytes hbase (fun _ => by cases A <;> simp) o.type
  unfold Oper.wp execOp
  simp only [ho, resolve, invoke, builtin, Sem.run_bind, Sem.run_pure, Result.andThen_ok, List.map_toArray, List.map_cons, List.map_nil, hs, hx]
  erw [hrun]
  exact h v' w' h2 h3 h4
theorem wpList_append_S {ops : Array Oper} {rest : List Oper} {o : Oper} {a : Act} {Q : Exit → Act → World → Prop} (hgd : o.guard = none) (s x : Operand) (t : TypeId) {by8 : Nat}
    (ho : o.op = .call { callee := .builtin .append, args := #[s, x], argTypes := #[t, t] }) (E : ElemI P t e α by8)
    (hs : a.eval s = v) (hown : OwnS w base e v xs) {A : Option Addr} {m c : Nat} (hx : a.eval x = .slice A m c) (hr : Sl α w B A m ys) (h63 : xs.length + m ≤ maxLen) (hbytes : (xs.length + m) * by8 ≤ 140737488355328) (hbase : base ≤ w.heap.size)
    (h : ∀ v' w', OwnS w' base e v' (xs ++ ys) → w.grownBy w' v.ownBlock → (v'.ownBlock = v.ownBlock ∨ v'.ownBlock = some w.heap.size) → wpList P ops Q rest (a.put o.dst v') w') : wpList P ops Q (o :: rest) a w :=
  wpList_plain hgd fun _ hK => wp_append_S s x t ho E hs hown hx hr h63 hbytes hbase fun v' w' h2 h3 h4 => hK _ _ (h v' w' h2 h3 h4)
theorem step_append_S {ops : Array Oper} {o : Oper} {a : Act} {K : Act → World → Prop} {Q : Exit → Act → World → Prop} {F : Prop} (hgd : o.guard = none) (s x : Operand) (t : TypeId) {by8 : Nat}
    (ho : o.op = .call { callee := .builtin .append, args := #[s, x], argTypes := #[t, t] }) (E : ElemI P t e α by8)
    (hs : a.eval s = v) (hown : OwnS w base e v xs) {A : Option Addr} {m c : Nat} (hx : a.eval x = .slice A m c) (hr : Sl α w B A m ys) (h63 : xs.length + m ≤ maxLen) (hbytes : (xs.length + m) * by8 ≤ 140737488355328) (hbase : base ≤ w.heap.size)
    (h : ∀ v' w', OwnS w' base e v' (xs ++ ys) → w.grownBy w' v.ownBlock → (v'.ownBlock = v.ownBlock ∨ v'.ownBlock = some w.heap.size) → K (a.put o.dst v') w') :
    if Region.wanted o (yielded ops a.tmps) = true then Oper.wp P o a w K Q else F := by
  have hw : Region.wanted o (yielded ops a.tmps) = true := by simp [Region.wanted, hgd]
  rw [if_pos hw]
  exact wp_append_S s x t ho E hs hown hx hr h63 hbytes hbase h
/-- The world behind an append onto a slice of the call's own. -/
theorem Below.appS {B0 : Nat} {w0 : World} (h : Below B0 w0 w) (hg : w.grownBy w' v.ownBlock) (hown : OwnS w base e v xs) (hb : B0 ≤ base) (hB : B0 ≤ w.heap.size) : Below B0 w0 w' :=
  h.grown hg hB fun k hk => Nat.le_trans hb (hown.lt k hk).1
theorem cell_off {a : Addr} {j : Nat} {u : Value} (hj : 0 < j) (h : w.cell? (a.add j) = some u) : w.cell? ⟨a.block, a.off + j, none⟩ = some u := by
  have : a.add j = ⟨a.block, a.off + j, none⟩ := by unfold Addr.add; rw [if_neg (by omega)]
  rwa [this] at h
theorem cell_zero {a : Addr} {u : Value} (h : w.cell? (a.add 0) = some u) : w.cell? a = some u := by simpa [Addr.add] using h
end

/-! ### A new slice of structs, written out -/
theorem run_underlying' {P : Program} {t : TypeId} {d : TypeDesc} (h : P.underlying t = some d) (w : World) : (underlying t).run P w = .ok d w := run_underlying h w
section
variable {α : Type} [Enc α] {P : Program} {t e : TypeId}
theorem fill_one {n : Nat} (z cs : Array Value) (_hz : z.size = n) (hc : cs.size = n) (_hn : 0 < n) : Instr.fill (fun i => some (i * n, n)) ((Array.range (1 * n)).map (fun x => z[x % z.size]!)) [(0, .agg cs)] = some cs := by
  simp only [Instr.fill, Value.cells, hc, ne_eq, not_true_eq_false, Nat.zero_mul, Nat.zero_add, decide_false, Bool.false_or, Nat.one_mul]
  rw [if_neg (by simp)]
  congr 1
  have key : ∀ (k : Nat) (X : Array Value), X.size = n → (cs.zipIdx.toList.take k).foldl (fun (a : Array Value) (p : Value × Nat) => a.setIfInBounds p.2 p.1) X = ((cs.toList.take k) ++ X.toList.drop (min k n)).toArray := by
    intro k X hX
    induction k with
    | zero => simp
    | succ k ih =>
      by_cases hk : k < n
      · have hzk : cs.zipIdx.toList.take (k + 1) = cs.zipIdx.toList.take k ++ [(cs[k]'(by omega), k)] := by
          rw [List.take_succ_eq_append_getElem (by simpa [hc] using hk)]
          simp
        rw [hzk, List.foldl_append, ih, List.foldl_cons, List.foldl_nil]
        have e2 : cs.toList.take (k + 1) = cs.toList.take k ++ [cs[k]'(by omega)] := by
          rw [List.take_succ_eq_append_getElem (by simpa [hc] using hk)]
          simp
        have hXk : X.toList.drop (min k n) = X[k]'(by omega) :: X.toList.drop (k + 1) := by
          rw [Nat.min_eq_left (by omega), List.drop_eq_getElem_cons (by simpa [hX] using hk)]
          simp
        rw [e2, hXk]
        apply Array.ext'
        have hlen : (cs.toList.take k).length = k := by simp; omega
        simp only [Array.toList_setIfInBounds]
        rw [List.set_append_right _ _ (by rw [hlen]; exact Nat.le_refl _), hlen, Nat.sub_self, List.set_cons_zero, Nat.min_eq_left (by omega)]
        simp
      · rw [List.take_of_length_le (by simp [hc]; omega)] at ih ⊢
        rw [ih, Nat.min_eq_right (by omega), Nat.min_eq_right (by omega), List.take_of_length_le (by simp [hc]; omega), List.take_of_length_le (by simp [hc]; omega)]
  have h0 := key n ((Array.range n).map (fun x => z[x % z.size]!)) (by simp)
  rw [List.take_of_length_le (by simp [hc]), List.take_of_length_le (by simp [hc]), Nat.min_self, List.drop_eq_nil_of_le (by simp), List.append_nil] at h0
  rw [← Array.foldl_toList]
  simpa using h0
theorem run_buildSlice_one {by8 : Nat} (E : ElemI P t e α by8) (hsmall : Enc.n α ≤ 16777216) (x : α) (w : World) :
    (gBuildSlice t 1 #[(0, .agg (Enc.enc x).toArray)]).run P w = .ok (.slice (some ⟨w.heap.size, 0, none⟩) 1 1) (w.alloc (.cells (Enc.enc x).toArray e)) := by
  obtain ⟨i, hi, hx⟩ := Option.map_eq_some_iff.1 E.ex
  simp only [Prod.mk.injEq, Option.map_eq_some_iff] at hx
  obtain ⟨h1, h2, z, h3, h4⟩ := hx
  have hp : 0 < Enc.n α := Enc.pos
  have hf := fill_one z.cells (Enc.enc x).toArray h4 (by simp [Enc.len]) hp
  have hne : ¬ (1 * Enc.n α = 0) := by omega
  have hle : ¬ (1 * Enc.n α > 2 ^ 24) := by simp; omega
  unfold gBuildSlice
  simp only [Instr.buildSlice, Sem.run_bind, run_underlying E.ht, Result.andThen_ok, sizeOf, typeInfo, hi, run_program, Sem.run_pure, h1, hle, hne, if_false, zeroValue, h3, hf]
  simp [newRow]
end

/-! ### Struct literals -/
theorem set_seg (pre old post vs : List Value) (off : Nat) (hp : pre.length = off) (ho : old.length = vs.length) :
    vs.toArray.zipIdx.foldl (fun (X : Array Value) (p : Value × Nat) => X.setIfInBounds (off + p.2) p.1) (pre ++ (old ++ post)).toArray = (pre ++ (vs ++ post)).toArray := by
  subst hp
  rw [← Array.foldl_toList]
  have hz : vs.toArray.zipIdx.toList = vs.zipIdx := by simp
  rw [hz]
  have key : ∀ (vs old done : List Value), old.length = vs.length → (vs.zipIdx done.length).foldl (fun (X : Array Value) (p : Value × Nat) => X.setIfInBounds (pre.length + p.2) p.1) (pre ++ (done ++ (old ++ post))).toArray = (pre ++ (done ++ (vs ++ post))).toArray := by
    intro vs
    induction vs with
    | nil => intro old done h; have : old = [] := List.eq_nil_of_length_eq_zero h; subst this; simp
    | cons v vs ih =>
      intro old done h
      cases old with
      | nil => simp at h
      | cons u old =>
        simp only [List.zipIdx_cons, List.foldl_cons]
        have e : (pre ++ (done ++ (u :: old ++ post))).toArray.setIfInBounds (pre.length + done.length) v = (pre ++ ((done ++ [v]) ++ (old ++ post))).toArray := by
          apply Array.ext'
          simp only [Array.toList_setIfInBounds]
          rw [List.set_append_right _ _ (by omega), Nat.add_sub_cancel_left, List.set_append_right _ _ (Nat.le_refl _), Nat.sub_self]
          simp
        rw [e]
        have := ih old (done ++ [v]) (by simpa using h)
        rw [List.length_append, List.length_singleton] at this
        rw [this]; simp
  simpa using key vs old [] ho
theorem fill_seg (L : List (Nat × Nat)) (i off sz : Nat) (hi : L[i]? = some (off, sz)) (pre old post vs : List Value) (v : Value) (rest : List (Nat × Value)) (hv : v.cells = vs.toArray) (hp : pre.length = off) (ho : old.length = sz) (hs : vs.length = sz) :
    Instr.fill (fun i => L[i]?) (pre ++ (old ++ post)).toArray ((i, v) :: rest) = Instr.fill (fun i => L[i]?) (pre ++ (vs ++ post)).toArray rest := by
  have h := set_seg pre old post vs off hp (by omega)
  have hle : ¬ (off + sz > (pre ++ (old ++ post)).length) := by simp; omega
  have hsz : vs.toArray.size = sz := by simpa using hs
  simp only [Instr.fill, hi, hv, hsz, ne_eq, not_true_eq_false, decide_false, Bool.false_or, List.size_toArray, hle, h]
  simp
theorem run_gBuild_of {P : Program} {t : TypeId} {z cs : List Value} {L : List (Nat × Nat)} {parts : Array (Nat × Value)} (hu : P.underlying t = some (.struct (P.fieldsOf t))) (hz : zeroT P t = some (.agg z.toArray))
    (hL : ((P.fieldsOf t).toList.mapM fun f => (P.info? f.type).map fun i => (f.offset, i.size)) = some L) (h : Instr.fill (fun i => L[i]?) z.toArray parts.toList = some cs.toArray) (w : World) :
    (gBuild t parts).run P w = .ok (.agg cs.toArray) w := by
  unfold gBuild
  apply run_build
  unfold Program.built
  unfold zeroT at hz
  cases hi : P.info? t with
  | none => simp [hi] at hz
  | some i =>
    rw [hi] at hz
    simp only [Option.bind_some] at hz
    simp only [hu, hz, hL, Value.cells]
    simpa using h
/-! ### Appends, closed to simp -/
@[irreducible] def gAppend (tys : Array TypeId) (ty : TypeId) (vs : Array Value) : Sem Value := Builtin.append_ tys ty vs
@[go_sem ↓ high] theorem ex_append (ρ : Operand → Value) (dst : Option Tmp) (s x : Operand) (t u ty : TypeId) (pos : String) (after : Array Edge) (guard : Option (Nat × Bool)) :
    execOp ρ { dst, op := .call { callee := .builtin .append, args := #[s, x], argTypes := #[t, u] }, type := ty, pos, after, guard } = (do pure (.value (← gAppend #[t, u] ty #[ρ s, ρ x]))) := by
  unfold gAppend execOp
  simp only [resolve, invoke, builtin, List.map_toArray, List.map_cons, List.map_nil]
  rfl
theorem gAppend_S {α : Type} [Enc α] {w : World} {base B : Nat} {e t : TypeId} {v : Value} {xs ys : List α} {P : Program} {by8 : Nat} (E : ElemI P t e α by8) (hown : OwnS w base e v xs) {A : Option Addr} {m c : Nat} (hr : Sl α w B A m ys) (h63 : xs.length + m ≤ maxLen) (hbytes : (xs.length + m) * by8 ≤ 140737488355328) (hbase : base ≤ w.heap.size) (ty : TypeId) :
    ∃ v' w', (gAppend #[t, t] ty #[v, .slice A m c]).run P w = .ok v' w' ∧ OwnS w' base e v' (xs ++ ys) ∧ w.grownBy w' v.ownBlock ∧ (v'.ownBlock = v.ownBlock ∨ v'.ownBlock = some w.heap.size) := by
  unfold gAppend
  exact run_append_S E hown hr h63 hbytes hbase (fun _ => by cases A <;> simp) ty
end Go.Gv
