/- Regions with two operations ready at once; a field of a struct written. Conditions: those named in each theorem. -/
import Derived.Test.YteockodnfempfaaRg3
namespace Go.Gv
open Go Go.RowKit
section
variable {P : Program} {md : Region.Mode} {Q : Exit → Act → World → Prop} {G : World → World → Prop} {T : List Nat}
/-- Two operations are ready. -/
theorem wpG_two {l : List Oper} {fuel : Nat} {listed : Array Bool} {a : Act} {w : World} (t1 t2 : Nat) (o1 o2 : Oper) (ho1 : nthO l t1 = some o1) (ho2 : nthO l t2 = some o2) (hr : (Region.ready md l.toArray listed == [t1, t2]) = true) (hg1 : o1.guard = none) (hg2 : o2.guard = none)
    (h1 : ∀ w', G w w' → ∀ K : Act → World → Prop, (∀ a' w'', (t1 ∉ T → G w' w'') → wpG P md l.toArray Q G T fuel (listed.setIfInBounds t1 true) a' w'' → K a' w'') → o1.wp P a w' K Q)
    (h2 : ∀ w', G w w' → ∀ K : Act → World → Prop, (∀ a' w'', (t2 ∉ T → G w' w'') → wpG P md l.toArray Q G T fuel (listed.setIfInBounds t2 true) a' w'' → K a' w'') → o2.wp P a w' K Q) : wpG P md l.toArray Q G T (fuel + 1) listed a w := by
  have ho1 : l.toArray[t1]? = some o1 := by rw [← ho1, nthO_eq]; simp
  have ho2 : l.toArray[t2]? = some o2 := by rw [← ho2, nthO_eq]; simp
  have hr' : Region.ready md l.toArray listed = [t1, t2] := by simpa using hr
  refine ⟨fun h0 => (by rw [hr'] at h0; cases h0), fun i hi w' hw' => ?_⟩
  rw [hr'] at hi
  simp only [List.mem_cons, List.not_mem_nil, or_false] at hi
  unfold Go.wpOp
  rcases hi with rfl | rfl
  · simp only [ho1]
    rw [if_pos (by simp [Region.wanted, hg1])]
    exact .inl (h1 w' hw' _ fun a' w'' k1 k2 => ⟨k1, k2⟩)
  · simp only [ho2]
    rw [if_pos (by simp [Region.wanted, hg2])]
    exact .inl (h2 w' hw' _ fun a' w'' k1 k2 => ⟨k1, k2⟩)
theorem wpLooksG_on {ops : Array Oper} {ι : Type} {W : ι → World} {K : Act → Prop} {a : Act} {o : Oper} {rest : List Oper} (v : Value) (hw : Region.wanted o (yielded ops a.tmps) = true) (hv : ∀ z, lookUponG P G (W z) v ((execOp a.eval o).run P (W z))) (h : wpLooksG P ops G W K rest (a.put o.dst v)) : wpLooksG P ops G W K (o :: rest) a := by
  unfold wpLooksG
  rw [if_pos hw]
  exact ⟨v, hv, h⟩
theorem wpLooksG_off {ops : Array Oper} {ι : Type} {W : ι → World} {K : Act → Prop} {a : Act} {o : Oper} {rest : List Oper} (hw : Region.wanted o (yielded ops a.tmps) = false) (h : wpLooksG P ops G W K rest (a.put o.dst undef)) : wpLooksG P ops G W K (o :: rest) a := by
  unfold wpLooksG
  rw [if_neg (by rw [hw]; decide)]
  exact h
end
theorem get?_poke {α : Type} [Enc α] {w : World} {g j : Nat} {x y : α} {v : Value} (h : get? α w ⟨g, 0, none⟩ = some x) (hy : Enc.enc y = (Enc.enc x).set j v) : get? α (w.setCell ⟨g, j, none⟩ v) ⟨g, 0, none⟩ = some y := by
  have hadd : ∀ i, (⟨g, 0, none⟩ : Addr).add i = ⟨g, i, none⟩ := fun i => by unfold Addr.add; split <;> simp_all
  rw [get?_iff] at h ⊢
  intro i u hu
  have hlen : (Enc.enc x).length = Enc.n α := Enc.len x
  rw [hadd]
  have hi : i < (Enc.enc x).length := by have := (List.getElem?_eq_some_iff.1 hu).1; rw [Enc.len] at this; omega
  have hx := h i _ (List.getElem?_eq_getElem hi)
  rw [hadd] at hx
  rw [hy] at hu
  by_cases e : j = i
  · subst e
    rw [World.cell?_setCell_same w _ v hx]
    rw [List.getElem?_set_self hi] at hu; exact hu
  · rw [World.cell?_setCell_other w _ _ v (fun h => e (by injection h)), hx]
    rw [List.getElem?_set_ne e, List.getElem?_eq_getElem hi] at hu; exact hu
end Go.Gv
