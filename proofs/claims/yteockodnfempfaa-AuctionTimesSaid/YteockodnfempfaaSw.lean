/- A whole element written into a slice of the call's own. Conditions: those named in each theorem. -/
import Derived.Test.YteockodnfempfaaAudJ
namespace Go.Proofs.Yteockodnfempfaa
open Go Go.RowKit Go.Gv

def setSeg : List Value → Nat → List Value → List Value
  | l, _, [] => l
  | l, p, v :: vs => setSeg (l.set p v) (p + 1) vs
theorem setSeg_mid : ∀ (b a pre rest : List Value), a.length = b.length → setSeg (pre ++ (a ++ rest)) pre.length b = pre ++ (b ++ rest)
  | [], a, pre, rest, h => by
    have : a = [] := List.eq_nil_of_length_eq_zero h
    subst this; rfl
  | v :: vs, [], pre, rest, h => by simp at h
  | v :: vs, u :: us, pre, rest, h => by
    unfold setSeg
    rw [List.set_append_right _ _ (Nat.le_refl _), Nat.sub_self, List.cons_append, List.set_cons_zero]
    have := setSeg_mid vs us (pre ++ [v]) rest (by simpa using h)
    simpa using this
theorem putFrom_heap {g o e : Nat} : ∀ (vs : List Value) (i : Nat) (w : World) (cur : Array Value), w.heap[g]? = some (.cells cur e (0, 0)) →
    ∃ cur', (World.putFrom w ⟨g, o, none⟩ i vs).heap[g]? = some (.cells cur' e (0, 0)) ∧ cur'.toList = setSeg cur.toList (o + i) vs ∧ cur'.size = cur.size
  | [], i, w, cur, h => ⟨cur, h, rfl, rfl⟩
  | v :: vs, i, w, cur, h => by
    have ha : (⟨g, o, none⟩ : Addr).add i = ⟨g, o + i, none⟩ := by unfold Addr.add; split <;> simp_all
    obtain ⟨cur', h1, h2, h3⟩ := putFrom_heap (o := o) vs (i + 1) (w.setCell ⟨g, o + i, none⟩ v) _ (heap_setCell_same w g (o + i) cur e v h)
    refine ⟨cur', ?_, ?_, by simpa using h3⟩
    · unfold World.putFrom; rw [ha]; exact h1
    · rw [h2, Array.toList_setIfInBounds]; rfl
theorem putFrom_below {B g o : Nat} (hB : B ≤ g) : ∀ (vs : List Value) (i : Nat) (w0 w : World), Below B w0 w → Below B w0 (World.putFrom w ⟨g, o, none⟩ i vs)
  | [], _, _, _, h => h
  | v :: vs, i, w0, w, h => putFrom_below hB vs (i + 1) w0 _ (h.setCell (by rw [add_block]; exact hB) v)
theorem putCells_below {B g o : Nat} {w0 w : World} (h : Below B w0 w) (hB : B ≤ g) (vs : List Value) : Below B w0 (World.putCells w ⟨g, o, none⟩ vs) := by
  unfold World.putCells; exact putFrom_below hB vs 0 w0 w h
theorem OwnA.put {α : Type} [Enc α] {w : World} {base e c g k : Nat} {xs : List α} (h : OwnA w base e (some ⟨g, 0, none⟩) c xs) (hk : k < xs.length) (y : α) :
    OwnA (World.putCells w ⟨g, k * Enc.n α, none⟩ (Enc.enc y)) base e (some ⟨g, 0, none⟩) c (xs.set k y) ∧ blkFree (World.putCells w ⟨g, k * Enc.n α, none⟩ (Enc.enc y)) g = true := by
  rcases h with ⟨h0, ⟨h1, _⟩ | ⟨g', cap, cur, h1, h2, h3, h4, h5, h6, h7⟩⟩
  · cases h1
  · injection h1 with h1 _ h1c; injection h1 with h1; injection h1 with h1; subst h1; subst h1c
    unfold World.putCells
    obtain ⟨cur', e1, e2, e3⟩ := putFrom_heap (o := k * Enc.n α) (Enc.enc y) 0 w cur h3
    refine ⟨⟨by rw [flat_len, List.length_set], .inr ⟨g, c, cur', by rw [List.length_set], h2, e1, by rw [List.length_set]; exact h4, h5, by rw [e3]; exact h6, ?_⟩⟩, by unfold blkFree; rw [e1]; rfl⟩
    have hx : xs = xs.take k ++ xs[k] :: xs.drop (k + 1) := by rw [List.getElem_cons_drop, List.take_append_drop]
    have hpre : ((xs.take k).flatMap Enc.enc).length = k * Enc.n α := by rw [flat_len, List.length_take, Nat.min_eq_left (by omega)]
    have hcur : cur.toList = (xs.take k).flatMap Enc.enc ++ (Enc.enc xs[k] ++ ((xs.drop (k + 1)).flatMap Enc.enc ++ cur.toList.drop (xs.length * Enc.n α))) := by
      conv => lhs; rw [← List.take_append_drop (xs.length * Enc.n α) cur.toList, h7]
      conv => lhs; rw [hx]
      simp only [List.flatMap_append, List.flatMap_cons, List.append_assoc]
      rw [← hx]
    have hset : xs.set k y = xs.take k ++ y :: xs.drop (k + 1) := by
      rw [List.set_eq_take_append_cons_drop, if_pos hk]
    have e4 : cur'.toList = (xs.set k y).flatMap Enc.enc ++ cur.toList.drop (xs.length * Enc.n α) := by
      have := setSeg_mid (Enc.enc y) (Enc.enc xs[k]) ((xs.take k).flatMap Enc.enc) ((xs.drop (k + 1)).flatMap Enc.enc ++ cur.toList.drop (xs.length * Enc.n α)) (by rw [Enc.len, Enc.len])
      rw [hpre, ← hcur] at this
      rw [e2, Nat.add_zero, this, hset]
      simp only [List.flatMap_append, List.flatMap_cons, List.append_assoc]
    rw [e4, List.length_set, List.take_append_of_le_length (by rw [flat_len, List.length_set]; exact Nat.le_refl _), List.take_of_length_le (by rw [flat_len, List.length_set]; exact Nat.le_refl _)]
end Go.Proofs.Yteockodnfempfaa
