/- From our lists to the kit's rows and back. Conditions: those named in each theorem. -/
import Derived.Test.YteockodnfempfaaSh
import Derived.Test.YteockodnfempfaaSo
import Derived.Test.YteockodnfempfaaPl
namespace Go.Gv
open Go Go.Sort Go.Proofs
section
variable {α : Type} [Enc α] [Inhabited α]
theorem Sl.holdsK {w : World} {B blk off n : Nat} {xs : List α} (h : Sl α w B (some ⟨blk, off, none⟩) n xs) (hf : blkFree w blk = true) : HoldsK (Enc.enc : α → List Value) (Enc.n α) w blk off xs.toArray := by
  intro t ht
  rw [size_flatK] at ht
  have hn : 0 < Enc.n α := Enc.pos
  have hl : t / Enc.n α < xs.length := by
    rw [Nat.div_lt_iff_lt_mul hn]; simpa using ht
  have hm : t % Enc.n α < Enc.n α := Nat.mod_lt _ hn
  obtain ⟨ad, x, he, _, hx, hg⟩ := h.at_ (k := t / Enc.n α) (by rw [← h.1]; exact hl)
  obtain rfl : ad = ⟨blk, off, none⟩ := by injection he with he; exact he.symm
  refine ⟨?_, frozen_of_free hf⟩
  have hlen : (Enc.enc x).length = Enc.n α := Enc.len x
  have hA := get?_iff.1 hg (t % Enc.n α) _ (List.getElem?_eq_getElem (by rw [hlen]; exact hm))
  have e0 : xs.toArray[t / Enc.n α]! = x := by
    rw [getElem!_pos _ _ (by simpa using hl)]
    have := (List.getElem?_eq_some_iff.1 hx).2
    simpa using this
  show w.cell? _ = some (flatK _ _ _)[t]!
  rw [get_flatK _ _ _ _ ht, e0, getElem!_pos _ _ (by rw [hlen]; exact hm), ← hA]
  congr 1
  rw [addN, addN]
  have := Nat.div_add_mod t (Enc.n α)
  rw [Nat.mul_comm] at this
  rw [Nat.add_assoc, this]
theorem HoldsK.sl {w : World} {B blk off : Nat} {d : Array α} (h : HoldsK (Enc.enc : α → List Value) (Enc.n α) w blk off d) (hb : blk < B) : Sl α w B (some ⟨blk, off, none⟩) d.size d.toList := by
  refine ⟨by simp, fun _ => ⟨_, rfl, hb, fun k x hx => get?_iff.2 fun j v hv => ?_⟩⟩
  have hk : k < d.size := by have := (List.getElem?_eq_some_iff.1 hx).1; simpa using this
  have hj : j < Enc.n α := by have := (List.getElem?_eq_some_iff.1 hv).1; rwa [Enc.len] at this
  have hc := (h.cell hk hj).1
  have e0 : d[k]! = x := by
    rw [getElem!_pos d k hk]
    have := (List.getElem?_eq_some_iff.1 hx).2
    simpa using this
  rw [e0, getElem!_pos (Enc.enc x) j (by rw [Enc.len]; exact hj), (List.getElem?_eq_some_iff.1 hv).2] at hc
  rw [← hc, addN, addN]
omit [Enc α] in
theorem sortWorldK_GX (enc : α → List Value) (k : Nat) (w : World) (blk off m : Nat) (d : Array α) (os : Array Obj) : GX blk w (sortWorldK enc k w blk off m d os) := by
  unfold sortWorldK putRowK putRow mapBlock grow
  refine ⟨rfl, rfl, rfl, ?_, ?_⟩
  · simp
  · intro i hi hr
    have hne : ¬ blk = i := fun h => hr (by rw [h])
    show (Array.modify w.heap blk _ ++ os)[i]? = w.heap[i]?
    rw [Array.getElem?_append, if_pos (by simpa using hi), Array.getElem?_modify, if_neg hne]
omit [Enc α] in
theorem sortWorldK_free (enc : α → List Value) (k : Nat) (w : World) (blk off m : Nat) (d : Array α) (os : Array Obj) : w.heap.size ≤ (sortWorldK enc k w blk off m d os).heap.size := by
  unfold sortWorldK putRowK putRow mapBlock grow
  simp
/-- What a sort leaves: the list in its new order; nothing else that was there has changed. -/
theorem sorted_is {w : World} {blk off m : Nat} {d d0 : Array α} {os : Array Obj} (h : HoldsK (Enc.enc : α → List Value) (Enc.n α) w blk off d0) (hb : blk < w.heap.size) (hs : d.size = d0.size) :
    Sl α (sortWorldK (Enc.enc : α → List Value) (Enc.n α) w blk off m d os) w.heap.size (some ⟨blk, off, none⟩) d.size d.toList ∧ GX blk w (sortWorldK (Enc.enc : α → List Value) (Enc.n α) w blk off m d os) :=
  ⟨HoldsK.sl (holdsK_sortWorldK_c _ _ _ _ _ _ _ _ _ h hb hs) hb, sortWorldK_GX _ _ _ _ _ _ _ _⟩
end
end Go.Gv
