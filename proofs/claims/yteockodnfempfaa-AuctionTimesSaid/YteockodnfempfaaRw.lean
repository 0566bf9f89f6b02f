/- Slices of slices that the call owns. Conditions: those named in each theorem. -/
import Derived.Test.YteockodnfempfaaRg2
import Derived.Test.YteockodnfempfaaSw
namespace Go.Proofs.Yteockodnfempfaa
open Go Go.RowKit Go.Gv

/-- Headers that read as lists, none of them in block ob. -/
def RowsAt {α : Type} [Enc α] (w : World) (ob : Option Nat) : List Hdr → List (List α) → Prop
  | [], [] => True
  | h :: hs, l :: ls => (Sl α w w.heap.size h.a h.len l ∧ h.len ≤ h.cap ∧ h.cap ≤ maxLen ∧ (0 < h.len → ∀ ad, h.a = some ad → ob ≠ some ad.block)) ∧ RowsAt w ob hs ls
  | _, _ => False
section
variable {α : Type} [Enc α] {w w' : World} {ob ob' : Option Nat}
theorem RowsAt.len : ∀ {hs : List Hdr} {ls : List (List α)}, RowsAt w ob hs ls → hs.length = ls.length
  | [], [], _ => rfl
  | _ :: hs, _ :: ls, h => by simp [RowsAt.len h.2]
  | [], _ :: _, h => h.elim
  | _ :: _, [], h => h.elim
theorem RowsAt.get : ∀ {hs : List Hdr} {ls : List (List α)}, RowsAt w ob hs ls → ∀ (i : Nat) (h : Hdr) (l : List α), hs[i]? = some h → ls[i]? = some l → Sl α w w.heap.size h.a h.len l ∧ h.len ≤ h.cap ∧ h.cap ≤ maxLen ∧ (0 < h.len → ∀ ad, h.a = some ad → ob ≠ some ad.block)
  | [], [], _, i, h, l, h1, _ => by simp at h1
  | x :: hs, y :: ls, H, 0, h, l, h1, h2 => by
    simp at h1 h2; subst h1; subst h2; exact H.1
  | x :: hs, y :: ls, H, i + 1, h, l, h1, h2 => RowsAt.get H.2 i h l (by simpa using h1) (by simpa using h2)
theorem RowsAt.step (hb : Below w.heap.size w w') : ∀ {hs : List Hdr} {ls : List (List α)}, RowsAt w ob hs ls → RowsAt w' ob hs ls
  | [], [], h => h
  | _ :: _, _ :: _, h => ⟨⟨h.1.1.stepB hb, h.1.2⟩, RowsAt.step hb h.2⟩
  | [], _ :: _, h => h.elim
  | _ :: _, [], h => h.elim
theorem RowsAt.grown (hg : w.grownBy w' ob) (ho : ob' = ob ∨ ob' = some w.heap.size) : ∀ {hs : List Hdr} {ls : List (List α)}, RowsAt w ob hs ls → RowsAt w' ob' hs ls
  | [], [], h => h
  | x :: _, _ :: _, h => by
    obtain ⟨⟨h1, h2, h3, h4⟩, hr⟩ := h
    refine ⟨⟨(h1.grown hg (Nat.le_refl _) h4).more hg.size, h2, h3, fun hn ad ha => ?_⟩, RowsAt.grown hg ho hr⟩
    rcases ho with rfl | rfl
    · exact h4 hn ad ha
    · intro e; injection e with e
      have := h1.block_lt hn ha; omega
  | [], _ :: _, h => h.elim
  | _ :: _, [], h => h.elim
theorem RowsAt.snoc {h : Hdr} {l : List α} (hl : Sl α w w.heap.size h.a h.len l ∧ h.len ≤ h.cap ∧ h.cap ≤ maxLen ∧ (0 < h.len → ∀ ad, h.a = some ad → ob ≠ some ad.block)) : ∀ {hs : List Hdr} {ls : List (List α)}, RowsAt w ob hs ls → RowsAt w ob (hs ++ [h]) (ls ++ [l])
  | [], [], _ => ⟨hl, trivial⟩
  | _ :: _, _ :: _, h => ⟨h.1, RowsAt.snoc hl h.2⟩
  | [], _ :: _, h => h.elim
  | _ :: _, [], h => h.elim

/-- A slice of slices, all of the call's own. -/
def OwnRows (α : Type) [Enc α] (w : World) (base : Nat) (e : TypeId) (v : Value) (ls : List (List α)) : Prop := ∃ hs : List Hdr, OwnS w base e v hs ∧ RowsAt w v.ownBlock hs ls
variable {base : Nat} {e : TypeId} {v : Value} {ls : List (List α)}
theorem OwnRows.nil (w : World) (base : Nat) (e : TypeId) : OwnRows α w base e (.slice none 0 0) [] := ⟨[], OwnS.nil _ _ _, trivial⟩
theorem OwnRows.step (h : OwnRows α w base e v ls) (hb : Below w.heap.size w w') : OwnRows α w' base e v ls := by
  obtain ⟨hs, h1, h2⟩ := h
  exact ⟨hs, h1.step hb, h2.step hb⟩
theorem OwnRows.ownA (h : OwnRows α w base e v ls) : ∃ (A : Option Addr) (c : Nat), v = .slice A ls.length c ∧ ls.length ≤ c ∧ c ≤ maxLen := by
  obtain ⟨hs, h1, h2⟩ := h
  obtain ⟨A, c, rfl, _, hc, hm⟩ := OwnS.ownA h1
  exact ⟨A, c, by rw [h2.len], by rw [← h2.len]; exact hc, hm⟩
end
theorem OwnRows.logs {w : World} {base : Nat} {e : TypeId} {A : Option Addr} {n c : Nat} {ls : List (List GEntry)} (h : OwnRows GEntry w base e (.slice A n c) ls) : LogsIs w w.heap.size A n ls := by
  obtain ⟨hs, h1, h2⟩ := h
  obtain ⟨A', c', hv, h3, hc, hm⟩ := OwnS.ownA h1
  injection hv with e1 e2 e3
  subst e1; subst e2
  exact ⟨hs, h3.sl, h2.len, fun i hd l a b => by
    obtain ⟨g1, g2, g3, _⟩ := h2.get i hd l a b
    exact ⟨g1, g2, g3⟩⟩
theorem LogsIs.stepB {w w' : World} {A : Option Addr} {n : Nat} {ls : List (List GEntry)} (h : LogsIs w w.heap.size A n ls) (hb : Below w.heap.size w w') : LogsIs w' w'.heap.size A n ls := by
  obtain ⟨hs, h1, h2, h3⟩ := h
  exact ⟨hs, h1.stepB hb, h2, fun i hd l a b => ⟨(h3 i hd l a b).1.stepB hb, (h3 i hd l a b).2⟩⟩
theorem StInv.step {w w' : World} {r : Nat} {ob : Option Nat} {m : List (GName × Hdr)} {st : GName → List U64} (h : StInv w r ob m st) (hb : Below w.heap.size w w') : StInv w' r ob m st := h.below hb
theorem OwnA.stepB {α : Type} [Enc α] {w w' : World} {base : Nat} {e : TypeId} {A : Option Addr} {c : Nat} {xs : List α} (h : OwnA w base e A c xs) (hb : Below w.heap.size w w') : OwnA w' base e A c xs := OwnS.step h hb
end Go.Proofs.Yteockodnfempfaa
