/- Two lists, place by place. Conditions: those named in each theorem. -/
import Derived.Test.YteockodnfempfaaGv
namespace Go.Gv
/-- Two lists, place by place. -/
def R2 {α β : Type} (R : α → β → Prop) : List α → List β → Prop
  | [], [] => True
  | a :: l, b :: m => R a b ∧ R2 R l m
  | _, _ => False
section
variable {α β : Type} {R R' : α → β → Prop}
theorem R2.len : ∀ {l : List α} {m : List β}, R2 R l m → l.length = m.length
  | [], [], _ => rfl
  | _ :: _, _ :: _, h => by simp [R2.len h.2]
  | [], _ :: _, h => h.elim
  | _ :: _, [], h => h.elim
theorem R2.mono (hR : ∀ a b, R a b → R' a b) : ∀ {l : List α} {m : List β}, R2 R l m → R2 R' l m
  | [], [], h => h
  | _ :: _, _ :: _, h => ⟨hR _ _ h.1, R2.mono hR h.2⟩
  | [], _ :: _, h => h.elim
  | _ :: _, [], h => h.elim
theorem R2.at_ : ∀ {l : List α} {m : List β}, R2 R l m → ∀ {i : Nat} {a : α}, l[i]? = some a → ∃ b, m[i]? = some b ∧ R a b
  | [], [], _, i, a, e => by simp at e
  | x :: l, y :: m, h, 0, a, e => by simp at e; subst e; exact ⟨y, rfl, h.1⟩
  | x :: l, y :: m, h, i + 1, a, e => by
    obtain ⟨b, h1, h2⟩ := R2.at_ h.2 (i := i) (a := a) (by simpa using e)
    exact ⟨b, by simpa using h1, h2⟩
  | [], _ :: _, h, _, _, _ => h.elim
  | _ :: _, [], h, _, _, _ => h.elim
theorem R2.perm {l l' : List α} (hp : l.Perm l') : ∀ {m : List β}, R2 R l m → ∃ m', m.Perm m' ∧ R2 R l' m' := by
  induction hp with
  | nil => intro m h; exact ⟨m, .refl _, h⟩
  | cons x _ ih =>
    intro m h
    cases m with
    | nil => exact h.elim
    | cons y m =>
      obtain ⟨m', h1, h2⟩ := ih h.2
      exact ⟨y :: m', h1.cons y, h.1, h2⟩
  | swap x y l =>
    intro m h
    cases m with
    | nil => exact h.elim
    | cons a m =>
      cases m with
      | nil => exact h.2.elim
      | cons b m => exact ⟨b :: a :: m, .swap _ _ _, h.2.1, h.1, h.2.2⟩
  | trans _ _ ih1 ih2 =>
    intro m h
    obtain ⟨m1, h1, h2⟩ := ih1 h
    obtain ⟨m2, h3, h4⟩ := ih2 h2
    exact ⟨m2, h1.trans h3, h4⟩
theorem R2.filter {p : α → Bool} {q : β → Bool} (hpq : ∀ a b, R a b → p a = q b) : ∀ {l : List α} {m : List β}, R2 R l m → R2 R (l.filter p) (m.filter q)
  | [], [], h => h
  | a :: l, b :: m, h => by
    rw [List.filter_cons, List.filter_cons, hpq a b h.1]
    cases q b
    · exact R2.filter hpq h.2
    · exact ⟨h.1, R2.filter hpq h.2⟩
  | [], _ :: _, h => h.elim
  | _ :: _, [], h => h.elim
theorem R2.map {γ δ : Type} {S : γ → δ → Prop} {f : α → γ} {g : β → δ} (hfg : ∀ a b, R a b → S (f a) (g b)) : ∀ {l : List α} {m : List β}, R2 R l m → R2 S (l.map f) (m.map g)
  | [], [], h => h
  | _ :: _, _ :: _, h => ⟨hfg _ _ h.1, R2.map hfg h.2⟩
  | [], _ :: _, h => h.elim
  | _ :: _, [], h => h.elim
theorem R2.append {l2 : List α} {m2 : List β} (h2 : R2 R l2 m2) : ∀ {l : List α} {m : List β}, R2 R l m → R2 R (l ++ l2) (m ++ m2)
  | [], [], _ => h2
  | _ :: _, _ :: _, h => ⟨h.1, R2.append h2 h.2⟩
  | [], _ :: _, h => h.elim
  | _ :: _, [], h => h.elim
theorem R2.set {a : α} {b : β} (hab : R a b) : ∀ {l : List α} {m : List β}, R2 R l m → ∀ i, R2 R (l.set i a) (m.set i b)
  | [], [], _, _ => trivial
  | _ :: _, _ :: _, h, 0 => ⟨hab, h.2⟩
  | _ :: _, _ :: _, h, i + 1 => ⟨h.1, R2.set hab h.2 i⟩
  | [], _ :: _, h, _ => h.elim
  | _ :: _, [], h, _ => h.elim
theorem R2.pairwise {P : α → α → Prop} {P' : β → β → Prop} (hP : ∀ a b a' b', R a a' → R b b' → P a b → P' a' b') : ∀ {l : List α} {m : List β}, R2 R l m → l.Pairwise P → m.Pairwise P'
  | [], [], _, _ => List.Pairwise.nil
  | a :: l, b :: m, h, hp => by
    rw [List.pairwise_cons] at hp ⊢
    refine ⟨fun y hy => ?_, R2.pairwise hP h.2 hp.2⟩
    obtain ⟨i, hi⟩ := List.getElem?_of_mem hy
    have hil : i < l.length := by rw [h.2.len]; exact (List.getElem?_eq_some_iff.1 hi).1
    obtain ⟨y', hy', hr⟩ := h.2.at_ (List.getElem?_eq_getElem hil)
    rw [hi] at hy'; injection hy' with hy'; subst hy'
    exact hP _ _ _ _ h.1 hr (hp.1 _ (List.getElem_mem _))
  | [], _ :: _, h, _ => h.elim
  | _ :: _, [], h, _ => h.elim
end
end Go.Gv
