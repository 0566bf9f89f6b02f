/- Sorting by insertion, as lists; what stands ahead. Conditions: those named in each theorem. -/
import Derived.Sort.LotA
namespace Go.Gv
open Go.Sort
section
variable {α : Type} [Inhabited α] (lt : α → α → Bool)
/-- Into a list from its end. -/
def insRev (x : α) : List α → List α
  | [] => [x]
  | y :: ys => if lt x y = true then y :: insRev x ys else x :: y :: ys
theorem getBang_toList (d : Array α) (i : Nat) (h : i < d.size) : d[i]! = d.toList[i]'(by simpa using h) := by
  rw [getElem!_pos d i h]; rfl
theorem insInner_list : ∀ (i : Nat) (d : Array α) (R : List α) (x : α) (S : List α), d.toList = R.reverse ++ x :: S → R.length = i → (insInner lt 0 i d).toList = (insRev lt x R).reverse ++ S
  | 0, d, R, x, S, hd, hl => by
    have : R = [] := List.eq_nil_of_length_eq_zero hl
    subst this
    simp [insInner, insRev, hd]
  | j + 1, d, R, x, S, hd, hl => by
    cases R with
    | nil => simp at hl
    | cons y R =>
      have hlR : R.length = j := by simpa using hl
      have hsz : d.size = R.length + 1 + 1 + S.length := by
        have := congrArg List.length hd; simp at this; omega
      have hj : d[j]! = y := by
        rw [getBang_toList d j (by omega)]
        simp only [hd, List.reverse_cons, List.append_assoc, List.cons_append, List.nil_append]
        rw [List.getElem_append_right (by simp; omega)]
        simp [hlR]
      have hj1 : d[j + 1]! = x := by
        rw [getBang_toList d (j + 1) (by omega)]
        simp only [hd, List.reverse_cons, List.append_assoc, List.cons_append, List.nil_append]
        rw [List.getElem_append_right (by simp; omega)]
        simp [hlR]
      unfold insInner insRev
      rw [hj, hj1]
      by_cases h : lt x y = true
      · have hs : (swp d (j + 1) j).toList = R.reverse ++ x :: (y :: S) := by
          unfold swp
          rw [hj, hj1]
          simp only [Array.toList_setIfInBounds, hd, List.reverse_cons, List.append_assoc, List.cons_append, List.nil_append]
          rw [List.set_append_right _ _ (by simp; omega), List.set_append_right _ _ (by simp; omega)]
          simp [hlR]
        have ih := insInner_list j (swp d (j + 1) j) R x (y :: S) hs hlR
        simp only [h, if_true, Nat.zero_lt_succ, decide_true, Bool.and_self, gt_iff_lt]
        rw [ih]
        simp
      · simp only [h, Bool.and_false]
        simp [hd]
theorem insOuter_list : ∀ (n i : Nat) (d : Array α) (R S : List α), S.length = n → d.toList = R.reverse ++ S → R.length = i → (insOuter lt 0 d.size i d).toList = (S.foldl (fun R x => insRev lt x R) R).reverse
  | 0, i, d, R, S, hn, hd, hl => by
    have : S = [] := List.eq_nil_of_length_eq_zero hn
    subst this
    have hsz : d.size = i := by have := congrArg List.length hd; simp at this; omega
    rw [insOuter, if_neg (by omega)]
    simp [hd]
  | n + 1, i, d, R, S, hn, hd, hl => by
    cases S with
    | nil => simp at hn
    | cons x S =>
      have hsz : d.size = i + 1 + S.length := by have := congrArg List.length hd; simp at this; omega
      have h1 := insInner_list lt i d R x S hd hl
      have h2 : (insInner lt 0 i d).size = d.size := by
        have := congrArg List.length h1
        have hr : (insRev lt x R).length = R.length + 1 := by
          clear h1 hd this hl
          induction R with
          | nil => rfl
          | cons y R ih => unfold insRev; split <;> simp [ih]
        simp [hr] at this
        omega
      rw [insOuter, if_pos (by omega), ← h2]
      have hr : (insRev lt x R).length = i + 1 := by
        have := congrArg List.length h1
        simp at this; omega
      exact insOuter_list n (i + 1) _ (insRev lt x R) S (by simpa using hn) h1 hr
theorem insertionSort_list (d : Array α) : (insertionSort lt d 0 d.size).toList = (d.toList.foldl (fun R x => insRev lt x R) []).reverse := by
  unfold insertionSort
  cases h : d.toList with
  | nil =>
    have hsz : d.size = 0 := by have := congrArg List.length h; simpa using this
    rw [insOuter, if_neg (by omega), h]; rfl
  | cons x S =>
    have := insOuter_list lt S.length 1 d [x] S rfl (by simp [h]) rfl
    rw [this]
    rfl
end
section
variable {α : Type} (key : α → Int)
def ltK (x y : α) : Bool := decide (key y < key x)
/-- Into a list that falls, behind those as great. -/
def insL (x : α) : List α → List α
  | [] => [x]
  | y :: ys => if key y < key x then x :: y :: ys else y :: insL x ys
def Falls (s : List α) : Prop := s.Pairwise fun a b => key b ≤ key a
theorem mem_insL {x z : α} : ∀ {s : List α}, z ∈ insL key x s ↔ z = x ∨ z ∈ s
  | [] => by simp [insL]
  | y :: ys => by
    unfold insL
    split
    · simp
    · simp only [List.mem_cons, mem_insL (s := ys)]
      constructor
      · rintro (h | h | h) <;> simp [h]
      · rintro (h | h | h) <;> simp [h]
theorem falls_insL (x : α) : ∀ {s : List α}, Falls key s → Falls key (insL key x s)
  | [], _ => by simp [insL, Falls]
  | y :: ys, h => by
    unfold Falls at h ⊢
    unfold insL
    rw [List.pairwise_cons] at h
    split
    · rename_i hlt
      rw [List.pairwise_cons, List.pairwise_cons]
      refine ⟨fun z hz => ?_, h⟩
      simp only [List.mem_cons] at hz
      rcases hz with rfl | hz
      · omega
      · have := h.1 z hz; omega
    · rename_i hge
      rw [List.pairwise_cons]
      refine ⟨fun z hz => ?_, falls_insL x h.2⟩
      rw [mem_insL] at hz
      rcases hz with rfl | hz
      · omega
      · exact h.1 z hz
theorem insL_end {x z : α} (hz : key x ≤ key z) : ∀ {t : List α}, (∀ y ∈ t, key z ≤ key y) → insL key x (t ++ [z]) = t ++ [z, x]
  | [], _ => by simp only [List.nil_append, insL]; rw [if_neg (by omega)]
  | y :: t, h => by
    have hy := h y (by simp)
    simp only [List.cons_append, insL]
    rw [if_neg (by omega), insL_end hz fun y' hy' => h y' (by simp [hy'])]
theorem insL_mid {x z : α} (hz : key z < key x) : ∀ {t : List α}, insL key x (t ++ [z]) = insL key x t ++ [z]
  | [] => by simp only [List.nil_append, insL]; rw [if_pos hz]; rfl
  | y :: t => by
    simp only [List.cons_append, insL]
    by_cases h : key y < key x
    · rw [if_pos h, if_pos h]; rfl
    · rw [if_neg h, if_neg h, insL_mid hz]; rfl
theorem insRev_insL (x : α) : ∀ (R : List α), Falls key R.reverse → (insRev (ltK key) x R).reverse = insL key x R.reverse
  | [], _ => rfl
  | z :: R, h => by
    unfold Falls at h
    rw [List.reverse_cons, List.pairwise_append] at h
    have hall : ∀ y ∈ R.reverse, key z ≤ key y := fun y hy => h.2.2 y hy z (by simp)
    unfold insRev
    by_cases hlt : key z < key x
    · rw [if_pos (by unfold ltK; exact decide_eq_true hlt), List.reverse_cons, insRev_insL x R h.1, List.reverse_cons, insL_mid key hlt]
    · rw [if_neg (by unfold ltK; simp; omega), List.reverse_cons, List.reverse_cons, List.append_assoc, insL_end key (by omega) hall]
      rfl
/-- The list, the greatest ahead, of those as great the earlier one ahead. -/
def sortL (l : List α) : List α := l.foldl (fun s x => insL key x s) []
theorem sortL_snoc (l : List α) (x : α) : sortL key (l ++ [x]) = insL key x (sortL key l) := by simp [sortL]
theorem falls_sortL (l : List α) : Falls key (sortL key l) := by
  have : ∀ (l s : List α), Falls key s → Falls key (l.foldl (fun s x => insL key x s) s) := by
    intro l
    induction l with
    | nil => intro s h; exact h
    | cons x l ih => intro s h; exact ih _ (falls_insL key x h)
  exact this l [] List.Pairwise.nil
theorem fold_insRev (l : List α) : ∀ (R : List α), Falls key R.reverse → (l.foldl (fun R x => insRev (ltK key) x R) R).reverse = l.foldl (fun s x => insL key x s) R.reverse := by
  induction l with
  | nil => intro R _; rfl
  | cons x l ih =>
    intro R h
    have e := insRev_insL key x R h
    simp only [List.foldl_cons]
    rw [ih _ (by rw [e]; exact falls_insL key x h), e]
theorem insertionSort_sortL [Inhabited α] (d : Array α) : (insertionSort (ltK key) d 0 d.size).toList = sortL key d.toList := by
  rw [insertionSort_list, fold_insRev key _ [] List.Pairwise.nil]; rfl
theorem length_insL (x : α) : ∀ (s : List α), (insL key x s).length = s.length + 1
  | [] => rfl
  | y :: ys => by
    unfold insL
    split
    · rfl
    · simp [length_insL x ys]
theorem length_sortL (l : List α) : (sortL key l).length = l.length := by
  have : ∀ (l s : List α), (l.foldl (fun s x => insL key x s) s).length = s.length + l.length := by
    intro l
    induction l with
    | nil => intro s; rfl
    | cons x l ih => intro s; rw [List.foldl_cons, ih, length_insL]; simp; omega
  have h := this l []
  simpa [sortL] using h
theorem mem_sortL {l : List α} {z : α} : z ∈ sortL key l ↔ z ∈ l := by
  have : ∀ (l s : List α), z ∈ l.foldl (fun s x => insL key x s) s ↔ z ∈ s ∨ z ∈ l := by
    intro l
    induction l with
    | nil => intro s; simp
    | cons x l ih =>
      intro s
      rw [List.foldl_cons, ih, mem_insL, List.mem_cons]
      constructor
      · rintro ((h | h) | h) <;> simp [h]
      · rintro (h | h | h) <;> simp [h]
  have h := this l []
  simpa [sortL] using h
theorem head_insL (x : α) (s : List α) : (insL key x s).head? = some (match s with
    | [] => x
    | y :: _ => if key y < key x then x else y) := by
  cases s with
  | nil => rfl
  | cons y ys => simp only [insL]; split <;> rfl
theorem perm_insL (x : α) : ∀ (s : List α), (insL key x s).Perm (x :: s)
  | [] => List.Perm.refl _
  | y :: ys => by
    unfold insL
    split
    · exact List.Perm.refl _
    · exact ((perm_insL x ys).cons y).trans (List.Perm.swap x y ys)
theorem perm_sortL (l : List α) : (sortL key l).Perm l := by
  have : ∀ (l s : List α), (l.foldl (fun s x => insL key x s) s).Perm (s ++ l) := by
    intro l
    induction l with
    | nil => intro s; simp
    | cons x l ih =>
      intro s
      rw [List.foldl_cons]
      refine (ih _).trans ?_
      refine ((perm_insL key x s).append_right l).trans ?_
      rw [List.cons_append]
      exact (List.perm_middle).symm
  have h := this l []
  simpa [sortL] using h
/-- The head is the first of the greatest. -/
theorem head_sortL {pre post : List α} {b : α} (h1 : ∀ x ∈ pre, key x < key b) (h2 : ∀ x ∈ post, key x ≤ key b) : (sortL key (pre ++ b :: post)).head? = some b := by
  have hb : (sortL key (pre ++ [b])).head? = some b := by
    rw [sortL_snoc, head_insL]
    cases h : sortL key pre with
    | nil => rfl
    | cons y ys =>
      have : y ∈ pre := (mem_sortL key).1 (by rw [h]; simp)
      simp only
      rw [if_pos (h1 y this)]
  have : ∀ (post pre : List α), (sortL key pre).head? = some b → (∀ x ∈ post, key x ≤ key b) → (sortL key (pre ++ post)).head? = some b := by
    intro post
    induction post with
    | nil => intro pre h _; simpa using h
    | cons x post ih =>
      intro pre h h2
      have := ih (pre ++ [x]) (by
        rw [sortL_snoc, head_insL]
        cases hs : sortL key pre with
        | nil => rw [hs] at h; cases h
        | cons y ys =>
          rw [hs] at h
          injection h with h
          subst h
          simp only
          rw [if_neg (by have := h2 x (by simp); omega)]) (fun z hz => h2 z (by simp [hz]))
      simpa using this
  have := this post (pre ++ [b]) hb h2
  simpa using this
end
end Go.Gv
