/- Slices of slices that the call owns. Conditions: those named in each theorem. -/
import Derived.Sort.LotA
import Derived.Sort.WalkA
import Derived.Test.YtgeimnknmljplaaDoorP1
import Derived.Test.YtgeimnknmljplaaDoorP2
import Derived.BigRegion
import Derived.Deep.RegionWith
/- Sorting by insertion, as lists; what stands ahead. Conditions: those named in each theorem. -/
namespace Go.Gv
open Go.Sort
section
variable {α : Type} [Inhabited α] (lt : α → α → Bool)
/-- Into a list from its end. -/
def insRev (x : α) : List α → List α
  | [] => [x]
  | y :: ys => if lt x y = true then y :: insRev x ys else x :: y :: ys
theorem getBang_toList (d : Array α) (i : Nat) (h : i < d.size) : d[i]! = d.toList[i]'(by simpa using h) := by
  rw [getElem!_pos d i h]; rfl
theorem insInner_list : ∀ (i : Nat) (d : Array α) (R : List α) (x : α) (S : List α), d.toList = R.reverse ++ x :: S → R.length = i → (insInner lt 0 i d).toList = (insRev lt x R).reverse ++ S
  | 0, d, R, x, S, hd, hl => by
    have : R = [] := List.eq_nil_of_length_eq_zero hl
    subst this
    simp [insInner, insRev, hd]
  | j + 1, d, R, x, S, hd, hl => by
    cases R with
    | nil => simp at hl
    | cons y R =>
      have hlR : R.length = j := by simpa using hl
      have hsz : d.size = R.length + 1 + 1 + S.length := by
        have := congrArg List.length hd; simp at this; omega
      have hj : d[j]! = y := by
        rw [getBang_toList d j (by omega)]
        simp only [hd, List.reverse_cons, List.append_assoc, List.cons_append, List.nil_append]
        rw [List.getElem_append_right (by simp; omega)]
        simp [hlR]
      have hj1 : d[j + 1]! = x := by
        rw [getBang_toList d (j + 1) (by omega)]
        simp only [hd, List.reverse_cons, List.append_assoc, List.cons_append, List.nil_append]
        rw [List.getElem_append_right (by simp; omega)]
        simp [hlR]
      unfold insInner insRev
      rw [hj, hj1]
      by_cases h : lt x y = true
      · have hs : (swp d (j + 1) j).toList = R.reverse ++ x :: (y :: S) := by
          unfold swp
          rw [hj, hj1]
          simp only [Array.toList_setIfInBounds, hd, List.reverse_cons, List.append_assoc, List.cons_append, List.nil_append]
          rw [List.set_append_right _ _ (by simp; omega), List.set_append_right _ _ (by simp; omega)]
          simp [hlR]
        have ih := insInner_list j (swp d (j + 1) j) R x (y :: S) hs hlR
        simp only [h, if_true, Nat.zero_lt_succ, decide_true, Bool.and_self, gt_iff_lt]
        rw [ih]
        simp
      · simp only [h, Bool.and_false]
        simp [hd]
theorem insOuter_list : ∀ (n i : Nat) (d : Array α) (R S : List α), S.length = n → d.toList = R.reverse ++ S → R.length = i → (insOuter lt 0 d.size i d).toList = (S.foldl (fun R x => insRev lt x R) R).reverse
  | 0, i, d, R, S, hn, hd, hl => by
    have : S = [] := List.eq_nil_of_length_eq_zero hn
    subst this
    have hsz : d.size = i := by have := congrArg List.length hd; simp at this; omega
    rw [insOuter, if_neg (by omega)]
    simp [hd]
  | n + 1, i, d, R, S, hn, hd, hl => by
    cases S with
    | nil => simp at hn
    | cons x S =>
      have hsz : d.size = i + 1 + S.length := by have := congrArg List.length hd; simp at this; omega
      have h1 := insInner_list lt i d R x S hd hl
      have h2 : (insInner lt 0 i d).size = d.size := by
        have := congrArg List.length h1
        have hr : (insRev lt x R).length = R.length + 1 := by
          clear h1 hd this hl
          induction R with
          | nil => rfl
          | cons y R ih => unfold insRev; split <;> simp [ih]
        simp [hr] at this
        omega
      rw [insOuter, if_pos (by omega), ← h2]
      have hr : (insRev lt x R).length = i + 1 := by
        have := congrArg List.length h1
        simp at this; omega
      exact insOuter_list n (i + 1) _ (insRev lt x R) S (by simpa using hn) h1 hr
theorem insertionSort_list (d : Array α) : (insertionSort lt d 0 d.size).toList = (d.toList.foldl (fun R x => insRev lt x R) []).reverse := by
  unfold insertionSort
  cases h : d.toList with
  | nil =>
    have hsz : d.size = 0 := by have := congrArg List.length h; simpa using this
    rw [insOuter, if_neg (by omega), h]; rfl
  | cons x S =>
    have := insOuter_list lt S.length 1 d [x] S rfl (by simp [h]) rfl
    rw [this]
    rfl
end
section
variable {α : Type} (key : α → Int)
def ltK (x y : α) : Bool := decide (key y < key x)
/-- Into a list that falls, behind those as great. -/
def insL (x : α) : List α → List α
  | [] => [x]
  | y :: ys => if key y < key x then x :: y :: ys else y :: insL x ys
def Falls (s : List α) : Prop := s.Pairwise fun a b => key b ≤ key a
theorem mem_insL {x z : α} : ∀ {s : List α}, z ∈ insL key x s ↔ z = x ∨ z ∈ s
  | [] => by simp [insL]
  | y :: ys => by
    unfold insL
    split
    · simp
    · simp only [List.mem_cons, mem_insL (s := ys)]
      constructor
      · rintro (h | h | h) <;> simp [h]
      · rintro (h | h | h) <;> simp [h]
theorem falls_insL (x : α) : ∀ {s : List α}, Falls key s → Falls key (insL key x s)
  | [], _ => by simp [insL, Falls]
  | y :: ys, h => by
    unfold Falls at h ⊢
    unfold insL
    rw [List.pairwise_cons] at h
    split
    · rename_i hlt
      rw [List.pairwise_cons, List.pairwise_cons]
      refine ⟨fun z hz => ?_, h⟩
      simp only [List.mem_cons] at hz
      rcases hz with rfl | hz
      · omega
      · have := h.1 z hz; omega
    · rename_i hge
      rw [List.pairwise_cons]
      refine ⟨fun z hz => ?_, falls_insL x h.2⟩
      rw [mem_insL] at hz
      rcases hz with rfl | hz
      · omega
      · exact h.1 z hz
theorem insL_end {x z : α} (hz : key x ≤ key z) : ∀ {t : List α}, (∀ y ∈ t, key z ≤ key y) → insL key x (t ++ [z]) = t ++ [z, x]
  | [], _ => by simp only [List.nil_append, insL]; rw [if_neg (by omega)]
  | y :: t, h => by
    have hy := h y (by simp)
    simp only [List.cons_append, insL]
    rw [if_neg (by omega), insL_end hz fun y' hy' => h y' (by simp [hy'])]
theorem insL_mid {x z : α} (hz : key z < key x) : ∀ {t : List α}, insL key x (t ++ [z]) = insL key x t ++ [z]
  | [] => by simp only [List.nil_append, insL]; rw [if_pos hz]; rfl
  | y :: t => by
    simp only [List.cons_append, insL]
    by_cases h : key y < key x
    · rw [if_pos h, if_pos h]; rfl
    · rw [if_neg h, if_neg h, insL_mid hz]; rfl
theorem insRev_insL (x : α) : ∀ (R : List α), Falls key R.reverse → (insRev (ltK key) x R).reverse = insL key x R.reverse
  | [], _ => rfl
  | z :: R, h => by
    unfold Falls at h
    rw [List.reverse_cons, List.pairwise_append] at h
    have hall : ∀ y ∈ R.reverse, key z ≤ key y := fun y hy => h.2.2 y hy z (by simp)
    unfold insRev
    by_cases hlt : key z < key x
    · rw [if_pos (by unfold ltK; exact decide_eq_true hlt), List.reverse_cons, insRev_insL x R h.1, List.reverse_cons, insL_mid key hlt]
    · rw [if_neg (by unfold ltK; simp; omega), List.reverse_cons, List.reverse_cons, List.append_assoc, insL_end key (by omega) hall]
      rfl
/-- The list, the greatest ahead, of those as great the earlier one ahead. -/
def sortL (l : List α) : List α := l.foldl (fun s x => insL key x s) []
theorem sortL_snoc (l : List α) (x : α) : sortL key (l ++ [x]) = insL key x (sortL key l) := by simp [sortL]
theorem falls_sortL (l : List α) : Falls key (sortL key l) := by
  have : ∀ (l s : List α), Falls key s → Falls key (l.foldl (fun s x => insL key x s) s) := by
    intro l
    induction l with
    | nil => intro s h; exact h
    | cons x l ih => intro s h; exact ih _ (falls_insL key x h)
  exact this l [] List.Pairwise.nil
theorem fold_insRev (l : List α) : ∀ (R : List α), Falls key R.reverse → (l.foldl (fun R x => insRev (ltK key) x R) R).reverse = l.foldl (fun s x => insL key x s) R.reverse := by
  induction l with
  | nil => intro R _; rfl
  | cons x l ih =>
    intro R h
    have e := insRev_insL key x R h
    simp only [List.foldl_cons]
    rw [ih _ (by rw [e]; exact falls_insL key x h), e]
theorem insertionSort_sortL [Inhabited α] (d : Array α) : (insertionSort (ltK key) d 0 d.size).toList = sortL key d.toList := by
  rw [insertionSort_list, fold_insRev key _ [] List.Pairwise.nil]; rfl
theorem length_insL (x : α) : ∀ (s : List α), (insL key x s).length = s.length + 1
  | [] => rfl
  | y :: ys => by
    unfold insL
    split
    · rfl
    · simp [length_insL x ys]
theorem length_sortL (l : List α) : (sortL key l).length = l.length := by
  have : ∀ (l s : List α), (l.foldl (fun s x => insL key x s) s).length = s.length + l.length := by
    intro l
    induction l with
    | nil => intro s; rfl
    | cons x l ih => intro s; rw [List.foldl_cons, ih, length_insL]; simp; omega
  have h := this l []
  simpa [sortL] using h
theorem mem_sortL {l : List α} {z : α} : z ∈ sortL key l ↔ z ∈ l := by
  have : ∀ (l s : List α), z ∈ l.foldl (fun s x => insL key x s) s ↔ z ∈ s ∨ z ∈ l := by
    intro l
    induction l with
    | nil => intro s; simp
    | cons x l ih =>
      intro s
      rw [List.foldl_cons, ih, mem_insL, List.mem_cons]
      constructor
      · rintro ((h | h) | h) <;> simp [h]
      · rintro (h | h | h) <;> simp [h]
  have h := this l []
  simpa [sortL] using h
theorem head_insL (x : α) (s : List α) : (insL key x s).head? = some (match s with
    | [] => x
    | y :: _ => if key y < key x then x else y) := by
  cases s with
  | nil => rfl
  | cons y ys => simp only [insL]; split <;> rfl
theorem perm_insL (x : α) : ∀ (s : List α), (insL key x s).Perm (x :: s)
  | [] => List.Perm.refl _
  | y :: ys => by
    unfold insL
    split
    · exact List.Perm.refl _
    · exact ((perm_insL x ys).cons y).trans (List.Perm.swap x y ys)
theorem perm_sortL (l : List α) : (sortL key l).Perm l := by
  have : ∀ (l s : List α), (l.foldl (fun s x => insL key x s) s).Perm (s ++ l) := by
    intro l
    induction l with
    | nil => intro s; simp
    | cons x l ih =>
      intro s
      rw [List.foldl_cons]
      refine (ih _).trans ?_
      refine ((perm_insL key x s).append_right l).trans ?_
      rw [List.cons_append]
      exact (List.perm_middle).symm
  have h := this l []
  simpa [sortL] using h
/-- The head is the first of the greatest. -/
theorem head_sortL {pre post : List α} {b : α} (h1 : ∀ x ∈ pre, key x < key b) (h2 : ∀ x ∈ post, key x ≤ key b) : (sortL key (pre ++ b :: post)).head? = some b := by
  have hb : (sortL key (pre ++ [b])).head? = some b := by
    rw [sortL_snoc, head_insL]
    cases h : sortL key pre with
    | nil => rfl
    | cons y ys =>
      have : y ∈ pre := (mem_sortL key).1 (by rw [h]; simp)
      simp only
      rw [if_pos (h1 y this)]
  have : ∀ (post pre : List α), (sortL key pre).head? = some b → (∀ x ∈ post, key x ≤ key b) → (sortL key (pre ++ post)).head? = some b := by
    intro post
    induction post with
    | nil => intro pre h _; simpa using h
    | cons x post ih =>
      intro pre h h2
      have := ih (pre ++ [x]) (by
        rw [sortL_snoc, head_insL]
        cases hs : sortL key pre with
        | nil => rw [hs] at h; cases h
        | cons y ys =>
          rw [hs] at h
          injection h with h
          subst h
          simp only
          rw [if_neg (by have := h2 x (by simp); omega)]) (fun z hz => h2 z (by simp [hz]))
      simpa using this
  have := this post (pre ++ [b]) hb h2
  simpa using this
end
end Go.Gv
/- Merging in place, as the library does it: what the plain steps mean. Conditions: those named in each theorem. -/
namespace Go.Gv
open Go Go.Sort Go.Proofs
section
variable {α : Type} [Inhabited α]
/-- n elements from place a on. -/
def sgn (d : Array α) (a n : Nat) : List α := (List.range n).map fun i => d[a + i]!
def sg (d : Array α) (a b : Nat) : List α := sgn d a (b - a)
theorem sgn_add (d : Array α) (a m n : Nat) : sgn d a (m + n) = sgn d a m ++ sgn d (a + m) n := by
  unfold sgn
  rw [List.range_add, List.map_append, List.map_map]
  congr 1
  refine List.map_congr_left fun i _ => ?_
  show d[a + (m + i)]! = d[a + m + i]!
  rw [Nat.add_assoc]
theorem sgn_eq {d d' : Array α} {a c n : Nat} (h : ∀ i < n, d'[a + i]! = d[c + i]!) : sgn d' a n = sgn d c n := by
  unfold sgn
  refine List.map_congr_left fun i hi => h i (List.mem_range.1 hi)
theorem sg_split (d : Array α) {a c b : Nat} (h1 : a ≤ c) (h2 : c ≤ b) : sg d a b = sg d a c ++ sg d c b := by
  unfold sg
  have := sgn_add d a (c - a) (b - c)
  rw [show a + (c - a) = c by omega, show c - a + (b - c) = b - a by omega] at this
  exact this
theorem sg_same {d d' : Array α} {a b : Nat} (h : ∀ i, a ≤ i → i < b → d'[i]! = d[i]!) : sg d' a b = sg d a b := sgn_eq fun i hi => h _ (by omega) (by omega)
theorem sg_shift {d d' : Array α} {a b c e : Nat} (hl : b - a = e - c) (h : ∀ i, i < b - a → d'[a + i]! = d[c + i]!) : sg d' a b = sg d c e := by
  unfold sg
  rw [← hl]
  exact sgn_eq h
theorem sg_nil (d : Array α) (a : Nat) : sg d a a = [] := by unfold sg sgn; simp
theorem sg_none (d : Array α) {a b : Nat} (h : b ≤ a) : sg d a b = [] := by unfold sg sgn; rw [show b - a = 0 by omega]; rfl
theorem mem_sg {d : Array α} {a b : Nat} {x : α} : x ∈ sg d a b ↔ ∃ i, a ≤ i ∧ i < b ∧ d[i]! = x := by
  unfold sg sgn
  rw [List.mem_map]
  constructor
  · rintro ⟨i, hi, rfl⟩
    have := List.mem_range.1 hi
    exact ⟨a + i, by omega, by omega, rfl⟩
  · rintro ⟨i, h1, h2, rfl⟩
    exact ⟨i - a, List.mem_range.2 (by omega), by rw [show a + (i - a) = i by omega]⟩
theorem sg_all (d : Array α) : sg d 0 d.size = d.toList := by
  unfold sg sgn
  refine List.ext_getElem (by simp) fun i h1 h2 => ?_
  have hi : i < d.size := by simpa using h2
  simp [hi]
/-! ### The same elements, those of one key in their order -/
variable (key : α → Int)
def StabE (l L : List α) : Prop := ∀ k, l.filter (fun x => decide (key x = k)) = L.filter (fun x => decide (key x = k))
variable {key}
omit [Inhabited α] in
theorem StabE.rf (l : List α) : StabE key l l := fun _ => rfl
omit [Inhabited α] in
theorem StabE.tr {a b c : List α} (h1 : StabE key a b) (h2 : StabE key b c) : StabE key a c := fun k => (h1 k).trans (h2 k)
omit [Inhabited α] in
theorem StabE.sm {a b : List α} (h : StabE key a b) : StabE key b a := fun k => (h k).symm
omit [Inhabited α] in
theorem StabE.app {a b c d : List α} (h1 : StabE key a b) (h2 : StabE key c d) : StabE key (a ++ c) (b ++ d) := fun k => by
  rw [List.filter_append, List.filter_append, h1 k, h2 k]
omit [Inhabited α] in
theorem StabE.mem {a b : List α} (h : StabE key a b) {x : α} : x ∈ a ↔ x ∈ b := by
  have e := congrArg (fun l => x ∈ l) (h (key x))
  simpa using e
omit [Inhabited α] in
theorem StabE.turn {X Y : List α} (h : ∀ x ∈ X, ∀ y ∈ Y, key x ≠ key y) : StabE key (X ++ Y) (Y ++ X) := fun k => by
  rw [List.filter_append, List.filter_append]
  by_cases hx : ∃ x ∈ X, key x = k
  · obtain ⟨x, hx, hk⟩ := hx
    have : Y.filter (fun x => decide (key x = k)) = [] := by
      rw [List.filter_eq_nil_iff]
      intro y hy
      have := h x hx y hy
      simp; omega
    rw [this]; simp
  · have : X.filter (fun x => decide (key x = k)) = [] := by
      rw [List.filter_eq_nil_iff]
      intro y hy
      simp
      exact fun e => hx ⟨y, hy, e⟩
    rw [this]; simp
omit [Inhabited α] in
theorem insL_stab (x : α) : ∀ (s : List α), Falls key s → StabE key (insL key x s) (s ++ [x])
  | [], _ => StabE.rf _
  | y :: s, h => by
    unfold insL
    unfold Falls at h
    rw [List.pairwise_cons] at h
    split
    · rename_i hlt
      have := StabE.turn (key := key) (X := [x]) (Y := y :: s) (fun a ha b hb => by
        simp only [List.mem_singleton] at ha
        subst ha
        rcases List.mem_cons.1 hb with rfl | hb
        · omega
        · have := h.1 b hb; omega)
      exact this
    · have ih := insL_stab x s h.2
      have := StabE.app (key := key) (StabE.rf [y]) ih
      simpa using this
omit [Inhabited α] in
theorem sortL_stab (l : List α) : StabE key l (sortL key l) := by
  have : ∀ (n : Nat) (l : List α), l.length = n → StabE key l (sortL key l) := by
    intro n
    induction n with
    | zero => intro l h; obtain rfl := List.eq_nil_of_length_eq_zero h; exact StabE.rf _
    | succ n ih =>
      intro l h
      have hne : l ≠ [] := by intro e; subst e; simp at h
      have e := List.dropLast_concat_getLast hne
      rw [← e, sortL_snoc]
      refine StabE.tr ?_ (insL_stab _ _ (falls_sortL key _)).sm
      exact StabE.app (ih _ (by simp [h])) (StabE.rf _)
  exact this _ l rfl
omit [Inhabited α] in
theorem falls_one : ∀ {l L : List α}, Falls key l → Falls key L → StabE key l L → l = L
  | [], [], _, _, _ => rfl
  | [], b :: L, _, _, h => by have := (h.mem (x := b)).2 (by simp); simp at this
  | a :: l, [], _, _, h => by have := (h.mem (x := a)).1 (by simp); simp at this
  | a :: l, b :: L, h1, h2, h => by
    unfold Falls at h1 h2
    rw [List.pairwise_cons] at h1 h2
    have hab : key a = key b := by
      have m1 := (h.mem (x := a)).1 (by simp)
      have m2 := (h.mem (x := b)).2 (by simp)
      have k1 : key a ≤ key b := by
        rcases List.mem_cons.1 m1 with e | e
        · rw [e]; exact Int.le_refl _
        · exact h2.1 a e
      have k2 : key b ≤ key a := by
        rcases List.mem_cons.1 m2 with e | e
        · rw [e]; exact Int.le_refl _
        · exact h1.1 b e
      omega
    have e := h (key a)
    rw [List.filter_cons_of_pos (by simp), List.filter_cons_of_pos (by simp [hab])] at e
    injection e with e1 _
    subst e1
    rw [falls_one h1.2 h2.2 (fun k => by
      have := h k
      by_cases hk : key a = k
      · rw [List.filter_cons_of_pos (by simp [hk]), List.filter_cons_of_pos (by simp [hk])] at this
        injection this
      · rw [List.filter_cons_of_neg (by simp [hk]), List.filter_cons_of_neg (by simp [hk])] at this
        exact this)]
omit [Inhabited α] in
theorem sortL_one {l L : List α} (h1 : Falls key L) (h2 : StabE key l L) : L = sortL key l :=
  falls_one h1 (falls_sortL key l) (h2.sm.tr (sortL_stab l))
/-! ### By places -/
variable (key)
def FallsI (d : Array α) (a b : Nat) : Prop := ∀ i j, a ≤ i → i < j → j < b → key d[j]! ≤ key d[i]!
structure Merged (d d' : Array α) (a b : Nat) : Prop where
  size : d'.size = d.size
  out : ∀ x, x < a ∨ b ≤ x → d'[x]! = d[x]!
  falls : FallsI key d' a b
  stab : StabE key (sg d a b) (sg d' a b)
variable {key}
theorem fallsI_list {d : Array α} (h : FallsI key d 0 d.size) : Falls key d.toList := by
  unfold Falls
  rw [List.pairwise_iff_getElem]
  intro i j hi hj hij
  have hi' : i < d.size := by simpa using hi
  have hj' : j < d.size := by simpa using hj
  have := h i j (Nat.zero_le _) hij hj'
  rw [getElem!_pos d i hi', getElem!_pos d j hj'] at this
  simpa using this
theorem sorted_one {d d' : Array α} (hs : d'.size = d.size) (h : Merged key d d' 0 d.size) : d'.toList = sortL key d.toList := by
  have h1 := h.stab
  rw [sg_all] at h1
  rw [← hs, sg_all] at h1
  exact sortL_one (fallsI_list (by rw [hs]; exact h.falls)) h1
theorem Merged.rf {d : Array α} {a b : Nat} (h : FallsI key d a b) : Merged key d d a b := ⟨rfl, fun _ _ => rfl, h, StabE.rf _⟩
/-- Where an element came from when the parts from a to m and from m to b change places. -/
def rotI (a m b x : Nat) : Nat := if a ≤ x ∧ x < a + (b - m) then x + (m - a) else if a + (b - m) ≤ x ∧ x < b then x - (b - m) else x
def Rot (d d' : Array α) (a m b : Nat) : Prop := d'.size = d.size ∧ ∀ x, d'[x]! = d[rotI a m b x]!
/-- A merge's parts: from the two runs' beginnings, and from their ends. -/
structure Cut (key : α → Int) (d : Array α) (a s m e b : Nat) : Prop where
  u1 : a ≤ s
  u2 : s ≤ m
  u3 : m ≤ e
  u4 : e ≤ b
  f1 : FallsI key d a m
  f2 : FallsI key d m b
  c1 : ∀ i j, a ≤ i → i < s → e ≤ j → j < b → key d[j]! ≤ key d[i]!
  c2 : ∀ i j, s ≤ i → i < m → m ≤ j → j < e → key d[i]! < key d[j]!
section
variable {d r : Array α} {a s m e b : Nat}
theorem Cut.r1 (C : Cut key d a s m e b) (hr : Rot d r s m e) : FallsI key r a s := fun i j h1 h2 h3 => by
  have := C.u1; have := C.u2; have := C.u3; have := C.u4
  rw [hr.2, hr.2]
  unfold rotI
  rw [if_neg (by omega), if_neg (by omega), if_neg (by omega), if_neg (by omega)]
  exact C.f1 i j h1 h2 (by omega)
theorem Cut.r2 (C : Cut key d a s m e b) (hr : Rot d r s m e) : FallsI key r s (s + (e - m)) := fun i j h1 h2 h3 => by
  have := C.u1; have := C.u2; have := C.u3; have := C.u4
  rw [hr.2, hr.2]
  unfold rotI
  rw [if_pos (by omega), if_pos (by omega)]
  exact C.f2 _ _ (by omega) (by omega) (by omega)
theorem Cut.r3 (C : Cut key d a s m e b) (hr : Rot d r s m e) : FallsI key r (s + (e - m)) e := fun i j h1 h2 h3 => by
  have := C.u1; have := C.u2; have := C.u3; have := C.u4
  rw [hr.2, hr.2]
  unfold rotI
  rw [if_neg (by omega), if_pos (by omega), if_neg (by omega), if_pos (by omega)]
  exact C.f1 _ _ (by omega) (by omega) (by omega)
theorem Cut.r4 (C : Cut key d a s m e b) (hr : Rot d r s m e) : FallsI key r e b := fun i j h1 h2 h3 => by
  have := C.u1; have := C.u2; have := C.u3; have := C.u4
  rw [hr.2, hr.2]
  unfold rotI
  rw [if_neg (by omega), if_neg (by omega), if_neg (by omega), if_neg (by omega)]
  exact C.f2 _ _ (by omega) (by omega) (by omega)
theorem Cut.cross (C : Cut key d a s m e b) (hr : Rot d r s m e) : ∀ i j, a ≤ i → i < s + (e - m) → s + (e - m) ≤ j → j < b → key r[j]! ≤ key r[i]! := fun i j h1 h2 h3 h4 => by
  have := C.u1; have := C.u2; have := C.u3; have := C.u4
  rw [hr.2, hr.2]
  unfold rotI
  by_cases h5 : i < s
  · rw [if_neg (c := s ≤ i ∧ _) (by omega), if_neg (c := s + (e - m) ≤ i ∧ _) (by omega)]
    by_cases h6 : j < e
    · rw [if_neg (by omega), if_pos (by omega)]
      exact C.f1 _ _ (by omega) (by omega) (by omega)
    · rw [if_neg (by omega), if_neg (by omega)]
      exact C.c1 _ _ (by omega) (by omega) (by omega) (by omega)
  · rw [if_pos (c := s ≤ i ∧ _) (by omega)]
    by_cases h6 : j < e
    · rw [if_neg (by omega), if_pos (by omega)]
      exact Int.le_of_lt (C.c2 _ _ (by omega) (by omega) (by omega) (by omega))
    · rw [if_neg (by omega), if_neg (by omega)]
      exact C.f2 _ _ (by omega) (by omega) (by omega)
theorem Cut.stab (C : Cut key d a s m e b) (hr : Rot d r s m e) : StabE key (sg d a b) (sg r a b) := by
  have := C.u1; have := C.u2; have := C.u3; have := C.u4
  rw [sg_split d (c := s) (by omega) (by omega), sg_split d (a := s) (c := m) (by omega) (by omega), sg_split d (a := m) (c := e) (by omega) (by omega)]
  rw [sg_split r (c := s) (by omega) (by omega), sg_split r (a := s) (c := s + (e - m)) (by omega) (by omega), sg_split r (a := s + (e - m)) (c := e) (by omega) (by omega)]
  have e1 : sg r a s = sg d a s := sg_same fun i h1 h2 => by
    rw [hr.2]; unfold rotI; rw [if_neg (by omega), if_neg (by omega)]
  have e2 : sg r s (s + (e - m)) = sg d m e := sg_shift (by omega) fun i hi => by
    rw [hr.2]; unfold rotI; rw [if_pos (by omega)]; congr 1; omega
  have e3 : sg r (s + (e - m)) e = sg d s m := sg_shift (by omega) fun i hi => by
    rw [hr.2]; unfold rotI; rw [if_neg (by omega), if_pos (by omega)]; congr 1; omega
  have e4 : sg r e b = sg d e b := sg_same fun i h1 h2 => by
    rw [hr.2]; unfold rotI; rw [if_neg (by omega), if_neg (by omega)]
  rw [e1, e2, e3, e4, ← List.append_assoc (sg d s m), ← List.append_assoc (sg d m e)]
  refine StabE.app (StabE.rf _) (StabE.app (StabE.turn ?_) (StabE.rf _))
  intro x hx y hy
  obtain ⟨i, h1, h2, rfl⟩ := mem_sg.1 hx
  obtain ⟨j, h3, h4, rfl⟩ := mem_sg.1 hy
  have := C.c2 i j h1 h2 h3 h4
  omega
/-- Cut, turned, each part merged: merged. -/
theorem Cut.done {d1 d2 : Array α} (C : Cut key d a s m e b) (hr : Rot d r s m e) (h1 : Merged key r d1 a (s + (e - m))) (h2 : Merged key d1 d2 (s + (e - m)) b) : Merged key d d2 a b := by
  have := C.u1; have := C.u2; have := C.u3; have := C.u4
  have hmid1 : a ≤ s + (e - m) := by omega
  have hmid2 : s + (e - m) ≤ b := by omega
  have e1 : sg d2 a (s + (e - m)) = sg d1 a (s + (e - m)) := sg_same fun i _ hi => h2.out i (.inl hi)
  have e2 : sg d1 (s + (e - m)) b = sg r (s + (e - m)) b := sg_same fun i hi _ => h1.out i (.inr hi)
  have s1 : StabE key (sg r a (s + (e - m))) (sg d2 a (s + (e - m))) := by rw [e1]; exact h1.stab
  have s2 : StabE key (sg r (s + (e - m)) b) (sg d2 (s + (e - m)) b) := by rw [← e2]; exact h2.stab
  refine ⟨h2.size.trans (h1.size.trans hr.1), fun x hx => ?_, fun i j hi hij hj => ?_, ?_⟩
  · rw [h2.out x (by omega), h1.out x (by omega), hr.2]
    unfold rotI
    rw [if_neg (by omega), if_neg (by omega)]
  · by_cases hjm : j < s + (e - m)
    · rw [h2.out i (by omega), h2.out j (by omega)]
      exact h1.falls i j hi hij hjm
    · by_cases him : s + (e - m) ≤ i
      · exact h2.falls i j him hij hj
      · have m1 := s1.mem.2 (mem_sg.2 ⟨i, hi, by omega, rfl⟩)
        have m2 := s2.mem.2 (mem_sg.2 ⟨j, by omega, hj, rfl⟩)
        obtain ⟨i', h3, h4, h5⟩ := mem_sg.1 m1
        obtain ⟨j', h6, h7, h8⟩ := mem_sg.1 m2
        rw [← h5, ← h8]
        exact C.cross hr i' j' h3 h4 h6 h7
  · refine (C.stab hr).tr ?_
    rw [sg_split r hmid1 hmid2, sg_split d2 hmid1 hmid2]
    exact s1.app s2
/-- What a merge of one, or with one, is: a search and a turn. -/
theorem merged_first {i : Nat} (hr : Rot d r a (a + 1) i) (hi : a + 1 ≤ i) (hb : i ≤ b) (f2 : FallsI key d (a + 1) b) (h1 : ∀ j, a + 1 ≤ j → j < i → key d[a]! < key d[j]!) (h2 : ∀ j, i ≤ j → j < b → key d[j]! ≤ key d[a]!) : Merged key d r a b := by
  have C : Cut key d a a (a + 1) i b := ⟨Nat.le_refl _, by omega, hi, hb, fun i j h1 h2 h3 => by omega, f2, fun i j h1 h2 => by omega, fun x j h3 h4 h5 h6 => by
    obtain rfl : x = a := by omega
    exact h1 j h5 h6⟩
  refine C.done hr (Merged.rf (C.r2 hr)) (Merged.rf fun x y hx hxy hy => ?_)
  by_cases h5 : i ≤ x
  · exact C.r4 hr x y h5 hxy hy
  · rw [hr.2, hr.2]
    unfold rotI
    rw [if_neg (by omega), if_neg (by omega), if_neg (by omega), if_pos (by omega), show x - (i - (a + 1)) = a by omega]
    exact h2 y (by omega) hy
theorem merged_last {i : Nat} (hr : Rot d r i m (m + 1)) (ha : a ≤ i) (hi : i ≤ m) (f1 : FallsI key d a m) (h1 : ∀ j, a ≤ j → j < i → key d[m]! ≤ key d[j]!) (h2 : ∀ j, i ≤ j → j < m → key d[j]! < key d[m]!) : Merged key d r a (m + 1) := by
  have C : Cut key d a i m (m + 1) (m + 1) := ⟨ha, hi, by omega, Nat.le_refl _, f1, fun i j h1 h2 h3 => by omega, fun i j h1 h2 => by omega, fun x j h3 h4 h5 h6 => by
    obtain rfl : j = m := by omega
    exact h2 x h3 h4⟩
  refine C.done hr (Merged.rf fun x y hx hxy hy => ?_) (Merged.rf (C.r3 hr))
  by_cases h5 : y < i
  · exact C.r1 hr x y hx hxy h5
  · rw [hr.2, hr.2]
    unfold rotI
    rw [if_pos (by omega), if_neg (by omega), if_neg (by omega), show y + (m - i) = m by omega]
    exact h1 x hx (by omega)
theorem Rot.rf (d : Array α) {a m b : Nat} (ha : a ≤ m) (hb : m ≤ b) (h : a = m ∨ m = b) : Rot d d a m b := ⟨rfl, fun x => by
  unfold rotI
  rcases h with h | h
  · subst h
    split
    · congr 1; omega
    · rw [if_neg (by omega)]
  · subst h
    rw [if_neg (by omega)]
    split
    · congr 1; omega
    · rfl⟩
/-- One more step of a single element's way to the right. -/
theorem Rot.right {d dk : Array α} {a k : Nat} (hr : Rot d dk a (a + 1) (k + 1)) (hk : a ≤ k) (hs : k + 1 < d.size) : Rot d (swp dk k (k + 1)) a (a + 1) (k + 2) := ⟨by rw [size_swp]; exact hr.1, fun x => by
  rw [swp_get dk (by rw [hr.1]; omega) (by rw [hr.1]; omega), hr.2, hr.2, hr.2]
  unfold rotI
  by_cases h1 : x = k + 1
  · rw [if_pos h1, if_neg (by omega), if_pos (by omega), if_neg (by omega), if_pos (by omega)]; congr 1; omega
  · by_cases h2 : x = k
    · rw [if_neg h1, if_pos h2, if_neg (by omega), if_neg (by omega), if_pos (by omega)]; congr 1; omega
    · rw [if_neg h1, if_neg h2]
      by_cases h3 : a ≤ x ∧ x < k
      · rw [if_pos (by omega), if_pos (by omega)]
      · rw [if_neg (by omega), if_neg (by omega), if_neg (by omega), if_neg (by omega)]⟩
theorem Rot.left {d dk : Array α} {m k : Nat} (hr : Rot d dk (k + 1) m (m + 1)) (hk : k + 1 ≤ m) (hs : m < d.size) : Rot d (swp dk (k + 1) k) k m (m + 1) := ⟨by rw [size_swp]; exact hr.1, fun x => by
  rw [swp_get dk (by rw [hr.1]; omega) (by rw [hr.1]; omega), hr.2, hr.2, hr.2]
  unfold rotI
  by_cases h1 : x = k
  · rw [if_pos h1, if_pos (by omega), if_pos (by omega)]; congr 1; omega
  · by_cases h2 : x = k + 1
    · rw [if_neg h1, if_pos h2, if_neg (by omega), if_neg (by omega), if_neg (by omega), if_pos (by omega)]; congr 1; omega
    · rw [if_neg h1, if_neg h2]
      by_cases h3 : k + 1 < x ∧ x < m + 1
      · rw [if_neg (by omega), if_pos (by omega), if_neg (by omega), if_pos (by omega)]
      · rw [if_neg (by omega), if_neg (by omega), if_neg (by omega), if_neg (by omega)]⟩
end
/-! ### Two parts of the same length change places -/
def swI (a b n x : Nat) : Nat := if a ≤ x ∧ x < a + n then x - a + b else if b ≤ x ∧ x < b + n then x - b + a else x
def Swd (d d' : Array α) (a b n : Nat) : Prop := d'.size = d.size ∧ ∀ x, d'[x]! = d[swI a b n x]!
theorem Swd.zero (d : Array α) (a b : Nat) : Swd d d a b 0 := ⟨rfl, fun x => by unfold swI; rw [if_neg (by omega), if_neg (by omega)]⟩
theorem Swd.more {d dk : Array α} {a b k : Nat} (h : Swd d dk a b k) (hab : a + k < b) (hs : b + k < d.size) : Swd d (swp dk (a + k) (b + k)) a b (k + 1) := ⟨by rw [size_swp]; exact h.1, fun x => by
  rw [swp_get dk (by rw [h.1]; omega) (by rw [h.1]; omega), h.2, h.2, h.2]
  unfold swI
  by_cases h1 : x = b + k
  · rw [if_pos h1, if_neg (by omega), if_neg (by omega), if_neg (by omega), if_pos (by omega)]; congr 1; omega
  · by_cases h2 : x = a + k
    · rw [if_neg h1, if_pos h2, if_neg (by omega), if_neg (by omega), if_pos (by omega)]; congr 1; omega
    · rw [if_neg h1, if_neg h2]
      by_cases h3 : a ≤ x ∧ x < a + k
      · rw [if_pos (by omega), if_pos (by omega)]
      · by_cases h4 : b ≤ x ∧ x < b + k
        · rw [if_neg (by omega), if_pos (by omega), if_neg (by omega), if_pos (by omega)]
        · rw [if_neg (by omega), if_neg (by omega), if_neg (by omega), if_neg (by omega)]⟩
theorem swI_cases (a b n x : Nat) : (a ≤ x ∧ x < a + n ∧ swI a b n x = x - a + b) ∨ (¬ (a ≤ x ∧ x < a + n) ∧ b ≤ x ∧ x < b + n ∧ swI a b n x = x - b + a) ∨ (¬ (a ≤ x ∧ x < a + n) ∧ ¬ (b ≤ x ∧ x < b + n) ∧ swI a b n x = x) := by
  unfold swI
  by_cases h1 : a ≤ x ∧ x < a + n
  · exact .inl ⟨h1.1, h1.2, by rw [if_pos h1]⟩
  · by_cases h2 : b ≤ x ∧ x < b + n
    · exact .inr (.inl ⟨h1, h2.1, h2.2, by rw [if_neg h1, if_pos h2]⟩)
    · exact .inr (.inr ⟨h1, h2, by rw [if_neg h1, if_neg h2]⟩)
theorem rotI_cases (a m b x : Nat) : (a ≤ x ∧ x < a + (b - m) ∧ rotI a m b x = x + (m - a)) ∨ (¬ (a ≤ x ∧ x < a + (b - m)) ∧ a + (b - m) ≤ x ∧ x < b ∧ rotI a m b x = x - (b - m)) ∨ (¬ (a ≤ x ∧ x < a + (b - m)) ∧ ¬ (a + (b - m) ≤ x ∧ x < b) ∧ rotI a m b x = x) := by
  unfold rotI
  by_cases h1 : a ≤ x ∧ x < a + (b - m)
  · exact .inl ⟨h1.1, h1.2, by rw [if_pos h1]⟩
  · by_cases h2 : a + (b - m) ≤ x ∧ x < b
    · exact .inr (.inl ⟨h1, h2.1, h2.2, by rw [if_neg h1, if_pos h2]⟩)
    · exact .inr (.inr ⟨h1, h2, by rw [if_neg h1, if_neg h2]⟩)
/-- A turn by exchanges: what is left of it behind one. -/
theorem Swd.big {d d1 d2 : Array α} {i j m : Nat} (h1 : Swd d d1 (m - i) m j) (hi : i ≤ m) (hij : j < i) (h2 : Rot d1 d2 (m - (i - j)) m (m + j)) : Rot d d2 (m - i) m (m + j) := ⟨h2.1.trans h1.1, fun x => by
  rw [h2.2, h1.2]
  congr 1
  have e1 := rotI_cases (m - (i - j)) m (m + j) x
  have e2 := rotI_cases (m - i) m (m + j) x
  have e3 := swI_cases (m - i) m j (rotI (m - (i - j)) m (m + j) x)
  generalize swI (m - i) m j (rotI (m - (i - j)) m (m + j) x) = u at e3 ⊢
  generalize rotI (m - (i - j)) m (m + j) x = y at e1 e3
  generalize rotI (m - i) m (m + j) x = z at e2 ⊢
  omega⟩
theorem Swd.small {d d1 d2 : Array α} {i j m : Nat} (h1 : Swd d d1 (m - i) (m + j - i) i) (hi : i ≤ m) (hij : i < j) (h2 : Rot d1 d2 (m - i) m (m + (j - i))) : Rot d d2 (m - i) m (m + j) := ⟨h2.1.trans h1.1, fun x => by
  rw [h2.2, h1.2]
  congr 1
  have e1 := rotI_cases (m - i) m (m + (j - i)) x
  have e2 := rotI_cases (m - i) m (m + j) x
  have e3 := swI_cases (m - i) (m + j - i) i (rotI (m - i) m (m + (j - i)) x)
  generalize swI (m - i) (m + j - i) i (rotI (m - i) m (m + (j - i)) x) = u at e3 ⊢
  generalize rotI (m - i) m (m + (j - i)) x = y at e1 e3
  generalize rotI (m - i) m (m + j) x = z at e2 ⊢
  omega⟩
theorem Swd.same {d d1 : Array α} {i m : Nat} (h1 : Swd d d1 (m - i) m i) (hi : i ≤ m) : Rot d d1 (m - i) m (m + i) := ⟨h1.1, fun x => by
  rw [h1.2]
  congr 1
  have e2 := rotI_cases (m - i) m (m + i) x
  have e3 := swI_cases (m - i) m i x
  generalize swI (m - i) m i x = u at e3 ⊢
  generalize rotI (m - i) m (m + i) x = z at e2 ⊢
  omega⟩
/-! ### The sort by insertion keeps the order of those of one key -/
theorem swp_stab {d : Array α} {a b j : Nat} (h1 : a ≤ j) (h2 : j + 1 < b) (hs : b ≤ d.size) (hk : key d[j]! < key d[j + 1]!) : StabE key (sg d a b) (sg (swp d (j + 1) j) a b) := by
  have g := swp_get d (i := j + 1) (j := j) (by omega) (by omega)
  rw [sg_split d (c := j) (by omega) (by omega), sg_split d (a := j) (c := j + 1) (by omega) (by omega), sg_split d (a := j + 1) (c := j + 2) (by omega) (by omega)]
  rw [sg_split (swp d (j + 1) j) (c := j) (by omega) (by omega), sg_split (swp d (j + 1) j) (a := j) (c := j + 1) (by omega) (by omega), sg_split (swp d (j + 1) j) (a := j + 1) (c := j + 2) (by omega) (by omega)]
  have e1 : sg (swp d (j + 1) j) a j = sg d a j := sg_same fun i h3 h4 => by rw [g, if_neg (by omega), if_neg (by omega)]
  have e2 : sg (swp d (j + 1) j) j (j + 1) = sg d (j + 1) (j + 2) := sg_shift (by omega) fun i hi => by
    obtain rfl : i = 0 := by omega
    rw [g, if_pos (by omega)]
  have e3 : sg (swp d (j + 1) j) (j + 1) (j + 2) = sg d j (j + 1) := sg_shift (by omega) fun i hi => by
    obtain rfl : i = 0 := by omega
    rw [g, if_neg (by omega), if_pos (by omega)]; rfl
  have e4 : sg (swp d (j + 1) j) (j + 2) b = sg d (j + 2) b := sg_same fun i h3 h4 => by rw [g, if_neg (by omega), if_neg (by omega)]
  rw [e1, e2, e3, e4, ← List.append_assoc (sg d j (j + 1)), ← List.append_assoc (sg d (j + 1) (j + 2))]
  refine StabE.app (StabE.rf _) (StabE.app (StabE.turn ?_) (StabE.rf _))
  intro x hx y hy
  obtain ⟨i, h3, h4, rfl⟩ := mem_sg.1 hx
  obtain ⟨i2, h5, h6, rfl⟩ := mem_sg.1 hy
  obtain rfl : i = j := by omega
  obtain rfl : i2 = i + 1 := by omega
  omega
theorem insInner_stab (a b : Nat) : ∀ (j : Nat) (d : Array α), j < b → b ≤ d.size → (insInner (ltK key) a j d).size = d.size ∧ StabE key (sg d a b) (sg (insInner (ltK key) a j d) a b)
  | 0, d, _, _ => ⟨rfl, StabE.rf _⟩
  | j + 1, d, hj, hb => by
    by_cases h : a < j + 1 ∧ ltK key d[j + 1]! d[j]! = true
    · have e := insInner_go (ltK key) a (j + 1) d h.1 (by simpa using h.2)
      simp only [Nat.add_sub_cancel] at e
      rw [e]
      have ih := insInner_stab a b j (swp d (j + 1) j) (by omega) (by rw [size_swp]; exact hb)
      rw [size_swp] at ih
      refine ⟨ih.1, (swp_stab (by omega) hj hb ?_).tr ih.2⟩
      have := h.2
      unfold ltK at this
      exact of_decide_eq_true this
    · rw [insInner_stop (ltK key) a (j + 1) d (by
        by_cases h1 : a < j + 1
        · right
          simp only [Nat.add_sub_cancel]
          cases hl : ltK key d[j + 1]! d[j]! with
          | false => rfl
          | true => exact absurd ⟨h1, hl⟩ h
        · left; omega)]
      exact ⟨rfl, StabE.rf _⟩
theorem insOuter_stab (a b : Nat) : ∀ (n i : Nat) (d : Array α), b - i = n → b ≤ d.size → StabE key (sg d a b) (sg (insOuter (ltK key) a b i d) a b)
  | 0, i, d, h, _ => by rw [insOuter_stop _ _ _ _ _ (by omega)]; exact StabE.rf _
  | n + 1, i, d, h, hb => by
    rw [insOuter_go _ _ _ _ _ (by omega)]
    have h1 := insInner_stab (key := key) a b i d (by omega) hb
    exact h1.2.tr (insOuter_stab a b n (i + 1) _ (by omega) (by rw [h1.1]; exact hb))
omit [Inhabited α] in
theorem ltK_swo (key : α → Int) : SWO (ltK key) := ⟨fun x => by unfold ltK; simp, fun x y z h1 h2 => by
    unfold ltK at *
    have := of_decide_eq_true h1; have := of_decide_eq_true h2
    exact decide_eq_true (by omega), fun x y z h1 h2 => by
    unfold ltK at *
    have := of_decide_eq_false h1; have := of_decide_eq_false h2
    exact decide_eq_false (by omega)⟩
theorem insertion_merged (key : α → Int) (d : Array α) {a b : Nat} (hab : a ≤ b) (hb : b ≤ d.size) : Merged key d (insertionSort (ltK key) d a b) a b := by
  obtain ⟨⟨h1, h2, _⟩, h3⟩ := insertionSort_holds (lt := ltK key) (ltK_swo key) d a b hab hb
  refine ⟨h1, h2, fun i j hi hij hj => ?_, insOuter_stab a b _ (a + 1) d rfl hb⟩
  have h4 : ¬ key (insertionSort (ltK key) d a b)[i]! < key (insertionSort (ltK key) d a b)[j]! := of_decide_eq_false (h3 i j hi hij hj)
  omega
end
end Go.Gv
/- What Within, Prefix, Same and Less compute. Conditions: those named in each theorem. -/
namespace Go.Proofs.YtgeimnknmljplaaDoor
open Go Go.RowKit Go.Gv

def within (v n : Int) : Int := if n < 1 then 0 else v % n

set_option maxHeartbeats 400000 in
theorem within_any (v n : Int) (w : World) (hn : n ≤ 9223372036854775807) (_hv : -9223372036854775808 ≤ v) (_hv2 : v ≤ 9223372036854775807) :
    Calls Tryd.prog 6 #[.int .i64 v, .int .i64 n] w fun e w' => e = .returned (.int .i64 (within v n)) ∧ w = w' := by
  by_cases h1 : n < 1
  · go_enter Tryd.func6, Tryd.ntmps6
    go_wp2
    go_ret
    exact ⟨ret_int (by unfold within; rw [if_pos h1]), rfl⟩
  · have h2 := tmod_lo (v := v) (n := n) (by omega)
    by_cases h3 : v.tmod n < 0
    · go_enter Tryd.func6, Tryd.ntmps6
      go_wp2
      go_ret
      exact ⟨ret_int (by unfold within; rw [if_neg (by omega)]; exact tmod_neg (by omega) h3), rfl⟩
    · go_enter Tryd.func6, Tryd.ntmps6
      go_wp2
      go_ret
      exact ⟨ret_int (by unfold within; rw [if_neg (by omega)]; exact tmod_pos (by omega) (by omega)), rfl⟩

def prefixB (a b : List GEntry) : Bool := decide (a.take (min a.length b.length) = b.take (min a.length b.length))
theorem take_eq_succ {α : Type} {xs ys : List α} {k : Nat} (h : xs.take k = ys.take k) (hx : k < xs.length) (hy : k < ys.length) : (xs.take (k+1) = ys.take (k+1)) ↔ xs[k] = ys[k] := by
  rw [List.take_succ_eq_append_getElem hx, List.take_succ_eq_append_getElem hy, h]
  constructor
  · intro e; simpa using List.append_cancel_left e
  · intro e; rw [e]
theorem prefixB_no {xs ys : List GEntry} {k : Nat} {x y : GEntry} (hx : xs[k]? = some x) (hy : ys[k]? = some y) (h : ¬ x = y) : prefixB xs ys = false := by
  unfold prefixB
  rw [decide_eq_false_iff_not]
  intro e
  have hk : k < xs.length := (List.getElem?_eq_some_iff.1 hx).1
  have hk' : k < ys.length := (List.getElem?_eq_some_iff.1 hy).1
  have e1 : (xs.take (min xs.length ys.length))[k]? = some x := by rw [List.getElem?_take_of_lt (by omega)]; exact hx
  have e2 : (ys.take (min xs.length ys.length))[k]? = some y := by rw [List.getElem?_take_of_lt (by omega)]; exact hy
  rw [e, e2] at e1
  injection e1 with e1; exact h e1.symm
theorem take_step {α : Type} {xs ys : List α} {k : Nat} {x y : α} (h : xs.take k = ys.take k) (hx : xs[k]? = some x) (hy : ys[k]? = some y) (e : x = y) : xs.take (k+1) = ys.take (k+1) := by
  have hk : k < xs.length := (List.getElem?_eq_some_iff.1 hx).1
  have hk' : k < ys.length := (List.getElem?_eq_some_iff.1 hy).1
  rw [take_eq_succ h hk hk']
  rw [List.getElem?_eq_getElem hk] at hx; rw [List.getElem?_eq_getElem hk'] at hy
  injection hx with hx; injection hy with hy; rw [hx, hy, e]
/-- Two lists of entries, held against each other place by place. -/
def sameB {α : Type} [DecidableEq α] (a b : List α) : Bool := decide (a = b)
theorem sameB_no {α : Type} [DecidableEq α] {xs ys : List α} {k : Nat} {x y : α} (hx : xs[k]? = some x) (hy : ys[k]? = some y) (h : ¬ x = y) : sameB xs ys = false := by
  unfold sameB
  rw [decide_eq_false_iff_not]
  intro e; rw [e, hy] at hx; injection hx with hx; exact h hx.symm
def lessB (a b : GName) : Bool := decide (a.client < b.client) || (decide (a.client = b.client) && decide (a.seq < b.seq))

end Go.Proofs.YtgeimnknmljplaaDoor
/- What audit.Once computes. Conditions: those named in each theorem. -/
namespace Go.Proofs.YtgeimnknmljplaaDoor
open Go Go.RowKit Go.Gv

def onceB (xs : List GEntry) : Bool := decide ((xs.map (·.name)).Nodup)

theorem nodup_step {α : Type} {xs : List α} {k : Nat} {x : α} (hx : xs[k]? = some x) : xs.take (k + 1) = xs.take k ++ [x] := by
  have hk : k < xs.length := (List.getElem?_eq_some_iff.1 hx).1
  rw [List.take_succ_eq_append_getElem hk]
  rw [List.getElem?_eq_getElem hk] at hx
  injection hx with hx; rw [hx]

structure OnceInv (xs : List GEntry) (k : Nat) (m : List (GName × Bool)) : Prop where
  look : ∀ n, (mget m n).getD false = decide (n ∈ (xs.take k).map (·.name))
  nd : ((xs.take k).map (·.name)).Nodup
theorem OnceInv.step {xs : List GEntry} {k : Nat} {m : List (GName × Bool)} (h : OnceInv xs k m) {x : GEntry} (hx : xs[k]? = some x) (hn : (mget m x.name).getD false = false) : OnceInv xs (k + 1) (mset m x.name true) := by
  have hn' : x.name ∉ (xs.take k).map (·.name) := by have := h.look x.name; rw [hn] at this; simpa using this.symm
  constructor
  · intro n
    rw [nodup_step hx]
    by_cases he : n = x.name
    · subst he; rw [mget_mset_same]; simp
    · rw [mget_mset_other m true he, h.look n]
      simp [he]
  · rw [nodup_step hx, List.map_append, List.nodup_append]
    refine ⟨h.nd, by simp, ?_⟩
    intro a ha b hb
    simp at hb; subst hb
    intro e; subst e; exact hn' ha
theorem OnceInv.bad {xs : List GEntry} {k : Nat} {m : List (GName × Bool)} (h : OnceInv xs k m) {x : GEntry} (hx : xs[k]? = some x) (hn : (mget m x.name).getD false = true) : onceB xs = false := by
  have hn' : x.name ∈ (xs.take k).map (·.name) := by have := h.look x.name; rw [hn] at this; simpa using this.symm
  unfold onceB
  rw [decide_eq_false_iff_not]
  intro hd
  have h2 : ((xs.take (k + 1)).map (·.name)).Nodup := List.Nodup.sublist ((List.take_sublist _ _).map _) hd
  rw [nodup_step hx, List.map_append, List.nodup_append] at h2
  exact h2.2.2 _ hn' x.name (by simp) rfl

end Go.Proofs.YtgeimnknmljplaaDoor
/- What the two functions below compute. Conditions: those named in each theorem. -/
namespace Go.Proofs.YtgeimnknmljplaaDoor
open Go Go.RowKit Go.Gv

theorem getU {w : World} {a : Addr} {x : U64} (h : get? U64 w a = some x) : w.cell? a = some (.int .u64 x.v) := get1 rfl h
theorem getI {w : World} {a : Addr} {x : I64} (h : get? I64 w a = some x) : w.cell? a = some (.int .i64 x.v) := get1 rfl h

/-- All of a below all of b. -/
def allBelow (a b : List U64) : Bool := decide (∀ x ∈ a, ∀ y ∈ b, x.v < y.v)
def belowB (a b : List U64) : Bool := allBelow a b && (decide (0 < a.length) && decide (0 < b.length))
theorem allBelow_no {a b : List U64} {i j : Nat} {x y : U64} (hx : a[i]? = some x) (hy : b[j]? = some y) (h : y.v ≤ x.v) : allBelow a b = false := by
  unfold allBelow
  rw [decide_eq_false_iff_not]
  intro hall
  have := hall x (List.mem_of_getElem? hx) y (List.mem_of_getElem? hy)
  omega
theorem mem_take_succ {α : Type} {xs : List α} {k : Nat} {x y : α} (hx : xs[k]? = some x) (h : y ∈ xs.take (k + 1)) : y ∈ xs.take k ∨ y = x := by
  rw [nodup_step hx] at h; simpa using h

end Go.Proofs.YtgeimnknmljplaaDoor
/- What cmp.Compare, cmp.Or and lock.Before compute. Conditions: those named in each theorem. -/
namespace Go.Proofs.YtgeimnknmljplaaDoor
open Go Go.RowKit Go.Gv

def cmpI (a b : Int) : Int := if a < b then -1 else if b < a then 1 else 0
set_option maxHeartbeats 400000 in
theorem compare_any (a b : Int) (w : World) :
    Calls Tryd.prog 45 #[.int .i64 a, .int .i64 b] w fun e w' => e = .returned (.int .i64 (cmpI a b)) ∧ w = w' := by
  by_cases h1 : a < b
  · go_enter Tryd.func45, Tryd.ntmps45
    go_wp2
    go_ret
    exact ⟨ret_int (by unfold cmpI; rw [if_pos h1]), rfl⟩
  · by_cases h2 : b < a
    · go_enter Tryd.func45, Tryd.ntmps45
      go_wp2
      go_ret
      exact ⟨ret_int (by unfold cmpI; rw [if_neg (by omega), if_pos h2]), rfl⟩
    · go_enter Tryd.func45, Tryd.ntmps45
      go_wp2
      go_ret
      exact ⟨ret_int (by unfold cmpI; rw [if_neg (by omega), if_neg (by omega)]), rfl⟩

def orI (xs : List Int) : Int := (xs.find? fun x => x != 0).getD 0
set_option maxHeartbeats 400000 in
theorem or_any (A : Option Addr) (n c : Nat) (xs : List I64) (w : World) (B0 : Nat) (hx : Sl I64 w B0 A n xs) (hn : n ≤ maxLen) :
    Calls Tryd.prog 26 #[.slice A n c] w fun e w' => e = .returned (.int .i64 (orI (xs.map (·.v)))) ∧ w = w' := by
  unfold maxLen at hn
  have H := Lib.hid hx
  clear hx
  go_enter Tryd.func26, Tryd.ntmps26
  go_wp2
  go_loop [5, 8] (fun _ i => ∃ k : Nat, k ≤ n ∧ i = .int .i64 k ∧ ∀ x ∈ xs.take k, x.v = 0) (fun _ i => n - (intOf i).toNat)
  case atStart => exact ⟨0, by omega, rfl, by simp⟩
  case round =>
    obtain ⟨k, hk, rfl, hall⟩ := hrel
    have HA := Lib.hid hall; clear hall
    by_cases hlt : k < n
    · obtain ⟨ad, x, rfl, _, hxk, hgx⟩ := H.out.at_ (k := k) (by omega)
      have HX := Lib.hid hxk; clear hxk
      have hc := getI hgx; clear hgx
      simp only [show Enc.n I64 = 1 from rfl, Nat.mul_one] at hc
      by_cases h0 : x.v = 0
      · have hb : (x.v != 0) = false := by simp [h0]
        have H0 := Lib.hid h0; clear h0
        go_wp2
        go_round
        case rel =>
          refine ⟨k + 1, by omega, by go_num, fun z hz => ?_⟩
          rcases mem_take_succ HX.out hz with h | h
          · exact HA.out z h
          · subst h; exact H0.out
        case measure => simp [intOf] <;> omega
      · have hb : (x.v != 0) = true := by simp [h0]
        go_wp2
        go_ret
        refine ⟨ret_int ?_, rfl⟩
        have hs : xs = xs.take k ++ x :: xs.drop (k + 1) := by
          have hl : k < xs.length := (List.getElem?_eq_some_iff.1 HX.out).1
          have hxx : xs[k] = x := (List.getElem?_eq_some_iff.1 HX.out).2
          rw [← hxx, List.getElem_cons_drop, List.take_append_drop]
        unfold orI
        rw [hs, List.map_append, List.find?_append, List.find?_eq_none.2 (by
          intro y hy
          obtain ⟨z, hz, rfl⟩ := List.mem_map.1 hy
          simp [HA.out z hz])]
        simp [hb]
    · go_wp2
      go_ret
      refine ⟨ret_int ?_, rfl⟩
      unfold orI
      rw [List.find?_eq_none.2 (by
          intro y hy
          obtain ⟨z, hz, rfl⟩ := List.mem_map.1 hy
          simp [HA.out z (by rw [List.take_of_length_le (by have := H.out.1; omega)]; exact hz)])]
      rfl

def beforeI (a b : GName) : Int := orI [cmpI a.client b.client, cmpI a.seq b.seq]
end Go.Proofs.YtgeimnknmljplaaDoor
/- What audit.Rising computes. Conditions: those named in each theorem. -/
namespace Go.Proofs.YtgeimnknmljplaaDoor
open Go Go.RowKit Go.Gv

/-- Does b stand rightly behind a? -/
def riseB (a b : GEntry) : Bool := decide (a.time < b.time) || (decide (b.time = a.time) && decide (beforeI a.name b.name < 0))
def risingB : List GEntry → Bool
  | a :: b :: r => riseB a b && risingB (b :: r)
  | _ => true
theorem risingB_iff : ∀ (xs : List GEntry), risingB xs = true ↔ ∀ k a b, xs[k]? = some a → xs[k + 1]? = some b → riseB a b = true
  | [] => by simp [risingB]
  | [x] => by simp [risingB]
  | x :: y :: r => by
    simp only [risingB, Bool.and_eq_true, risingB_iff (y :: r)]
    constructor
    · rintro ⟨h1, h2⟩ k a b ha hb
      cases k with
      | zero => simp at ha hb; subst ha; subst hb; exact h1
      | succ k => exact h2 k a b (by simpa using ha) (by simpa using hb)
    · intro h
      exact ⟨h 0 x y rfl rfl, fun k a b ha hb => h (k + 1) a b (by simpa using ha) (by simpa using hb)⟩

end Go.Proofs.YtgeimnknmljplaaDoor
/- What audit.Fair computes. Conditions: those named in each theorem. -/
namespace Go.Proofs.YtgeimnknmljplaaDoor
open Go Go.RowKit Go.Gv

/-- A slice of slices of entries reads as a list of lists. -/
def LogsIs (w : World) (B : Nat) (A : Option Addr) (n : Nat) (ls : List (List GEntry)) : Prop :=
  ∃ hs : List Hdr, Sl Hdr w B A n hs ∧ hs.length = ls.length ∧ ∀ (i : Nat) (h : Hdr) (l : List GEntry), hs[i]? = some h → ls[i]? = some l → Sl GEntry w B h.a h.len l ∧ h.len ≤ h.cap ∧ h.cap ≤ maxLen
theorem LogsIs.len {w : World} {B : Nat} {A : Option Addr} {n : Nat} {ls : List (List GEntry)} (h : LogsIs w B A n ls) : ls.length = n := by
  obtain ⟨hs, h1, h2, _⟩ := h; rw [← h2]; exact h1.1
theorem LogsIs.below {w w' : World} {B : Nat} {A : Option Addr} {n : Nat} {ls : List (List GEntry)} (h : LogsIs w B A n ls) (hb : Below B w w') : LogsIs w' B A n ls := by
  obtain ⟨hs, h1, h2, h3⟩ := h
  exact ⟨hs, h1.below hb, h2, fun i h l a b => ⟨(h3 i h l a b).1.below hb, (h3 i h l a b).2⟩⟩
theorem LogsIs.at_ {w : World} {B : Nat} {A : Option Addr} {n : Nat} {ls : List (List GEntry)} (h : LogsIs w B A n ls) {k : Nat} (hk : k < n) :
    ∃ (ad : Addr) (A2 : Option Addr) (n2 c2 : Nat) (l : List GEntry), A = some ad ∧ ad.block < B ∧ ls[k]? = some l ∧ w.cell? (ad.add k) = some (.slice A2 n2 c2) ∧ Sl GEntry w B A2 n2 l ∧ n2 ≤ c2 ∧ c2 ≤ maxLen := by
  obtain ⟨hs, h1, h2, h3⟩ := h
  obtain ⟨ad, hd, e, hb, hx, hg⟩ := h1.at_ hk
  have hl : k < ls.length := by rw [← h2]; rw [h1.1]; exact hk
  have hls : ls[k]? = some ls[k] := List.getElem?_eq_getElem hl
  have hc := get1 (v := Hdr.val hd) rfl hg
  simp only [show Enc.n Hdr = 1 from rfl, Nat.mul_one] at hc
  exact ⟨ad, hd.a, hd.len, hd.cap, ls[k], e, hb, hls, hc, h3 k hd _ hx hls⟩

def fairB (ls : List (List GEntry)) (st : GName → List U64) : Bool :=
  ls.all fun l => (List.range l.length).all fun i => (List.range i).all fun j => !belowB (st (l.getD i default).name) (st (l.getD j default).name)
theorem getD_of {α : Type} {l : List α} {i : Nat} {x d : α} (h : l[i]? = some x) : l.getD i d = x := by simp [List.getD, h]
theorem fairB_iff (ls : List (List GEntry)) (st : GName → List U64) : fairB ls st = true ↔ ∀ l ∈ ls, ∀ (i j : Nat) (b a : GEntry), l[i]? = some b → l[j]? = some a → j < i → belowB (st b.name) (st a.name) = false := by
  unfold fairB
  simp only [List.all_eq_true, List.mem_range, Bool.not_eq_true']
  constructor
  · intro h l hl i j b a hi hj hji
    have := h l hl i (List.getElem?_eq_some_iff.1 hi).1 j hji
    rwa [getD_of hi, getD_of hj] at this
  · intro h l hl i hi j hji
    have hi' : l[i]? = some l[i] := List.getElem?_eq_getElem hi
    have hj' : l[j]? = some (l[j]'(by omega)) := List.getElem?_eq_getElem _
    rw [getD_of hi', getD_of hj']
    exact h l hl i j _ _ hi' hj' hji
theorem fairB_no {ls : List (List GEntry)} {st : GName → List U64} {l : List GEntry} {k i j : Nat} {a b : GEntry} (hl : ls[k]? = some l) (hi : l[i]? = some b) (hj : l[j]? = some a) (hji : j < i) (h : belowB (st b.name) (st a.name) = true) : fairB ls st = false := by
  cases hq : fairB ls st with
  | false => rfl
  | true =>
    have := (fairB_iff ls st).1 hq l (List.mem_of_getElem? hl) i j b a hi hj hji
    rw [h] at this; cases this

end Go.Proofs.YtgeimnknmljplaaDoor
/- What the law of small entries computes. Conditions: those named in each theorem. -/
namespace Go.Proofs.YtgeimnknmljplaaDoor
open Go Go.RowKit Go.Gv

def smallE (e : GEntry) : GEntry := ⟨⟨within e.name.client 2, within e.name.seq 3⟩, default, e.time.tmod 4⟩
def smallL (xs : List GEntry) : List GEntry := (xs.take 8).map smallE
/-- Entries whose numbers fit. -/
def EntryOk (e : GEntry) : Prop := (-9223372036854775808 ≤ e.name.client ∧ e.name.client ≤ 9223372036854775807) ∧ (-9223372036854775808 ≤ e.name.seq ∧ e.name.seq ≤ 9223372036854775807) ∧ 0 ≤ e.time ∧ e.time ≤ 18446744073709551615

theorem within_is (v n r : Int) (w : World) (hr : within v n = r) (hn : n ≤ 9223372036854775807) (hv : -9223372036854775808 ≤ v) (hv2 : v ≤ 9223372036854775807) :
    Calls Tryd.prog 6 #[.int .i64 v, .int .i64 n] w fun e w' => e = .returned (.int .i64 r) ∧ w' = w := by
  subst hr; exact flipC (within_any v n w hn hv hv2)

end Go.Proofs.YtgeimnknmljplaaDoor
/- What Copy, Cut, audit.Agree and wakes compute. Conditions: those named in each theorem. -/
namespace Go.Proofs.YtgeimnknmljplaaDoor
open Go Go.RowKit Go.Gv

/-- Of each two logs one is a beginning of the other one. -/
def agreeB (ls : List (List GEntry)) : Bool := decide (∀ i < ls.length, ∀ j < i, prefixB (ls.getD i []) (ls.getD j []) = true)
theorem agreeB_iff (ls : List (List GEntry)) : agreeB ls = true ↔ ∀ (i j : Nat) (a b : List GEntry), ls[i]? = some a → ls[j]? = some b → j < i → prefixB a b = true := by
  unfold agreeB
  rw [decide_eq_true_eq]
  constructor
  · intro h i j a b hi hj hji
    have := h i (List.getElem?_eq_some_iff.1 hi).1 j hji
    rwa [getD_of hi, getD_of hj] at this
  · intro h i hi j hj
    exact h i j _ _ (by rw [List.getD_eq_getElem?_getD, List.getElem?_eq_getElem hi]; rfl) (by rw [List.getD_eq_getElem?_getD, List.getElem?_eq_getElem (by omega)]; rfl) hj
theorem LogsIs.drewN {w : World} {B : Nat} {A : Option Addr} {n : Nat} {ls : List (List GEntry)} (h : LogsIs w B A n ls) (m : Nat) : LogsIs (w.drewN m) B A n ls := by
  obtain ⟨hs, h1, h2, h3⟩ := h
  exact ⟨hs, h1.drewN_ m, h2, fun i h l a b => ⟨(h3 i h l a b).1.drewN_ m, (h3 i h l a b).2⟩⟩
theorem agreeB_take {ls : List (List GEntry)} {k : Nat} {l : List GEntry} (hl : ls[k]? = some l) (h : agreeB (ls.take k) = true) (h2 : ∀ j a, j < k → ls[j]? = some a → prefixB l a = true) : agreeB (ls.take (k + 1)) = true := by
  rw [agreeB_iff] at h ⊢
  intro i j a b hi hj hji
  have hik : i < k + 1 := by have := (List.getElem?_eq_some_iff.1 hi).1; simp at this; omega
  rw [List.getElem?_take_of_lt hik] at hi
  rw [List.getElem?_take_of_lt (by omega)] at hj
  by_cases he : i = k
  · subst he; rw [hl] at hi; injection hi with hi; subst hi
    exact h2 j b hji hj
  · exact h i j a b (by rw [List.getElem?_take_of_lt (by omega)]; exact hi) (by rw [List.getElem?_take_of_lt (by omega)]; exact hj) hji
theorem agreeB_no {ls : List (List GEntry)} {k j : Nat} {l m : List GEntry} (hl : ls[k]? = some l) (hm : ls[j]? = some m) (hj : j < k) (h : prefixB l m = false) : agreeB ls = false := by
  cases hA : agreeB ls
  · rfl
  · have := (agreeB_iff ls).1 hA k j l m hl hm hj
    rw [h] at this; cases this

end Go.Proofs.YtgeimnknmljplaaDoor
/- AuditGrows returns true, walked. Conditions: those named in each theorem. -/
namespace Go.Proofs.YtgeimnknmljplaaDoor
open Go Go.RowKit Go.Gv

/-- Slices of the call's own, by their address. -/
def OwnA {α : Type} [Enc α] (w : World) (base : Nat) (e : TypeId) (A : Option Addr) (c : Nat) (xs : List α) : Prop := OwnS w base e (.slice A xs.length c) xs
section
variable {α : Type} [Enc α] {w w' : World} {base B : Nat} {e t : TypeId} {A : Option Addr} {c : Nat} {xs ys : List α} {P : Program}
theorem OwnS.ownA {v : Value} (h : OwnS w base e v xs) : ∃ A c, v = .slice A xs.length c ∧ OwnA w base e A c xs ∧ xs.length ≤ c ∧ c ≤ maxLen := by
  obtain ⟨A, c, rfl, _, h1, h2, _⟩ := h.shape
  exact ⟨A, c, rfl, h, h1, h2⟩
theorem OwnA.sl (h : OwnA w base e A c xs) : Sl α w w.heap.size A xs.length xs := by
  obtain ⟨A', c', hv, hs, _⟩ := OwnS.shape h
  injection hv with h1 h2 h3; subst h1; exact hs
theorem OwnA.below (h : OwnA w base e A c xs) (hb : Below w.heap.size w w') : OwnA w' base e A c xs := OwnS.below h hb (Nat.le_refl _)
end

theorem entry_time (x : GEntry) (t : Int) : Enc.enc (⟨x.name, x.hash, t⟩ : GEntry) = (Enc.enc x).set 34 (.int .u64 t) := by
  change GEntry.enc _ = (GEntry.enc x).set 34 _
  unfold GEntry.enc
  rw [List.set_append_right _ _ (by rw [GName.enc_len]; omega), List.set_append_right _ _ (by rw [GHash.enc_len, GName.enc_len]; omega), GName.enc_len, GHash.enc_len]
  rfl
theorem flat_set {α : Type} [Enc α] {x y : α} {j : Nat} {v : Value} (hj : j < Enc.n α) (hy : Enc.enc y = (Enc.enc x).set j v) :
    ∀ (xs : List α) (k : Nat), xs[k]? = some x → (xs.flatMap Enc.enc).set (k * Enc.n α + j) v = (xs.set k y).flatMap Enc.enc
  | [], k, h => by simp at h
  | z :: xs, 0, h => by
    simp at h; subst h
    rw [List.flatMap_cons, List.set_cons_zero, List.flatMap_cons, hy, Nat.zero_mul, Nat.zero_add, List.set_append_left _ _ (by rw [Enc.len]; exact hj)]
  | z :: xs, k + 1, h => by
    have e : (k + 1) * Enc.n α + j - (Enc.enc z).length = k * Enc.n α + j := by rw [Enc.len, Nat.add_mul]; omega
    rw [List.flatMap_cons, List.set_cons_succ, List.flatMap_cons, List.set_append_right _ _ (by rw [Enc.len, Nat.add_mul]; omega), e, flat_set hj hy xs k (by simpa using h)]
theorem OwnA.poke {α : Type} [Enc α] {w : World} {base e c g k j : Nat} {xs : List α} {x y : α} {v : Value} (h : OwnA w base e (some ⟨g, 0, none⟩) c xs) (hk : xs[k]? = some x) (hj : j < Enc.n α) (hy : Enc.enc y = (Enc.enc x).set j v) :
    OwnA (w.setCell ⟨g, k * Enc.n α + j, none⟩ v) base e (some ⟨g, 0, none⟩) c (xs.set k y) := by
  rcases h with ⟨h0, ⟨h1, _⟩ | ⟨g', cap, cur, h1, h2, h3, h4, h5, h6, h7⟩⟩
  · cases h1
  · injection h1 with h1 _ h1c; injection h1 with h1; injection h1 with h1; subst h1; subst h1c
    have hh := heap_setCell_same w g (k * Enc.n α + j) cur e v h3
    refine ⟨by rw [flat_len, List.length_set], .inr ⟨g, c, _, by rw [List.length_set], h2, hh, by rw [List.length_set]; exact h4, h5, by simpa using h6, ?_⟩⟩
    rw [List.length_set, Array.toList_setIfInBounds, List.take_set, h7, flat_set hj hy xs k hk]
theorem add_zeroA (g n : Nat) : (⟨g, 0, none⟩ : Addr).add n = ⟨g, n, none⟩ := by unfold Addr.add; split <;> simp_all

theorem _root_.Go.Gv.Sl.step {α : Type} [Enc α] {w w' : World} {A : Option Addr} {n : Nat} {xs : List α} (h : Sl α w w.heap.size A n xs) (hb : Below w.heap.size w w') : Sl α w' w'.heap.size A n xs := (h.below hb).more hb.size

theorem prefixB_takes (l : List GEntry) (i j : Nat) : prefixB (l.take i) (l.take j) = true := by
  unfold prefixB
  rw [decide_eq_true_eq, List.take_take, List.take_take, List.length_take, List.length_take]
  congr 1; omega
theorem prefixB_of {l a b : List GEntry} {i j : Nat} (ha : a = l.take i) (hb : b = l.take j) : prefixB a b = true := by rw [ha, hb]; exact prefixB_takes l i j
theorem agreeB_takes (l : List GEntry) (ls : List (List GEntry)) (h : ∀ a ∈ ls, ∃ k, a = l.take k) : agreeB ls = true := by
  rw [agreeB_iff]
  intro i j a b hi hj _
  obtain ⟨k, rfl⟩ := h a (List.mem_of_getElem? hi)
  obtain ⟨k2, rfl⟩ := h b (List.mem_of_getElem? hj)
  exact prefixB_takes l k k2

def Logs2 (w : World) (B : Nat) : List Hdr → List (List GEntry) → Prop
  | [], [] => True
  | h :: hs, l :: ls => (Sl GEntry w B h.a h.len l ∧ h.len ≤ h.cap ∧ h.cap ≤ maxLen) ∧ Logs2 w B hs ls
  | _, _ => False
theorem Logs2.len {w : World} {B : Nat} : ∀ {hs : List Hdr} {ls : List (List GEntry)}, Logs2 w B hs ls → hs.length = ls.length
  | [], [], _ => rfl
  | _ :: hs, _ :: ls, h => by simp [Logs2.len h.2]
  | [], _ :: _, h => h.elim
  | _ :: _, [], h => h.elim
theorem Logs2.get {w : World} {B : Nat} : ∀ {hs : List Hdr} {ls : List (List GEntry)}, Logs2 w B hs ls → ∀ (i : Nat) (h : Hdr) (l : List GEntry), hs[i]? = some h → ls[i]? = some l → Sl GEntry w B h.a h.len l ∧ h.len ≤ h.cap ∧ h.cap ≤ maxLen
  | [], [], _, i, h, l, h1, _ => by simp at h1
  | x :: hs, y :: ls, H, 0, h, l, h1, h2 => by
    simp at h1 h2; subst h1; subst h2; exact H.1
  | x :: hs, y :: ls, H, i + 1, h, l, h1, h2 => Logs2.get H.2 i h l (by simpa using h1) (by simpa using h2)
theorem LogsIs.new {w : World} {B n p : Nat} {t : TypeId} {cs : Array Value} {hs : List Hdr} {ls : List (List GEntry)} (h : Logs2 w B hs ls) (hB : B ≤ w.heap.size) (hcs : cs.toList = hs.flatMap Enc.enc) (hn : hs.length = n) (hp : p = w.heap.size) :
    LogsIs (w.alloc (.cells cs t)) (w.heap.size + 1) (some ⟨p, 0, none⟩) n ls :=
  ⟨hs, Sl.new_ hcs hn hp (by omega), h.len, fun i hd l h1 h2 => by
    obtain ⟨a, b, c⟩ := h.get i hd l h1 h2
    exact ⟨((a.below ((Below.refl _ _).alloc hB _))).more (by omega), b, c⟩⟩

end Go.Proofs.YtgeimnknmljplaaDoor
/- A map of stamps under construction; AuditTurned returns true, walked. Conditions: those named in each theorem. -/
namespace Go.Proofs.YtgeimnknmljplaaDoor
open Go Go.RowKit Go.Gv

theorem _root_.Go.Gv.Sl.grown {α : Type} [Enc α] {w w' : World} {B : Nat} {A : Option Addr} {n : Nat} {xs : List α} {row : Option Nat} (h : Sl α w B A n xs) (hg : w.grownBy w' row) (hB : B ≤ w.heap.size) (hne : 0 < n → ∀ ad, A = some ad → row ≠ some ad.block) : Sl α w' B A n xs := by
  refine ⟨h.1, fun hn => ?_⟩
  obtain ⟨ad, e, hb, hc⟩ := h.2 hn
  exact ⟨ad, e, hb, fun k x hx => (get?_keep (hg.block _ (by rw [add_block]; omega) (by rw [add_block]; exact fun h => hne hn ad e h.symm))).trans (hc k x hx)⟩
theorem _root_.Go.Gv.Sl.block_lt {α : Type} [Enc α] {w : World} {B : Nat} {A : Option Addr} {n : Nat} {xs : List α} (h : Sl α w B A n xs) (hn : 0 < n) {ad : Addr} (ha : A = some ad) : ad.block < B := by
  obtain ⟨ad', e, hb, _⟩ := h.2 hn
  rw [ha] at e; injection e with e; subst e; exact hb
theorem append_spec {α : Type} [Enc α] {w : World} {base B : Nat} {e t : TypeId} {v : Value} {xs ys : List α} {P : Program} {by8 : Nat} {A : Option Addr} {m c : Nat} {ty : TypeId} {r : Result Value} (hrun : (gAppend #[t, t] ty #[v, .slice A m c]).run P w = r) (E : ElemI P t e α by8) (hown : OwnS w base e v xs) (hr : Sl α w B A m ys) (h63 : xs.length + m ≤ maxLen) (hbytes : (xs.length + m) * by8 ≤ 140737488355328) (hbase : base ≤ w.heap.size) :
    ∃ v' w', r = .ok v' w' ∧ OwnS w' base e v' (xs ++ ys) ∧ w.grownBy w' v.ownBlock ∧ (v'.ownBlock = v.ownBlock ∨ v'.ownBlock = some w.heap.size) := by
  obtain ⟨v', w', h, rest⟩ := gAppend_S E hown hr h63 hbytes hbase ty
  exact ⟨v', w', hrun.symm.trans h, rest⟩

section
variable {w w' : World} {r : Nat} {ob ob' : Option Nat} {m : List (GName × Hdr)} {st : GName → List U64}
end

/-! ### AuditTurned, plain -/
def entE (i : Nat) (t : Int) : GEntry := ⟨⟨i, 1⟩, default, t⟩
def entL (T : List Int) : List GEntry := T.mapIdx entE
def stOf (T : List Int) (k : GName) : List U64 := if k.seq = 1 ∧ 0 ≤ k.client then (match T[k.client.toNat]? with | some t => [⟨t⟩, ⟨t + 1⟩] | none => []) else []
structure TimesOk (T : List Int) (L : Int) : Prop where
  up : ∀ (i j : Nat) (a b : Int), T[i]? = some a → T[j]? = some b → i < j → a + 1 < b
  le : ∀ t ∈ T, 0 ≤ t ∧ t + 1 ≤ L
  l0 : 0 ≤ L
  l6 : L ≤ 6 * T.length
theorem stOf_snoc (T : List Int) (t : Int) : (fun k' => if k' = (⟨(T.length : Int), 1⟩ : GName) then [⟨t⟩, ⟨t + 1⟩] else stOf T k') = stOf (T ++ [t]) := by
  funext k
  by_cases e : k = ⟨(T.length : Int), 1⟩
  · subst e
    simp [stOf]
  · rw [if_neg e]
    unfold stOf
    by_cases hk : k.seq = 1 ∧ 0 ≤ k.client
    · rw [if_pos hk, if_pos hk]
      have hne : k.client.toNat ≠ T.length := fun h => e (by obtain ⟨c, s⟩ := k; simp only at hk h; congr 1 <;> omega)
      by_cases hlt : k.client.toNat < T.length
      · rw [List.getElem?_append_left hlt]
      · rw [List.getElem?_eq_none (by omega), List.getElem?_eq_none (by simp; omega)]
    · rw [if_neg hk, if_neg hk]
theorem TimesOk.snoc {T : List Int} {L x : Int} (h : TimesOk T L) (h0 : 0 ≤ x) (h4 : x ≤ 4) : TimesOk (T ++ [L + 1 + x]) (L + 1 + x + 1) := by
  have hle := h.le; have hl0 := h.l0; have hl6 := h.l6
  refine ⟨fun i j a b hi hj hij => ?_, fun t ht => ?_, by omega, by simp; omega⟩
  · have hj' := (List.getElem?_eq_some_iff.1 hj).1
    simp at hj'
    rw [List.getElem?_append_left (by omega)] at hi
    by_cases hjl : j < T.length
    · rw [List.getElem?_append_left hjl] at hj
      exact h.up i j a b hi hj hij
    · have : j = T.length := by omega
      subst this
      simp at hj
      have := hle a (List.mem_of_getElem? hi)
      omega
  · simp at ht
    rcases ht with ht | rfl
    · have := hle t ht; omega
    · omega
theorem entL_snoc (T : List Int) (t : Int) : entL (T ++ [t]) = entL T ++ [entE T.length t] := by simp [entL, List.mapIdx_append]
theorem entL_get {T : List Int} {i : Nat} {e : GEntry} (h : (entL T)[i]? = some e) : ∃ t, T[i]? = some t ∧ e = entE i t := by
  simp only [entL, List.getElem?_mapIdx, Option.map_eq_some_iff] at h
  obtain ⟨t, h1, h2⟩ := h; exact ⟨t, h1, h2.symm⟩
theorem stOf_at {T : List Int} {i : Nat} {t : Int} (h : T[i]? = some t) : stOf T (entE i t).name = [⟨t⟩, ⟨t + 1⟩] := by simp [stOf, entE, h]
theorem belowB_pair (s t : Int) : belowB [⟨s⟩, ⟨s + 1⟩] [⟨t⟩, ⟨t + 1⟩] = decide (s + 1 < t) := by
  rw [Bool.eq_iff_iff]
  simp [belowB, allBelow]
  omega
theorem fair_entL {T : List Int} {L : Int} (h : TimesOk T L) (ls : List (List GEntry)) (hls : ∀ l ∈ ls, ∃ k, l = (entL T).take k) : fairB ls (stOf T) = true := by
  rw [fairB_iff]
  intro l hl i j b a hi hj hji
  obtain ⟨k, rfl⟩ := hls l hl
  have hi' : (entL T)[i]? = some b := by rw [List.getElem?_take] at hi; split at hi; exact hi; cases hi
  have hj' : (entL T)[j]? = some a := by rw [List.getElem?_take] at hj; split at hj; exact hj; cases hj
  obtain ⟨t, h1, rfl⟩ := entL_get hi'
  obtain ⟨s, h2, rfl⟩ := entL_get hj'
  rw [stOf_at h1, stOf_at h2, belowB_pair, decide_eq_false_iff_not]
  have := h.up j i s t h2 h1 hji
  omega
theorem unfair_swap {T : List Int} {L : Int} (h : TimesOk T L) {i : Nat} {a b : GEntry} (ha : (entL T)[i]? = some a) (hb : (entL T)[i + 1]? = some b) (l : List GEntry) : fairB [l, ((entL T).set i b).set (i + 1) a] (stOf T) = false := by
  obtain ⟨s, h1, rfl⟩ := entL_get ha
  obtain ⟨t, h2, rfl⟩ := entL_get hb
  have l1 := (List.getElem?_eq_some_iff.1 ha).1
  have l2 := (List.getElem?_eq_some_iff.1 hb).1
  refine fairB_no (k := 1) (i := i + 1) (j := i) (l := ((entL T).set i (entE (i + 1) t)).set (i + 1) (entE i s)) rfl ?_ ?_ (by omega) ?_ (a := entE (i + 1) t) (b := entE i s)
  · rw [List.getElem?_set_self (by simpa using l2)]
  · rw [List.getElem?_set_ne (by omega), List.getElem?_set_self l1]
  · rw [stOf_at h1, stOf_at h2, belowB_pair, decide_eq_true_eq]
    exact h.up i (i + 1) s t h1 h2 (by omega)
theorem fair_none (ls : List (List GEntry)) : fairB ls (fun _ => []) = true := by
  rw [fairB_iff]; intro l _ i j b a _ _ _; rfl
end Go.Proofs.YtgeimnknmljplaaDoor
/- A whole element written into a slice of the call's own. Conditions: those named in each theorem. -/
namespace Go.Proofs.YtgeimnknmljplaaDoor
open Go Go.RowKit Go.Gv

def setSeg : List Value → Nat → List Value → List Value
  | l, _, [] => l
  | l, p, v :: vs => setSeg (l.set p v) (p + 1) vs
theorem setSeg_mid : ∀ (b a pre rest : List Value), a.length = b.length → setSeg (pre ++ (a ++ rest)) pre.length b = pre ++ (b ++ rest)
  | [], a, pre, rest, h => by
    have : a = [] := List.eq_nil_of_length_eq_zero h
    subst this; rfl
  | v :: vs, [], pre, rest, h => by simp at h
  | v :: vs, u :: us, pre, rest, h => by
    unfold setSeg
    rw [List.set_append_right _ _ (Nat.le_refl _), Nat.sub_self, List.cons_append, List.set_cons_zero]
    have := setSeg_mid vs us (pre ++ [v]) rest (by simpa using h)
    simpa using this
theorem putFrom_heap {g o e : Nat} : ∀ (vs : List Value) (i : Nat) (w : World) (cur : Array Value), w.heap[g]? = some (.cells cur e (0, 0)) →
    ∃ cur', (World.putFrom w ⟨g, o, none⟩ i vs).heap[g]? = some (.cells cur' e (0, 0)) ∧ cur'.toList = setSeg cur.toList (o + i) vs ∧ cur'.size = cur.size
  | [], i, w, cur, h => ⟨cur, h, rfl, rfl⟩
  | v :: vs, i, w, cur, h => by
    have ha : (⟨g, o, none⟩ : Addr).add i = ⟨g, o + i, none⟩ := by unfold Addr.add; split <;> simp_all
    obtain ⟨cur', h1, h2, h3⟩ := putFrom_heap (o := o) vs (i + 1) (w.setCell ⟨g, o + i, none⟩ v) _ (heap_setCell_same w g (o + i) cur e v h)
    refine ⟨cur', ?_, ?_, by simpa using h3⟩
    · unfold World.putFrom; rw [ha]; exact h1
    · rw [h2, Array.toList_setIfInBounds]; rfl
theorem putFrom_below {B g o : Nat} (hB : B ≤ g) : ∀ (vs : List Value) (i : Nat) (w0 w : World), Below B w0 w → Below B w0 (World.putFrom w ⟨g, o, none⟩ i vs)
  | [], _, _, _, h => h
  | v :: vs, i, w0, w, h => putFrom_below hB vs (i + 1) w0 _ (h.setCell (by rw [add_block]; exact hB) v)
theorem putCells_below {B g o : Nat} {w0 w : World} (h : Below B w0 w) (hB : B ≤ g) (vs : List Value) : Below B w0 (World.putCells w ⟨g, o, none⟩ vs) := by
  unfold World.putCells; exact putFrom_below hB vs 0 w0 w h
theorem OwnA.put {α : Type} [Enc α] {w : World} {base e c g k : Nat} {xs : List α} (h : OwnA w base e (some ⟨g, 0, none⟩) c xs) (hk : k < xs.length) (y : α) :
    OwnA (World.putCells w ⟨g, k * Enc.n α, none⟩ (Enc.enc y)) base e (some ⟨g, 0, none⟩) c (xs.set k y) ∧ blkFree (World.putCells w ⟨g, k * Enc.n α, none⟩ (Enc.enc y)) g = true := by
  rcases h with ⟨h0, ⟨h1, _⟩ | ⟨g', cap, cur, h1, h2, h3, h4, h5, h6, h7⟩⟩
  · cases h1
  · injection h1 with h1 _ h1c; injection h1 with h1; injection h1 with h1; subst h1; subst h1c
    unfold World.putCells
    obtain ⟨cur', e1, e2, e3⟩ := putFrom_heap (o := k * Enc.n α) (Enc.enc y) 0 w cur h3
    refine ⟨⟨by rw [flat_len, List.length_set], .inr ⟨g, c, cur', by rw [List.length_set], h2, e1, by rw [List.length_set]; exact h4, h5, by rw [e3]; exact h6, ?_⟩⟩, by unfold blkFree; rw [e1]; rfl⟩
    have hx : xs = xs.take k ++ xs[k] :: xs.drop (k + 1) := by rw [List.getElem_cons_drop, List.take_append_drop]
    have hpre : ((xs.take k).flatMap Enc.enc).length = k * Enc.n α := by rw [flat_len, List.length_take, Nat.min_eq_left (by omega)]
    have hcur : cur.toList = (xs.take k).flatMap Enc.enc ++ (Enc.enc xs[k] ++ ((xs.drop (k + 1)).flatMap Enc.enc ++ cur.toList.drop (xs.length * Enc.n α))) := by
      conv => lhs; rw [← List.take_append_drop (xs.length * Enc.n α) cur.toList, h7]
      conv => lhs; rw [hx]
      simp only [List.flatMap_append, List.flatMap_cons, List.append_assoc]
      rw [← hx]
    have hset : xs.set k y = xs.take k ++ y :: xs.drop (k + 1) := by
      rw [List.set_eq_take_append_cons_drop, if_pos hk]
    have e4 : cur'.toList = (xs.set k y).flatMap Enc.enc ++ cur.toList.drop (xs.length * Enc.n α) := by
      have := setSeg_mid (Enc.enc y) (Enc.enc xs[k]) ((xs.take k).flatMap Enc.enc) ((xs.drop (k + 1)).flatMap Enc.enc ++ cur.toList.drop (xs.length * Enc.n α)) (by rw [Enc.len, Enc.len])
      rw [hpre, ← hcur] at this
      rw [e2, Nat.add_zero, this, hset]
      simp only [List.flatMap_append, List.flatMap_cons, List.append_assoc]
    rw [e4, List.length_set, List.take_append_of_le_length (by rw [flat_len, List.length_set]; exact Nat.le_refl _), List.take_of_length_le (by rw [flat_len, List.length_set]; exact Nat.le_refl _)]
end Go.Proofs.YtgeimnknmljplaaDoor
/- Slices of slices that the call owns. Conditions: those named in each theorem. -/
namespace Go.Proofs.YtgeimnknmljplaaDoor
open Go Go.RowKit Go.Gv

/-- Headers that read as lists, none of them in block ob. -/
def RowsAt {α : Type} [Enc α] (w : World) (ob : Option Nat) : List Hdr → List (List α) → Prop
  | [], [] => True
  | h :: hs, l :: ls => (Sl α w w.heap.size h.a h.len l ∧ h.len ≤ h.cap ∧ h.cap ≤ maxLen ∧ (0 < h.len → ∀ ad, h.a = some ad → ob ≠ some ad.block)) ∧ RowsAt w ob hs ls
  | _, _ => False
section
variable {α : Type} [Enc α] {w w' : World} {ob ob' : Option Nat}
theorem RowsAt.len : ∀ {hs : List Hdr} {ls : List (List α)}, RowsAt w ob hs ls → hs.length = ls.length
  | [], [], _ => rfl
  | _ :: hs, _ :: ls, h => by simp [RowsAt.len h.2]
  | [], _ :: _, h => h.elim
  | _ :: _, [], h => h.elim
theorem RowsAt.get : ∀ {hs : List Hdr} {ls : List (List α)}, RowsAt w ob hs ls → ∀ (i : Nat) (h : Hdr) (l : List α), hs[i]? = some h → ls[i]? = some l → Sl α w w.heap.size h.a h.len l ∧ h.len ≤ h.cap ∧ h.cap ≤ maxLen ∧ (0 < h.len → ∀ ad, h.a = some ad → ob ≠ some ad.block)
  | [], [], _, i, h, l, h1, _ => by simp at h1
  | x :: hs, y :: ls, H, 0, h, l, h1, h2 => by
    simp at h1 h2; subst h1; subst h2; exact H.1
  | x :: hs, y :: ls, H, i + 1, h, l, h1, h2 => RowsAt.get H.2 i h l (by simpa using h1) (by simpa using h2)
theorem RowsAt.step (hb : Below w.heap.size w w') : ∀ {hs : List Hdr} {ls : List (List α)}, RowsAt w ob hs ls → RowsAt w' ob hs ls
  | [], [], h => h
  | _ :: _, _ :: _, h => ⟨⟨h.1.1.stepB hb, h.1.2⟩, RowsAt.step hb h.2⟩
  | [], _ :: _, h => h.elim
  | _ :: _, [], h => h.elim
theorem RowsAt.grown (hg : w.grownBy w' ob) (ho : ob' = ob ∨ ob' = some w.heap.size) : ∀ {hs : List Hdr} {ls : List (List α)}, RowsAt w ob hs ls → RowsAt w' ob' hs ls
  | [], [], h => h
  | x :: _, _ :: _, h => by
    obtain ⟨⟨h1, h2, h3, h4⟩, hr⟩ := h
    refine ⟨⟨(h1.grown hg (Nat.le_refl _) h4).more hg.size, h2, h3, fun hn ad ha => ?_⟩, RowsAt.grown hg ho hr⟩
    rcases ho with rfl | rfl
    · exact h4 hn ad ha
    · intro e; injection e with e
      have := h1.block_lt hn ha; omega
  | [], _ :: _, h => h.elim
  | _ :: _, [], h => h.elim
theorem RowsAt.snoc {h : Hdr} {l : List α} (hl : Sl α w w.heap.size h.a h.len l ∧ h.len ≤ h.cap ∧ h.cap ≤ maxLen ∧ (0 < h.len → ∀ ad, h.a = some ad → ob ≠ some ad.block)) : ∀ {hs : List Hdr} {ls : List (List α)}, RowsAt w ob hs ls → RowsAt w ob (hs ++ [h]) (ls ++ [l])
  | [], [], _ => ⟨hl, trivial⟩
  | _ :: _, _ :: _, h => ⟨h.1, RowsAt.snoc hl h.2⟩
  | [], _ :: _, h => h.elim
  | _ :: _, [], h => h.elim

/-- A slice of slices, all of the call's own. -/
def OwnRows (α : Type) [Enc α] (w : World) (base : Nat) (e : TypeId) (v : Value) (ls : List (List α)) : Prop := ∃ hs : List Hdr, OwnS w base e v hs ∧ RowsAt w v.ownBlock hs ls
variable {base : Nat} {e : TypeId} {v : Value} {ls : List (List α)}
theorem OwnRows.nil (w : World) (base : Nat) (e : TypeId) : OwnRows α w base e (.slice none 0 0) [] := ⟨[], OwnS.nil _ _ _, trivial⟩
theorem OwnRows.step (h : OwnRows α w base e v ls) (hb : Below w.heap.size w w') : OwnRows α w' base e v ls := by
  obtain ⟨hs, h1, h2⟩ := h
  exact ⟨hs, h1.step hb, h2.step hb⟩
theorem OwnRows.ownA (h : OwnRows α w base e v ls) : ∃ (A : Option Addr) (c : Nat), v = .slice A ls.length c ∧ ls.length ≤ c ∧ c ≤ maxLen := by
  obtain ⟨hs, h1, h2⟩ := h
  obtain ⟨A, c, rfl, _, hc, hm⟩ := OwnS.ownA h1
  exact ⟨A, c, by rw [h2.len], by rw [← h2.len]; exact hc, hm⟩
end
theorem OwnRows.logs {w : World} {base : Nat} {e : TypeId} {A : Option Addr} {n c : Nat} {ls : List (List GEntry)} (h : OwnRows GEntry w base e (.slice A n c) ls) : LogsIs w w.heap.size A n ls := by
  obtain ⟨hs, h1, h2⟩ := h
  obtain ⟨A', c', hv, h3, hc, hm⟩ := OwnS.ownA h1
  injection hv with e1 e2 e3
  subst e1; subst e2
  exact ⟨hs, h3.sl, h2.len, fun i hd l a b => by
    obtain ⟨g1, g2, g3, _⟩ := h2.get i hd l a b
    exact ⟨g1, g2, g3⟩⟩
theorem LogsIs.stepB {w w' : World} {A : Option Addr} {n : Nat} {ls : List (List GEntry)} (h : LogsIs w w.heap.size A n ls) (hb : Below w.heap.size w w') : LogsIs w' w'.heap.size A n ls := by
  obtain ⟨hs, h1, h2, h3⟩ := h
  exact ⟨hs, h1.stepB hb, h2, fun i hd l a b => ⟨(h3 i hd l a b).1.stepB hb, (h3 i hd l a b).2⟩⟩
theorem OwnA.stepB {α : Type} [Enc α] {w w' : World} {base : Nat} {e : TypeId} {A : Option Addr} {c : Nat} {xs : List α} (h : OwnA w base e A c xs) (hb : Below w.heap.size w w') : OwnA w' base e A c xs := OwnS.step h hb
end Go.Proofs.YtgeimnknmljplaaDoor
