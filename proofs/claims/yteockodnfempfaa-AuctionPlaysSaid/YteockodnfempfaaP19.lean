/- The library's stable sort of bids, of any length. Conditions: those named in each theorem. -/
import Derived.Test.YteockodnfempfaaP1
import Derived.Sort.LotA
import Derived.Sort.WalkA
import Derived.Test.YteockodnfempfaaP3
import Derived.Test.YteockodnfempfaaP2
/- Merging in place, as the library does it: what the plain steps mean. Conditions: those named in each theorem. -/
namespace Go.Gv
open Go Go.Sort Go.Proofs
section
variable {α : Type} [Inhabited α]
/-- n elements from place a on. -/
def sgn (d : Array α) (a n : Nat) : List α := (List.range n).map fun i => d[a + i]!
def sg (d : Array α) (a b : Nat) : List α := sgn d a (b - a)
theorem sgn_add (d : Array α) (a m n : Nat) : sgn d a (m + n) = sgn d a m ++ sgn d (a + m) n := by
  unfold sgn
  rw [List.range_add, List.map_append, List.map_map]
  congr 1
  refine List.map_congr_left fun i _ => ?_
  show d[a + (m + i)]! = d[a + m + i]!
  rw [Nat.add_assoc]
theorem sgn_eq {d d' : Array α} {a c n : Nat} (h : ∀ i < n, d'[a + i]! = d[c + i]!) : sgn d' a n = sgn d c n := by
  unfold sgn
  refine List.map_congr_left fun i hi => h i (List.mem_range.1 hi)
theorem sg_split (d : Array α) {a c b : Nat} (h1 : a ≤ c) (h2 : c ≤ b) : sg d a b = sg d a c ++ sg d c b := by
  unfold sg
  have := sgn_add d a (c - a) (b - c)
  rw [show a + (c - a) = c by omega, show c - a + (b - c) = b - a by omega] at this
  exact this
theorem sg_same {d d' : Array α} {a b : Nat} (h : ∀ i, a ≤ i → i < b → d'[i]! = d[i]!) : sg d' a b = sg d a b := sgn_eq fun i hi => h _ (by omega) (by omega)
theorem sg_shift {d d' : Array α} {a b c e : Nat} (hl : b - a = e - c) (h : ∀ i, i < b - a → d'[a + i]! = d[c + i]!) : sg d' a b = sg d c e := by
  unfold sg
  rw [← hl]
  exact sgn_eq h
theorem sg_nil (d : Array α) (a : Nat) : sg d a a = [] := by unfold sg sgn; simp
theorem sg_none (d : Array α) {a b : Nat} (h : b ≤ a) : sg d a b = [] := by unfold sg sgn; rw [show b - a = 0 by omega]; rfl
theorem mem_sg {d : Array α} {a b : Nat} {x : α} : x ∈ sg d a b ↔ ∃ i, a ≤ i ∧ i < b ∧ d[i]! = x := by
  unfold sg sgn
  rw [List.mem_map]
  constructor
  · rintro ⟨i, hi, rfl⟩
    have := List.mem_range.1 hi
    exact ⟨a + i, by omega, by omega, rfl⟩
  · rintro ⟨i, h1, h2, rfl⟩
    exact ⟨i - a, List.mem_range.2 (by omega), by rw [show a + (i - a) = i by omega]⟩
theorem sg_all (d : Array α) : sg d 0 d.size = d.toList := by
  unfold sg sgn
  refine List.ext_getElem (by simp) fun i h1 h2 => ?_
  have hi : i < d.size := by simpa using h2
  simp [hi]
/-! ### The same elements, those of one key in their order -/
variable (key : α → Int)
def StabE (l L : List α) : Prop := ∀ k, l.filter (fun x => decide (key x = k)) = L.filter (fun x => decide (key x = k))
variable {key}
omit [Inhabited α] in
theorem StabE.rf (l : List α) : StabE key l l := fun _ => rfl
omit [Inhabited α] in
theorem StabE.tr {a b c : List α} (h1 : StabE key a b) (h2 : StabE key b c) : StabE key a c := fun k => (h1 k).trans (h2 k)
omit [Inhabited α] in
theorem StabE.sm {a b : List α} (h : StabE key a b) : StabE key b a := fun k => (h k).symm
omit [Inhabited α] in
theorem StabE.app {a b c d : List α} (h1 : StabE key a b) (h2 : StabE key c d) : StabE key (a ++ c) (b ++ d) := fun k => by
  rw [List.filter_append, List.filter_append, h1 k, h2 k]
omit [Inhabited α] in
theorem StabE.mem {a b : List α} (h : StabE key a b) {x : α} : x ∈ a ↔ x ∈ b := by
  have e := congrArg (fun l => x ∈ l) (h (key x))
  simpa using e
omit [Inhabited α] in
theorem StabE.turn {X Y : List α} (h : ∀ x ∈ X, ∀ y ∈ Y, key x ≠ key y) : StabE key (X ++ Y) (Y ++ X) := fun k => by
  rw [List.filter_append, List.filter_append]
  by_cases hx : ∃ x ∈ X, key x = k
  · obtain ⟨x, hx, hk⟩ := hx
    have : Y.filter (fun x => decide (key x = k)) = [] := by
      rw [List.filter_eq_nil_iff]
      intro y hy
      have := h x hx y hy
      simp; omega
    rw [this]; simp
  · have : X.filter (fun x => decide (key x = k)) = [] := by
      rw [List.filter_eq_nil_iff]
      intro y hy
      simp
      exact fun e => hx ⟨y, hy, e⟩
    rw [this]; simp
omit [Inhabited α] in
theorem insL_stab (x : α) : ∀ (s : List α), Falls key s → StabE key (insL key x s) (s ++ [x])
  | [], _ => StabE.rf _
  | y :: s, h => by
    unfold insL
    unfold Falls at h
    rw [List.pairwise_cons] at h
    split
    · rename_i hlt
      have := StabE.turn (key := key) (X := [x]) (Y := y :: s) (fun a ha b hb => by
        simp only [List.mem_singleton] at ha
        subst ha
        rcases List.mem_cons.1 hb with rfl | hb
        · omega
        · have := h.1 b hb; omega)
      exact this
    · have ih := insL_stab x s h.2
      have := StabE.app (key := key) (StabE.rf [y]) ih
      simpa using this
omit [Inhabited α] in
theorem sortL_stab (l : List α) : StabE key l (sortL key l) := by
  have : ∀ (n : Nat) (l : List α), l.length = n → StabE key l (sortL key l) := by
    intro n
    induction n with
    | zero => intro l h; obtain rfl := List.eq_nil_of_length_eq_zero h; exact StabE.rf _
    | succ n ih =>
      intro l h
      have hne : l ≠ [] := by intro e; subst e; simp at h
      have e := List.dropLast_concat_getLast hne
      rw [← e, sortL_snoc]
      refine StabE.tr ?_ (insL_stab _ _ (falls_sortL key _)).sm
      exact StabE.app (ih _ (by simp [h])) (StabE.rf _)
  exact this _ l rfl
omit [Inhabited α] in
theorem falls_one : ∀ {l L : List α}, Falls key l → Falls key L → StabE key l L → l = L
  | [], [], _, _, _ => rfl
  | [], b :: L, _, _, h => by have := (h.mem (x := b)).2 (by simp); simp at this
  | a :: l, [], _, _, h => by have := (h.mem (x := a)).1 (by simp); simp at this
  | a :: l, b :: L, h1, h2, h => by
    unfold Falls at h1 h2
    rw [List.pairwise_cons] at h1 h2
    have hab : key a = key b := by
      have m1 := (h.mem (x := a)).1 (by simp)
      have m2 := (h.mem (x := b)).2 (by simp)
      have k1 : key a ≤ key b := by
        rcases List.mem_cons.1 m1 with e | e
        · rw [e]; exact Int.le_refl _
        · exact h2.1 a e
      have k2 : key b ≤ key a := by
        rcases List.mem_cons.1 m2 with e | e
        · rw [e]; exact Int.le_refl _
        · exact h1.1 b e
      omega
    have e := h (key a)
    rw [List.filter_cons_of_pos (by simp), List.filter_cons_of_pos (by simp [hab])] at e
    injection e with e1 _
    subst e1
    rw [falls_one h1.2 h2.2 (fun k => by
      have := h k
      by_cases hk : key a = k
      · rw [List.filter_cons_of_pos (by simp [hk]), List.filter_cons_of_pos (by simp [hk])] at this
        injection this
      · rw [List.filter_cons_of_neg (by simp [hk]), List.filter_cons_of_neg (by simp [hk])] at this
        exact this)]
omit [Inhabited α] in
theorem sortL_one {l L : List α} (h1 : Falls key L) (h2 : StabE key l L) : L = sortL key l :=
  falls_one h1 (falls_sortL key l) (h2.sm.tr (sortL_stab l))
/-! ### By places -/
variable (key)
def FallsI (d : Array α) (a b : Nat) : Prop := ∀ i j, a ≤ i → i < j → j < b → key d[j]! ≤ key d[i]!
structure Merged (d d' : Array α) (a b : Nat) : Prop where
  size : d'.size = d.size
  out : ∀ x, x < a ∨ b ≤ x → d'[x]! = d[x]!
  falls : FallsI key d' a b
  stab : StabE key (sg d a b) (sg d' a b)
variable {key}
theorem fallsI_list {d : Array α} (h : FallsI key d 0 d.size) : Falls key d.toList := by
  unfold Falls
  rw [List.pairwise_iff_getElem]
  intro i j hi hj hij
  have hi' : i < d.size := by simpa using hi
  have hj' : j < d.size := by simpa using hj
  have := h i j (Nat.zero_le _) hij hj'
  rw [getElem!_pos d i hi', getElem!_pos d j hj'] at this
  simpa using this
theorem sorted_one {d d' : Array α} (hs : d'.size = d.size) (h : Merged key d d' 0 d.size) : d'.toList = sortL key d.toList := by
  have h1 := h.stab
  rw [sg_all] at h1
  rw [← hs, sg_all] at h1
  exact sortL_one (fallsI_list (by rw [hs]; exact h.falls)) h1
theorem Merged.rf {d : Array α} {a b : Nat} (h : FallsI key d a b) : Merged key d d a b := ⟨rfl, fun _ _ => rfl, h, StabE.rf _⟩
/-- Where an element came from when the parts from a to m and from m to b change places. -/
def rotI (a m b x : Nat) : Nat := if a ≤ x ∧ x < a + (b - m) then x + (m - a) else if a + (b - m) ≤ x ∧ x < b then x - (b - m) else x
def Rot (d d' : Array α) (a m b : Nat) : Prop := d'.size = d.size ∧ ∀ x, d'[x]! = d[rotI a m b x]!
/-- A merge's parts: from the two runs' beginnings, and from their ends. -/
structure Cut (key : α → Int) (d : Array α) (a s m e b : Nat) : Prop where
  u1 : a ≤ s
  u2 : s ≤ m
  u3 : m ≤ e
  u4 : e ≤ b
  f1 : FallsI key d a m
  f2 : FallsI key d m b
  c1 : ∀ i j, a ≤ i → i < s → e ≤ j → j < b → key d[j]! ≤ key d[i]!
  c2 : ∀ i j, s ≤ i → i < m → m ≤ j → j < e → key d[i]! < key d[j]!
section
variable {d r : Array α} {a s m e b : Nat}
theorem Cut.r1 (C : Cut key d a s m e b) (hr : Rot d r s m e) : FallsI key r a s := fun i j h1 h2 h3 => by
  have := C.u1; have := C.u2; have := C.u3; have := C.u4
  rw [hr.2, hr.2]
  unfold rotI
  rw [if_neg (by omega), if_neg (by omega), if_neg (by omega), if_neg (by omega)]
  exact C.f1 i j h1 h2 (by omega)
theorem Cut.r2 (C : Cut key d a s m e b) (hr : Rot d r s m e) : FallsI key r s (s + (e - m)) := fun i j h1 h2 h3 => by
  have := C.u1; have := C.u2; have := C.u3; have := C.u4
  rw [hr.2, hr.2]
  unfold rotI
  rw [if_pos (by omega), if_pos (by omega)]
  exact C.f2 _ _ (by omega) (by omega) (by omega)
theorem Cut.r3 (C : Cut key d a s m e b) (hr : Rot d r s m e) : FallsI key r (s + (e - m)) e := fun i j h1 h2 h3 => by
  have := C.u1; have := C.u2; have := C.u3; have := C.u4
  rw [hr.2, hr.2]
  unfold rotI
  rw [if_neg (by omega), if_pos (by omega), if_neg (by omega), if_pos (by omega)]
  exact C.f1 _ _ (by omega) (by omega) (by omega)
theorem Cut.r4 (C : Cut key d a s m e b) (hr : Rot d r s m e) : FallsI key r e b := fun i j h1 h2 h3 => by
  have := C.u1; have := C.u2; have := C.u3; have := C.u4
  rw [hr.2, hr.2]
  unfold rotI
  rw [if_neg (by omega), if_neg (by omega), if_neg (by omega), if_neg (by omega)]
  exact C.f2 _ _ (by omega) (by omega) (by omega)
theorem Cut.cross (C : Cut key d a s m e b) (hr : Rot d r s m e) : ∀ i j, a ≤ i → i < s + (e - m) → s + (e - m) ≤ j → j < b → key r[j]! ≤ key r[i]! := fun i j h1 h2 h3 h4 => by
  have := C.u1; have := C.u2; have := C.u3; have := C.u4
  rw [hr.2, hr.2]
  unfold rotI
  by_cases h5 : i < s
  · rw [if_neg (c := s ≤ i ∧ _) (by omega), if_neg (c := s + (e - m) ≤ i ∧ _) (by omega)]
    by_cases h6 : j < e
    · rw [if_neg (by omega), if_pos (by omega)]
      exact C.f1 _ _ (by omega) (by omega) (by omega)
    · rw [if_neg (by omega), if_neg (by omega)]
      exact C.c1 _ _ (by omega) (by omega) (by omega) (by omega)
  · rw [if_pos (c := s ≤ i ∧ _) (by omega)]
    by_cases h6 : j < e
    · rw [if_neg (by omega), if_pos (by omega)]
      exact Int.le_of_lt (C.c2 _ _ (by omega) (by omega) (by omega) (by omega))
    · rw [if_neg (by omega), if_neg (by omega)]
      exact C.f2 _ _ (by omega) (by omega) (by omega)
theorem Cut.stab (C : Cut key d a s m e b) (hr : Rot d r s m e) : StabE key (sg d a b) (sg r a b) := by
  have := C.u1; have := C.u2; have := C.u3; have := C.u4
  rw [sg_split d (c := s) (by omega) (by omega), sg_split d (a := s) (c := m) (by omega) (by omega), sg_split d (a := m) (c := e) (by omega) (by omega)]
  rw [sg_split r (c := s) (by omega) (by omega), sg_split r (a := s) (c := s + (e - m)) (by omega) (by omega), sg_split r (a := s + (e - m)) (c := e) (by omega) (by omega)]
  have e1 : sg r a s = sg d a s := sg_same fun i h1 h2 => by
    rw [hr.2]; unfold rotI; rw [if_neg (by omega), if_neg (by omega)]
  have e2 : sg r s (s + (e - m)) = sg d m e := sg_shift (by omega) fun i hi => by
    rw [hr.2]; unfold rotI; rw [if_pos (by omega)]; congr 1; omega
  have e3 : sg r (s + (e - m)) e = sg d s m := sg_shift (by omega) fun i hi => by
    rw [hr.2]; unfold rotI; rw [if_neg (by omega), if_pos (by omega)]; congr 1; omega
  have e4 : sg r e b = sg d e b := sg_same fun i h1 h2 => by
    rw [hr.2]; unfold rotI; rw [if_neg (by omega), if_neg (by omega)]
  rw [e1, e2, e3, e4, ← List.append_assoc (sg d s m), ← List.append_assoc (sg d m e)]
  refine StabE.app (StabE.rf _) (StabE.app (StabE.turn ?_) (StabE.rf _))
  intro x hx y hy
  obtain ⟨i, h1, h2, rfl⟩ := mem_sg.1 hx
  obtain ⟨j, h3, h4, rfl⟩ := mem_sg.1 hy
  have := C.c2 i j h1 h2 h3 h4
  omega
/-- Cut, turned, each part merged: merged. -/
theorem Cut.done {d1 d2 : Array α} (C : Cut key d a s m e b) (hr : Rot d r s m e) (h1 : Merged key r d1 a (s + (e - m))) (h2 : Merged key d1 d2 (s + (e - m)) b) : Merged key d d2 a b := by
  have := C.u1; have := C.u2; have := C.u3; have := C.u4
  have hmid1 : a ≤ s + (e - m) := by omega
  have hmid2 : s + (e - m) ≤ b := by omega
  have e1 : sg d2 a (s + (e - m)) = sg d1 a (s + (e - m)) := sg_same fun i _ hi => h2.out i (.inl hi)
  have e2 : sg d1 (s + (e - m)) b = sg r (s + (e - m)) b := sg_same fun i hi _ => h1.out i (.inr hi)
  have s1 : StabE key (sg r a (s + (e - m))) (sg d2 a (s + (e - m))) := by rw [e1]; exact h1.stab
  have s2 : StabE key (sg r (s + (e - m)) b) (sg d2 (s + (e - m)) b) := by rw [← e2]; exact h2.stab
  refine ⟨h2.size.trans (h1.size.trans hr.1), fun x hx => ?_, fun i j hi hij hj => ?_, ?_⟩
  · rw [h2.out x (by omega), h1.out x (by omega), hr.2]
    unfold rotI
    rw [if_neg (by omega), if_neg (by omega)]
  · by_cases hjm : j < s + (e - m)
    · rw [h2.out i (by omega), h2.out j (by omega)]
      exact h1.falls i j hi hij hjm
    · by_cases him : s + (e - m) ≤ i
      · exact h2.falls i j him hij hj
      · have m1 := s1.mem.2 (mem_sg.2 ⟨i, hi, by omega, rfl⟩)
        have m2 := s2.mem.2 (mem_sg.2 ⟨j, by omega, hj, rfl⟩)
        obtain ⟨i', h3, h4, h5⟩ := mem_sg.1 m1
        obtain ⟨j', h6, h7, h8⟩ := mem_sg.1 m2
        rw [← h5, ← h8]
        exact C.cross hr i' j' h3 h4 h6 h7
  · refine (C.stab hr).tr ?_
    rw [sg_split r hmid1 hmid2, sg_split d2 hmid1 hmid2]
    exact s1.app s2
/-- What a merge of one, or with one, is: a search and a turn. -/
theorem merged_first {i : Nat} (hr : Rot d r a (a + 1) i) (hi : a + 1 ≤ i) (hb : i ≤ b) (f2 : FallsI key d (a + 1) b) (h1 : ∀ j, a + 1 ≤ j → j < i → key d[a]! < key d[j]!) (h2 : ∀ j, i ≤ j → j < b → key d[j]! ≤ key d[a]!) : Merged key d r a b := by
  have C : Cut key d a a (a + 1) i b := ⟨Nat.le_refl _, by omega, hi, hb, fun i j h1 h2 h3 => by omega, f2, fun i j h1 h2 => by omega, fun x j h3 h4 h5 h6 => by
    obtain rfl : x = a := by omega
    exact h1 j h5 h6⟩
  refine C.done hr (Merged.rf (C.r2 hr)) (Merged.rf fun x y hx hxy hy => ?_)
  by_cases h5 : i ≤ x
  · exact C.r4 hr x y h5 hxy hy
  · rw [hr.2, hr.2]
    unfold rotI
    rw [if_neg (by omega), if_neg (by omega), if_neg (by omega), if_pos (by omega), show x - (i - (a + 1)) = a by omega]
    exact h2 y (by omega) hy
theorem merged_last {i : Nat} (hr : Rot d r i m (m + 1)) (ha : a ≤ i) (hi : i ≤ m) (f1 : FallsI key d a m) (h1 : ∀ j, a ≤ j → j < i → key d[m]! ≤ key d[j]!) (h2 : ∀ j, i ≤ j → j < m → key d[j]! < key d[m]!) : Merged key d r a (m + 1) := by
  have C : Cut key d a i m (m + 1) (m + 1) := ⟨ha, hi, by omega, Nat.le_refl _, f1, fun i j h1 h2 h3 => by omega, fun i j h1 h2 => by omega, fun x j h3 h4 h5 h6 => by
    obtain rfl : j = m := by omega
    exact h2 x h3 h4⟩
  refine C.done hr (Merged.rf fun x y hx hxy hy => ?_) (Merged.rf (C.r3 hr))
  by_cases h5 : y < i
  · exact C.r1 hr x y hx hxy h5
  · rw [hr.2, hr.2]
    unfold rotI
    rw [if_pos (by omega), if_neg (by omega), if_neg (by omega), show y + (m - i) = m by omega]
    exact h1 x hx (by omega)
theorem Rot.rf (d : Array α) {a m b : Nat} (ha : a ≤ m) (hb : m ≤ b) (h : a = m ∨ m = b) : Rot d d a m b := ⟨rfl, fun x => by
  unfold rotI
  rcases h with h | h
  · subst h
    split
    · congr 1; omega
    · rw [if_neg (by omega)]
  · subst h
    rw [if_neg (by omega)]
    split
    · congr 1; omega
    · rfl⟩
/-- One more step of a single element's way to the right. -/
theorem Rot.right {d dk : Array α} {a k : Nat} (hr : Rot d dk a (a + 1) (k + 1)) (hk : a ≤ k) (hs : k + 1 < d.size) : Rot d (swp dk k (k + 1)) a (a + 1) (k + 2) := ⟨by rw [size_swp]; exact hr.1, fun x => by
  rw [swp_get dk (by rw [hr.1]; omega) (by rw [hr.1]; omega), hr.2, hr.2, hr.2]
  unfold rotI
  by_cases h1 : x = k + 1
  · rw [if_pos h1, if_neg (by omega), if_pos (by omega), if_neg (by omega), if_pos (by omega)]; congr 1; omega
  · by_cases h2 : x = k
    · rw [if_neg h1, if_pos h2, if_neg (by omega), if_neg (by omega), if_pos (by omega)]; congr 1; omega
    · rw [if_neg h1, if_neg h2]
      by_cases h3 : a ≤ x ∧ x < k
      · rw [if_pos (by omega), if_pos (by omega)]
      · rw [if_neg (by omega), if_neg (by omega), if_neg (by omega), if_neg (by omega)]⟩
theorem Rot.left {d dk : Array α} {m k : Nat} (hr : Rot d dk (k + 1) m (m + 1)) (hk : k + 1 ≤ m) (hs : m < d.size) : Rot d (swp dk (k + 1) k) k m (m + 1) := ⟨by rw [size_swp]; exact hr.1, fun x => by
  rw [swp_get dk (by rw [hr.1]; omega) (by rw [hr.1]; omega), hr.2, hr.2, hr.2]
  unfold rotI
  by_cases h1 : x = k
  · rw [if_pos h1, if_pos (by omega), if_pos (by omega)]; congr 1; omega
  · by_cases h2 : x = k + 1
    · rw [if_neg h1, if_pos h2, if_neg (by omega), if_neg (by omega), if_neg (by omega), if_pos (by omega)]; congr 1; omega
    · rw [if_neg h1, if_neg h2]
      by_cases h3 : k + 1 < x ∧ x < m + 1
      · rw [if_neg (by omega), if_pos (by omega), if_neg (by omega), if_pos (by omega)]
      · rw [if_neg (by omega), if_neg (by omega), if_neg (by omega), if_neg (by omega)]⟩
end
/-! ### Two parts of the same length change places -/
def swI (a b n x : Nat) : Nat := if a ≤ x ∧ x < a + n then x - a + b else if b ≤ x ∧ x < b + n then x - b + a else x
def Swd (d d' : Array α) (a b n : Nat) : Prop := d'.size = d.size ∧ ∀ x, d'[x]! = d[swI a b n x]!
theorem Swd.zero (d : Array α) (a b : Nat) : Swd d d a b 0 := ⟨rfl, fun x => by unfold swI; rw [if_neg (by omega), if_neg (by omega)]⟩
theorem Swd.more {d dk : Array α} {a b k : Nat} (h : Swd d dk a b k) (hab : a + k < b) (hs : b + k < d.size) : Swd d (swp dk (a + k) (b + k)) a b (k + 1) := ⟨by rw [size_swp]; exact h.1, fun x => by
  rw [swp_get dk (by rw [h.1]; omega) (by rw [h.1]; omega), h.2, h.2, h.2]
  unfold swI
  by_cases h1 : x = b + k
  · rw [if_pos h1, if_neg (by omega), if_neg (by omega), if_neg (by omega), if_pos (by omega)]; congr 1; omega
  · by_cases h2 : x = a + k
    · rw [if_neg h1, if_pos h2, if_neg (by omega), if_neg (by omega), if_pos (by omega)]; congr 1; omega
    · rw [if_neg h1, if_neg h2]
      by_cases h3 : a ≤ x ∧ x < a + k
      · rw [if_pos (by omega), if_pos (by omega)]
      · by_cases h4 : b ≤ x ∧ x < b + k
        · rw [if_neg (by omega), if_pos (by omega), if_neg (by omega), if_pos (by omega)]
        · rw [if_neg (by omega), if_neg (by omega), if_neg (by omega), if_neg (by omega)]⟩
theorem swI_cases (a b n x : Nat) : (a ≤ x ∧ x < a + n ∧ swI a b n x = x - a + b) ∨ (¬ (a ≤ x ∧ x < a + n) ∧ b ≤ x ∧ x < b + n ∧ swI a b n x = x - b + a) ∨ (¬ (a ≤ x ∧ x < a + n) ∧ ¬ (b ≤ x ∧ x < b + n) ∧ swI a b n x = x) := by
  unfold swI
  by_cases h1 : a ≤ x ∧ x < a + n
  · exact .inl ⟨h1.1, h1.2, by rw [if_pos h1]⟩
  · by_cases h2 : b ≤ x ∧ x < b + n
    · exact .inr (.inl ⟨h1, h2.1, h2.2, by rw [if_neg h1, if_pos h2]⟩)
    · exact .inr (.inr ⟨h1, h2, by rw [if_neg h1, if_neg h2]⟩)
theorem rotI_cases (a m b x : Nat) : (a ≤ x ∧ x < a + (b - m) ∧ rotI a m b x = x + (m - a)) ∨ (¬ (a ≤ x ∧ x < a + (b - m)) ∧ a + (b - m) ≤ x ∧ x < b ∧ rotI a m b x = x - (b - m)) ∨ (¬ (a ≤ x ∧ x < a + (b - m)) ∧ ¬ (a + (b - m) ≤ x ∧ x < b) ∧ rotI a m b x = x) := by
  unfold rotI
  by_cases h1 : a ≤ x ∧ x < a + (b - m)
  · exact .inl ⟨h1.1, h1.2, by rw [if_pos h1]⟩
  · by_cases h2 : a + (b - m) ≤ x ∧ x < b
    · exact .inr (.inl ⟨h1, h2.1, h2.2, by rw [if_neg h1, if_pos h2]⟩)
    · exact .inr (.inr ⟨h1, h2, by rw [if_neg h1, if_neg h2]⟩)
/-- A turn by exchanges: what is left of it behind one. -/
theorem Swd.big {d d1 d2 : Array α} {i j m : Nat} (h1 : Swd d d1 (m - i) m j) (hi : i ≤ m) (hij : j < i) (h2 : Rot d1 d2 (m - (i - j)) m (m + j)) : Rot d d2 (m - i) m (m + j) := ⟨h2.1.trans h1.1, fun x => by
  rw [h2.2, h1.2]
  congr 1
  have e1 := rotI_cases (m - (i - j)) m (m + j) x
  have e2 := rotI_cases (m - i) m (m + j) x
  have e3 := swI_cases (m - i) m j (rotI (m - (i - j)) m (m + j) x)
  generalize swI (m - i) m j (rotI (m - (i - j)) m (m + j) x) = u at e3 ⊢
  generalize rotI (m - (i - j)) m (m + j) x = y at e1 e3
  generalize rotI (m - i) m (m + j) x = z at e2 ⊢
  omega⟩
theorem Swd.small {d d1 d2 : Array α} {i j m : Nat} (h1 : Swd d d1 (m - i) (m + j - i) i) (hi : i ≤ m) (hij : i < j) (h2 : Rot d1 d2 (m - i) m (m + (j - i))) : Rot d d2 (m - i) m (m + j) := ⟨h2.1.trans h1.1, fun x => by
  rw [h2.2, h1.2]
  congr 1
  have e1 := rotI_cases (m - i) m (m + (j - i)) x
  have e2 := rotI_cases (m - i) m (m + j) x
  have e3 := swI_cases (m - i) (m + j - i) i (rotI (m - i) m (m + (j - i)) x)
  generalize swI (m - i) (m + j - i) i (rotI (m - i) m (m + (j - i)) x) = u at e3 ⊢
  generalize rotI (m - i) m (m + (j - i)) x = y at e1 e3
  generalize rotI (m - i) m (m + j) x = z at e2 ⊢
  omega⟩
theorem Swd.same {d d1 : Array α} {i m : Nat} (h1 : Swd d d1 (m - i) m i) (hi : i ≤ m) : Rot d d1 (m - i) m (m + i) := ⟨h1.1, fun x => by
  rw [h1.2]
  congr 1
  have e2 := rotI_cases (m - i) m (m + i) x
  have e3 := swI_cases (m - i) m i x
  generalize swI (m - i) m i x = u at e3 ⊢
  generalize rotI (m - i) m (m + i) x = z at e2 ⊢
  omega⟩
/-! ### The sort by insertion keeps the order of those of one key -/
theorem swp_stab {d : Array α} {a b j : Nat} (h1 : a ≤ j) (h2 : j + 1 < b) (hs : b ≤ d.size) (hk : key d[j]! < key d[j + 1]!) : StabE key (sg d a b) (sg (swp d (j + 1) j) a b) := by
  have g := swp_get d (i := j + 1) (j := j) (by omega) (by omega)
  rw [sg_split d (c := j) (by omega) (by omega), sg_split d (a := j) (c := j + 1) (by omega) (by omega), sg_split d (a := j + 1) (c := j + 2) (by omega) (by omega)]
  rw [sg_split (swp d (j + 1) j) (c := j) (by omega) (by omega), sg_split (swp d (j + 1) j) (a := j) (c := j + 1) (by omega) (by omega), sg_split (swp d (j + 1) j) (a := j + 1) (c := j + 2) (by omega) (by omega)]
  have e1 : sg (swp d (j + 1) j) a j = sg d a j := sg_same fun i h3 h4 => by rw [g, if_neg (by omega), if_neg (by omega)]
  have e2 : sg (swp d (j + 1) j) j (j + 1) = sg d (j + 1) (j + 2) := sg_shift (by omega) fun i hi => by
    obtain rfl : i = 0 := by omega
    rw [g, if_pos (by omega)]
  have e3 : sg (swp d (j + 1) j) (j + 1) (j + 2) = sg d j (j + 1) := sg_shift (by omega) fun i hi => by
    obtain rfl : i = 0 := by omega
    rw [g, if_neg (by omega), if_pos (by omega)]; rfl
  have e4 : sg (swp d (j + 1) j) (j + 2) b = sg d (j + 2) b := sg_same fun i h3 h4 => by rw [g, if_neg (by omega), if_neg (by omega)]
  rw [e1, e2, e3, e4, ← List.append_assoc (sg d j (j + 1)), ← List.append_assoc (sg d (j + 1) (j + 2))]
  refine StabE.app (StabE.rf _) (StabE.app (StabE.turn ?_) (StabE.rf _))
  intro x hx y hy
  obtain ⟨i, h3, h4, rfl⟩ := mem_sg.1 hx
  obtain ⟨i2, h5, h6, rfl⟩ := mem_sg.1 hy
  obtain rfl : i = j := by omega
  obtain rfl : i2 = i + 1 := by omega
  omega
theorem insInner_stab (a b : Nat) : ∀ (j : Nat) (d : Array α), j < b → b ≤ d.size → (insInner (ltK key) a j d).size = d.size ∧ StabE key (sg d a b) (sg (insInner (ltK key) a j d) a b)
  | 0, d, _, _ => ⟨rfl, StabE.rf _⟩
  | j + 1, d, hj, hb => by
    by_cases h : a < j + 1 ∧ ltK key d[j + 1]! d[j]! = true
    · have e := insInner_go (ltK key) a (j + 1) d h.1 (by simpa using h.2)
      simp only [Nat.add_sub_cancel] at e
      rw [e]
      have ih := insInner_stab a b j (swp d (j + 1) j) (by omega) (by rw [size_swp]; exact hb)
      rw [size_swp] at ih
      refine ⟨ih.1, (swp_stab (by omega) hj hb ?_).tr ih.2⟩
      have := h.2
      unfold ltK at this
      exact of_decide_eq_true this
    · rw [insInner_stop (ltK key) a (j + 1) d (by
        by_cases h1 : a < j + 1
        · right
          simp only [Nat.add_sub_cancel]
          cases hl : ltK key d[j + 1]! d[j]! with
          | false => rfl
          | true => exact absurd ⟨h1, hl⟩ h
        · left; omega)]
      exact ⟨rfl, StabE.rf _⟩
theorem insOuter_stab (a b : Nat) : ∀ (n i : Nat) (d : Array α), b - i = n → b ≤ d.size → StabE key (sg d a b) (sg (insOuter (ltK key) a b i d) a b)
  | 0, i, d, h, _ => by rw [insOuter_stop _ _ _ _ _ (by omega)]; exact StabE.rf _
  | n + 1, i, d, h, hb => by
    rw [insOuter_go _ _ _ _ _ (by omega)]
    have h1 := insInner_stab (key := key) a b i d (by omega) hb
    exact h1.2.tr (insOuter_stab a b n (i + 1) _ (by omega) (by rw [h1.1]; exact hb))
omit [Inhabited α] in
theorem ltK_swo (key : α → Int) : SWO (ltK key) := ⟨fun x => by unfold ltK; simp, fun x y z h1 h2 => by
    unfold ltK at *
    have := of_decide_eq_true h1; have := of_decide_eq_true h2
    exact decide_eq_true (by omega), fun x y z h1 h2 => by
    unfold ltK at *
    have := of_decide_eq_false h1; have := of_decide_eq_false h2
    exact decide_eq_false (by omega)⟩
theorem insertion_merged (key : α → Int) (d : Array α) {a b : Nat} (hab : a ≤ b) (hb : b ≤ d.size) : Merged key d (insertionSort (ltK key) d a b) a b := by
  obtain ⟨⟨h1, h2, _⟩, h3⟩ := insertionSort_holds (lt := ltK key) (ltK_swo key) d a b hab hb
  refine ⟨h1, h2, fun i j hi hij hj => ?_, insOuter_stab a b _ (a + 1) d rfl hb⟩
  have h4 : ¬ key (insertionSort (ltK key) d a b)[i]! < key (insertionSort (ltK key) d a b)[j]! := of_decide_eq_false (h3 i j hi hij hj)
  omega
end
end Go.Gv
/- The library's exchanges of runs of bids. Conditions: those named in each theorem. -/
namespace Go.Proofs.Yteockodnfempfaa
open Go Go.RowKit Go.Gv Go.Sort

theorem blkFree_putCells {w : World} {a : Addr} (cs : List Value) (n : Nat) : blkFree (World.putCells w a cs) n = blkFree w n := by
  unfold World.putCells
  have : ∀ (cs : List Value) (i : Nat) (w : World), blkFree (World.putFrom w a i cs) n = blkFree w n := by
    intro cs
    induction cs with
    | nil => intro i w; rfl
    | cons v vs ih => intro i w; exact (ih _ _).trans (blkFree_setCell _ _ _)
  exact this cs 0 w
theorem gxPut {w w' : World} {g o : Nat} (h : GX g w w') (cs : List Value) : GX g w (World.putCells w' ⟨g, o, none⟩ cs) := by
  refine GX.tr _ _ _ h ⟨?_, ?_, ?_, by simp, fun _ _ hr => heap_putCells _ _ (fun e => hr (by rw [e]))⟩
  · exact (Below_putCells (B := 0) (Below.refl 0 w') (Nat.zero_le _) cs).os
  · exact (Below_putCells (B := 0) (Below.refl 0 w') (Nat.zero_le _) cs).tape
  · exact (Below_putCells (B := 0) (Below.refl 0 w') (Nat.zero_le _) cs).output
/-- At block g lie the bids d. -/
structure RowB (w : World) (g : Nat) (d : Array GAuctionBid) : Prop where
  sl : Sl GAuctionBid w w.heap.size (some ⟨g, 0, none⟩) d.size d.toList
  free : blkFree w g = true
  lt : g < w.heap.size
theorem RowB.at_ {w : World} {g : Nat} {d : Array GAuctionBid} (h : RowB w g d) {k : Nat} (hk : k < d.size) : get? GAuctionBid w ⟨g, k * 2, none⟩ = some d[k]! := by
  obtain ⟨ad, x, he, _, hx, hg⟩ := h.sl.at_ hk
  injection he with he; subst he
  rw [addN, Nat.zero_add] at hg
  have hx2 : d[k]! = x := by
    rw [getElem!_pos d k hk]
    have := (List.getElem?_eq_some_iff.1 hx).2
    simpa using this
  rw [hx2]; exact hg
theorem RowB.of {w : World} {g : Nat} {d : Array GAuctionBid} (h : ∀ k < d.size, get? GAuctionBid w ⟨g, k * 2, none⟩ = some d[k]!) (hf : blkFree w g = true) (hl : g < w.heap.size) : RowB w g d := by
  refine ⟨⟨by simp, fun _ => ⟨_, rfl, hl, fun k x hx => ?_⟩⟩, hf, hl⟩
  have hk : k < d.size := by have := (List.getElem?_eq_some_iff.1 hx).1; simpa using this
  have hx2 : d[k]! = x := by
    rw [getElem!_pos d k hk]
    have := (List.getElem?_eq_some_iff.1 hx).2
    simpa using this
  rw [addN, Nat.zero_add, ← hx2]
  exact h k hk
theorem RowB.step {w w' : World} {g : Nat} {d : Array GAuctionBid} (h : RowB w g d) (hb : Bel w w') : RowB w' g d :=
  RowB.of (fun _ hk => GB.get hb (h.at_ hk)) ((blkFree_keep (Below.block hb g h.lt)).trans h.free) (Nat.lt_of_lt_of_le h.lt hb.size)
theorem get?_putB {α : Type} [Enc α] {w : World} {b o : Nat} {y : α} (x : α) (h : get? α w ⟨b, o, none⟩ = some y) : get? α (World.putCells w ⟨b, o, none⟩ (Enc.enc x)) ⟨b, o, none⟩ = some x := by
  refine get?_iff.2 fun j v hv => ?_
  have hj : j < (Enc.enc x).length := (List.getElem?_eq_some_iff.1 hv).1
  have hjy : j < (Enc.enc y).length := by rw [Enc.len] at hj ⊢; exact hj
  have hc := (get?_iff.1 h) j _ (List.getElem?_eq_getElem hjy)
  rw [addN] at hc ⊢
  unfold World.putCells
  rw [cell_putFrom rfl _ _ _ _ rfl (by rw [hc]; rfl), if_pos ⟨rfl, by simp, by simp; exact hj⟩]
  simpa using hv
theorem get?_put_other {w : World} {g o q : Nat} {x y : GAuctionBid} (h : get? GAuctionBid w ⟨g, q, none⟩ = some y) (hne : q + 2 ≤ o ∨ o + 2 ≤ q) : get? GAuctionBid (World.putCells w ⟨g, o, none⟩ (GAuctionBid.enc x)) ⟨g, q, none⟩ = some y := by
  refine get?_iff.2 fun j v hv => ?_
  have hj : j < 2 := by have := (List.getElem?_eq_some_iff.1 hv).1; rwa [Enc.len] at this
  have hc := (get?_iff.1 h) j _ hv
  rw [addN] at hc ⊢
  unfold World.putCells
  rw [cell_putFrom rfl _ _ _ _ rfl (by rw [hc]; rfl), if_neg (by rw [GAuctionBid.enc_len]; simp only; omega)]
  exact hc
theorem RowB.put {w : World} {g : Nat} {d : Array GAuctionBid} (h : RowB w g d) {k : Nat} (hk : k < d.size) (x : GAuctionBid) : RowB (World.putCells w ⟨g, k * 2, none⟩ (GAuctionBid.enc x)) g (d.setIfInBounds k x) := by
  refine RowB.of (fun j hj => ?_) ((blkFree_putCells _ _).trans h.free) (by simpa using h.lt)
  have hj' : j < d.size := by simpa using hj
  by_cases e : k = j
  · subst e
    rw [getElem!_pos _ k (by simpa using hk)]
    simp only [Array.getElem_setIfInBounds_self]
    exact get?_putB x (h.at_ hk)
  · rw [getElem!_pos _ j (by simpa using hj'), Array.getElem_setIfInBounds_ne (by simpa using hj') e, ← getElem!_pos d j hj']
    exact get?_put_other (h.at_ hj') (by omega)
theorem RowB.swp {w : World} {g : Nat} {d : Array GAuctionBid} (h : RowB w g d) {i j : Nat} (hi : i < d.size) (hj : j < d.size) : RowB (World.putCells (World.putCells w ⟨g, i * 2, none⟩ (GAuctionBid.enc d[j]!)) ⟨g, j * 2, none⟩ (GAuctionBid.enc d[i]!)) g (swp d i j) :=
  (h.put hi _).put (by simpa using hj) _
/-- What a step of the sort leaves. -/
def RowT (w : World) (g : Nat) (d : Array GAuctionBid) (Q : Array GAuctionBid → Prop) (e : Ending) (w' : World) : Prop :=
  e = .returned (.tuple #[]) ∧ ∃ d', d'.size = d.size ∧ RowB w' g d' ∧ GX g w w' ∧ Q d'

set_option maxRecDepth 100000 in
set_option maxHeartbeats 1000000 in
theorem swapRange_any (g c a b n : Nat) (d : Array GAuctionBid) (f : Value) (w : World) (hR : RowB w g d) (hd : d.size ≤ 1000000) (hab : a + n ≤ b) (hb : b + n ≤ d.size) :
    Calls Try.prog 188 #[.slice (some ⟨g, 0, none⟩) d.size c, .int .i64 a, .int .i64 b, .int .i64 n, f] w (RowT w g d fun d' => Swd d d' a b n) := by
  obtain ⟨z, hz⟩ : ∃ z, d.size = z := ⟨_, rfl⟩
  rw [hz] at hd hb ⊢
  have HZ := Lib.hid hz
  have HR := Lib.hid hR
  clear hR hz
  go_enter Try.func188, Try.ntmps188
  go_wp2_with fail
  go_loopw [10] (fun i wr => ∃ (k : Nat) (dk : Array GAuctionBid), k ≤ n ∧ i = .int .i64 k ∧ dk.size = z ∧ RowB wr g dk ∧ GX g w wr ∧ Swd d dk a b k) (fun i _ => n - (intOf i).toNat)
  case atStart => exact ⟨0, d, Nat.zero_le _, rfl, HZ.out, HR.out, GX.rf _, Swd.zero _ _ _⟩
  case round =>
    obtain ⟨k, dk, hk, rfl, hsz, hr, hg, hs⟩ := hrel
    have HSZ := Lib.hid hsz; have HRK := Lib.hid hr; have HG := Lib.hid hg; have HS := Lib.hid hs
    clear hsz hr hg hs
    by_cases hlt : k < n
    · have i0 : a + k < dk.size := by rw [HSZ.out]; omega
      have j0 : b + k < dk.size := by rw [HSZ.out]; omega
      have hx := HRK.out.at_ i0
      have hy := HRK.out.at_ j0
      have hy2 := (HRK.out.put i0 dk[b + k]!).at_ (k := b + k) (by simpa using j0)
      have HW := Lib.hid (HRK.out.swp i0 j0)
      have HGW := Lib.hid (gxPut (o := (b + k) * 2) (gxPut (o := (a + k) * 2) HG.out (GAuctionBid.enc dk[b + k]!)) (GAuctionBid.enc dk[a + k]!))
      have HSW := Lib.hid (HS.out.more (k := k) (by omega) (by rw [HZ.out]; omega))
      have hf1 := HRK.out.free
      have hf2 := (HRK.out.put i0 dk[b + k]!).free
      have HZ2 := Lib.hid (show (swp dk (a + k) (b + k)).size = z by rw [size_swp, HSZ.out])
      have hlt2 : (k : Int) < (n : Int) := by omega
      have e1 : IntKind.i64.wrap ((a : Int) + (k : Int)) = ((a + k : Nat) : Int) := by rw [IntWalk.i64_in _ (by omega)]; omega
      have e2 : IntKind.i64.wrap ((b : Int) + (k : Int)) = ((b + k : Nat) : Int) := by rw [IntWalk.i64_in _ (by omega)]; omega
      have p1 : (0 : Int) ≤ ((a + k : Nat) : Int) := by omega
      have p2 : ((a + k : Nat) : Int) < (z : Int) := by rw [HSZ.out] at i0; omega
      have p3 : (0 : Int) ≤ ((b + k : Nat) : Int) := by omega
      have p4 : ((b + k : Nat) : Int) < (z : Int) := by rw [HSZ.out] at j0; omega
      obtain ⟨x, hxe⟩ : ∃ x, dk[a + k]! = x := ⟨_, rfl⟩
      obtain ⟨y, hye⟩ : ∃ y, dk[b + k]! = y := ⟨_, rfl⟩
      have hy2' : get? GAuctionBid (World.putCells wr ⟨g, (a + k) * 2, none⟩ (GAuctionBid.enc y)) ⟨g, (b + k) * 2, none⟩ = some y := by
        rw [← hye]; exact get?_put_other hy (by omega)
      have hf2' : blkFree (World.putCells wr ⟨g, (a + k) * 2, none⟩ (GAuctionBid.enc y)) g = true := by rw [← hye]; exact hf2
      rw [hxe] at hx HW HGW
      rw [hye] at hy HW HGW
      clear hy2 hf2 i0 j0
      go_wp2_with fail
      go_region
      obtain ⟨w8, hw8⟩ : ∃ w8, World.putCells (World.putCells wr ⟨g, (a + k) * 2, none⟩ (GAuctionBid.enc y)) ⟨g, (b + k) * 2, none⟩ (GAuctionBid.enc x) = w8 := ⟨_, rfl⟩
      rw [hw8] at HW HGW ⊢
      clear hx hy hy2' hf1 hf2' hw8
      go_wp2_with fail
      exact ⟨⟨k + 1, swp dk (a + k) (b + k), by omega, by go_num, HZ2.out, HW.out.step ((Bel.refl _).drewN 1), GX.tr _ _ _ HGW.out (GX.of_bel ((Bel.refl _).drewN 1) g), HSW.out⟩, by simp [intOf]; omega⟩
    · obtain rfl : k = n := by omega
      have hlt3 : ¬ (k : Int) < (k : Int) := by omega
      go_wp2_with fail
      go_end0
      exact ⟨rfl, dk, by rw [HSZ.out, HZ.out], HRK.out, HG.out, HS.out⟩
end Go.Proofs.Yteockodnfempfaa
/- The library's turn of two runs of bids. Conditions: those named in each theorem. -/
namespace Go.Proofs.Yteockodnfempfaa
open Go Go.RowKit Go.Gv Go.Sort

set_option maxRecDepth 100000 in
set_option maxHeartbeats 1000000 in
theorem rotate_any (g c a m b : Nat) (d : Array GAuctionBid) (f : Value) (w : World) (hR : RowB w g d) (hd : d.size ≤ 1000000) (ham : a < m) (hmb : m < b) (hb : b ≤ d.size) :
    Calls Try.prog 177 #[.slice (some ⟨g, 0, none⟩) d.size c, .int .i64 a, .int .i64 m, .int .i64 b, f] w (RowT w g d fun d' => Rot d d' a m b) := by
  obtain ⟨z, hz⟩ : ∃ z, d.size = z := ⟨_, rfl⟩
  rw [hz] at hd hb ⊢
  have HZ := Lib.hid hz
  have HR := Lib.hid hR
  clear hR hz
  have e1 : IntKind.i64.wrap ((m : Int) - (a : Int)) = ((m - a : Nat) : Int) := by rw [IntWalk.i64_in _ (by omega)]; omega
  have e2 : IntKind.i64.wrap ((b : Int) - (m : Int)) = ((b - m : Nat) : Int) := by rw [IntWalk.i64_in _ (by omega)]; omega
  go_enter Try.func177, Try.ntmps177
  go_wp2_with fail
  clear e1 e2
  go_loopw [10, 11] (fun vi vj wr => ∃ (i j : Nat) (dk : Array GAuctionBid), 0 < i ∧ 0 < j ∧ i ≤ m ∧ m + j ≤ z ∧ vi = .int .i64 i ∧ vj = .int .i64 j ∧ dk.size = z ∧ RowB wr g dk ∧ GX g w wr ∧ Hid (∀ d', Rot dk d' (m - i) m (m + j) → Rot d d' a m b)) (fun vi vj _ => (intOf vi).toNat + (intOf vj).toNat)
  case atStart =>
    exact ⟨m - a, b - m, d, by omega, by omega, by omega, by omega, rfl, rfl, HZ.out, HR.out, GX.rf _, (fun d' h => by rwa [show m - (m - a) = a by omega, show m + (b - m) = b by omega] at h : ∀ d', Rot d d' (m - (m - a)) m (m + (b - m)) → Rot d d' a m b)⟩
  case round =>
    obtain ⟨i, j, dk, hi, hj, him, hjz, rfl, rfl, hsz, hr, hg, hs⟩ := hrel
    have HSZ := Lib.hid hsz; have HRK := Lib.hid hr; have HG := Lib.hid hg
    clear hsz hr hg
    have e1 : IntKind.i64.wrap ((m : Int) - (i : Int)) = ((m - i : Nat) : Int) := by rw [IntWalk.i64_in _ (by omega)]; omega
    by_cases hij : i = j
    · subst hij
      go_wp2_with fail
      have hc := swapRange_any g c (m - i) m i dk f wr HRK.out (by rw [HSZ.out]; omega) (by omega) (by rw [HSZ.out]; omega)
      rw [HSZ.out] at hc
      refine hc.mono ?_
      rintro _ w1 ⟨rfl, d1, hs1, hr1, hg1, hsw⟩
      have H1 := Lib.hid hs1; have H2 := Lib.hid hr1; have H3 := Lib.hid hg1; have H4 := Lib.hid hsw
      clear hs1 hr1 hg1 hsw hc
      go_wp2_with fail
      go_end0
      exact ⟨rfl, d1, by rw [H1.out, HSZ.out, HZ.out], H2.out, GX.tr _ _ _ HG.out H3.out, hs.out _ (H4.out.same him)⟩
    · by_cases hlt : j < i
      · have n1 : ¬ (i : Int) = (j : Int) := by omega
        have n2 : (j : Int) < (i : Int) := by omega
        go_wp2_with fail
        have hc := swapRange_any g c (m - i) m j dk f wr HRK.out (by rw [HSZ.out]; omega) (by omega) (by rw [HSZ.out]; omega)
        rw [HSZ.out] at hc
        refine hc.mono ?_
        rintro _ w1 ⟨rfl, d1, hs1, hr1, hg1, hsw⟩
        have H1 := Lib.hid hs1; have H2 := Lib.hid hr1; have H3 := Lib.hid hg1; have H4 := Lib.hid hsw
        clear hs1 hr1 hg1 hsw hc
        have e3 : IntKind.i64.wrap ((i : Int) - (j : Int)) = ((i - j : Nat) : Int) := by rw [IntWalk.i64_in _ (by omega)]; omega
        go_wp2_with fail
        have hq : ∀ d', Rot d1 d' (m - (i - j)) m (m + j) → Rot d d' a m b := fun d' h => hs.out _ (H4.out.big him hlt h)
        have HQ := Lib.hid hq
        clear hq
        refine ⟨⟨i - j, j, d1, by omega, hj, by omega, hjz, rfl, rfl, by rw [H1.out, HSZ.out], H2.out, GX.tr _ _ _ HG.out H3.out, HQ⟩, ?_⟩
        show ((i - j : Nat) : Int).toNat + ((j : Nat) : Int).toNat < ((i : Nat) : Int).toNat + ((j : Nat) : Int).toNat
        omega
      · have n1 : ¬ (i : Int) = (j : Int) := by omega
        have n2 : ¬ (j : Int) < (i : Int) := by omega
        go_wp2_with fail
        rw [show (m : Int) + (j : Int) - (i : Int) = ((m + j - i : Nat) : Int) by omega]
        have hc := swapRange_any g c (m - i) (m + j - i) i dk f wr HRK.out (by rw [HSZ.out]; omega) (by omega) (by rw [HSZ.out]; omega)
        rw [HSZ.out] at hc
        refine hc.mono ?_
        rintro _ w1 ⟨rfl, d1, hs1, hr1, hg1, hsw⟩
        have H1 := Lib.hid hs1; have H2 := Lib.hid hr1; have H3 := Lib.hid hg1; have H4 := Lib.hid hsw
        clear hs1 hr1 hg1 hsw hc
        have e3 : IntKind.i64.wrap ((j : Int) - (i : Int)) = ((j - i : Nat) : Int) := by rw [IntWalk.i64_in _ (by omega)]; omega
        go_wp2_with fail
        have hq : ∀ d', Rot d1 d' (m - i) m (m + (j - i)) → Rot d d' a m b := fun d' h => hs.out _ (H4.out.small him (by omega) h)
        have HQ := Lib.hid hq
        clear hq
        refine ⟨⟨i, j - i, d1, hi, by omega, him, by omega, rfl, rfl, by rw [H1.out, HSZ.out], H2.out, GX.tr _ _ _ HG.out H3.out, HQ⟩, ?_⟩
        show ((i : Nat) : Int).toNat + ((j - i : Nat) : Int).toNat < ((i : Nat) : Int).toNat + ((j : Nat) : Int).toNat
        omega
end Go.Proofs.Yteockodnfempfaa
/- The library's merge of two runs of bids in place. Conditions: those named in each theorem. -/
namespace Go.Proofs.Yteockodnfempfaa
open Go Go.RowKit Go.Gv Go.Sort

theorem cmpLess (x y : GAuctionBid) : decide (cmpI y.amount x.amount < 0) = decide (y.amount < x.amount) := by
  unfold cmpI
  by_cases h1 : y.amount < x.amount
  · simp [h1]
  · by_cases h2 : x.amount < y.amount
    · simp [h1, h2]
    · simp [h1, h2]
set_option maxRecDepth 100000 in
set_option maxHeartbeats 4000000 in
theorem symMerge_first (g c a b : Nat) (d : Array GAuctionBid) (w : World) (hR : RowB w g d) (hd : d.size ≤ 1000000) (hmb : a + 1 < b) (hb : b ≤ d.size) (hf2 : FallsI GAuctionBid.amount d (a + 1) b) :
    Calls Try.prog 155 #[.slice (some ⟨g, 0, none⟩) d.size c, .int .i64 a, .int .i64 ((a + 1 : Nat) : Int), .int .i64 b, .func (.func 115) #[] #[]] w (RowT w g d fun d' => Merged GAuctionBid.amount d d' a b) := by
  obtain ⟨z, hz⟩ : ∃ z, d.size = z := ⟨_, rfl⟩
  rw [hz] at hd hb ⊢
  have HZ := Lib.hid hz
  have HR := Lib.hid hR
  have HF := Lib.hid hf2
  clear hR hz hf2
  obtain ⟨m, hm⟩ : ∃ m, a + 1 = m := ⟨_, rfl⟩
  rw [hm] at hmb HF ⊢
  have e1 : IntKind.i64.wrap ((m : Int) - (a : Int)) = 1 := by rw [IntWalk.i64_in _ (by omega)]; omega
  go_enter Try.func155, Try.ntmps155
  go_wp2_with fail
  clear e1
  go_loopw [10, 11] (fun vi vj wr => ∃ (i j : Nat), m ≤ i ∧ i ≤ j ∧ j ≤ b ∧ vi = .int .i64 i ∧ vj = .int .i64 j ∧ Bel w wr ∧ Hid (∀ q, m ≤ q → q < i → d[a]!.amount < d[q]!.amount) ∧ Hid (∀ q, j ≤ q → q < b → d[q]!.amount ≤ d[a]!.amount)) (fun vi vj _ => (intOf vj).toNat - (intOf vi).toNat)
  case atStart => exact ⟨m, b, Nat.le_refl _, by omega, Nat.le_refl _, rfl, rfl, Bel.refl _, (fun q h1 h2 => by omega : ∀ q, m ≤ q → q < m → d[a]!.amount < d[q]!.amount), (fun q h1 h2 => by omega : ∀ q, b ≤ q → q < b → d[q]!.amount ≤ d[a]!.amount)⟩
  case round =>
    obtain ⟨i, j, hi, hij, hj, rfl, rfl, hb1, hlo, hhi⟩ := hrel
    have HB := Lib.hid hb1
    clear hb1
    by_cases hlt : i < j
    · obtain ⟨h, hh⟩ : ∃ h, (i + j) / 2 = h := ⟨_, rfl⟩
      have hih : i ≤ h := by omega
      have hhj : h < j := by omega
      go_wp2_with fail
      rw [show ((i : Int) + (j : Int)) / 2 = (h : Int) by omega]
      have hrk := HR.out.step HB.out
      have hzs := HZ.out
      have q1 := hrk.at_ (k := h) (by omega)
      have q2 := hrk.at_ (k := a) (by omega)
      obtain ⟨x, hx⟩ : ∃ x, d[a]! = x := ⟨_, rfl⟩
      obtain ⟨y, hy⟩ : ∃ y, d[h]! = y := ⟨_, rfl⟩
      rw [hy] at q1; rw [hx] at q2
      have HX := Lib.hid hx; have HY := Lib.hid hy
      obtain ⟨r, hr⟩ : ∃ r, decide (x.amount < y.amount) = r := ⟨_, rfl⟩
      have HRR := Lib.hid hr
      have hr2 : decide (cmpI x.amount y.amount < 0) = r := by rw [cmpLess, hr]
      have p1 : (0 : Int) ≤ (h : Int) := by omega
      have p2 : (h : Int) < (z : Int) := by omega
      have p3 : (0 : Int) ≤ (a : Int) := by omega
      have p4 : (a : Int) < (z : Int) := by omega
      clear hrk hzs hx hy hr hh
      refine wp_region_G GB [] GB.rf (by kernel_rfl) ?_
      refine wpG_looks 0 11 [0,1,2,3,4,5,6,7,8,9,10] rfl GB.rf GB.tr (by kernel_rfl) (fun _ _ _ _ hd h => And.intro (hd ▸ And.left h) (And.right h)) rfl (by kernel_rfl) ?_
      intro ι W hne CW
      have g1 := fun z => (CW.out z).get q1
      have g2 := fun z => (CW.out z).get q2
      repeat (refine wpLooksG_step (fun K hK => ?_); go_simp; refine hK _ ?_; clear hK K)
      refine wpLooksG_step (fun K hK => ?_); go_simp
      refine ⟨_, fun z => (endFn_any y x (W z)).mono (fun _ _ h => ⟨h.1, by rw [h.2]; exact ((Bel.refl _).alloc _).alloc _⟩), hK _ ?_⟩
      clear hK K
      repeat (refine wpLooksG_step (fun K hK => ?_); go_simp; refine hK _ ?_; clear hK K)
      refine wpLooksG_nil ?_
      clear g1 g2 CW hne W ι
      refine wpG_end (by kernel_rfl) (fun wn hwn => ?_) _
      have HBN := Lib.hid (HB.out.trans hwn.undrew); clear hwn q1 q2
      have hlo2 : r = true → Hid (∀ q, m ≤ q → q < h + 1 → d[a]!.amount < d[q]!.amount) := fun e q h1 h2 => by
        have hxy : d[a]!.amount < d[h]!.amount := by rw [HX.out, HY.out]; exact of_decide_eq_true (HRR.out.trans e)
        by_cases h3 : q = h
        · rw [h3]; exact hxy
        · have := HF.out q h h1 (by omega) (by omega); omega
      have hhi2 : r = false → Hid (∀ q, h ≤ q → q < b → d[q]!.amount ≤ d[a]!.amount) := fun e q h1 h2 => by
        have hxy : ¬ d[a]!.amount < d[h]!.amount := by rw [HX.out, HY.out]; exact of_decide_eq_false (HRR.out.trans e)
        by_cases h3 : q = h
        · rw [h3]; omega
        · have := HF.out h q (by omega) (by omega) h2; omega
      have HLO := Lib.hid hlo2; have HHI := Lib.hid hhi2
      clear hlo2 hhi2
      cases r
      · go_wp2_with fail
        refine ⟨⟨i, h, hi, hih, by omega, rfl, rfl, HBN.out, hlo, HHI.out rfl⟩, ?_⟩
        show (h : Int).toNat - (i : Int).toNat < (j : Int).toNat - (i : Int).toNat
        omega
      · go_wp2_with fail
        refine ⟨⟨h + 1, j, by omega, by omega, hj, by go_num, rfl, HBN.out, HLO.out rfl, hhi⟩, ?_⟩
        simp [intOf]; omega
    · obtain rfl : i = j := by omega
      have e1 : IntKind.i64.wrap ((i : Int) - 1) = ((i - 1 : Nat) : Int) := by rw [IntWalk.i64_in _ (by omega)]; omega
      go_wp2_with fail
      go_loopw [13] (fun vk wr => ∃ (k : Nat) (dk : Array GAuctionBid), a ≤ k ∧ k + 1 ≤ i ∧ vk = .int .i64 k ∧ dk.size = z ∧ RowB wr g dk ∧ GX g w wr ∧ Rot d dk a (a + 1) (k + 1)) (fun vk _ => i - (intOf vk).toNat)
      case atStart => exact ⟨a, d, Nat.le_refl _, by omega, rfl, HZ.out, HR.out.step HB.out, GX.of_bel HB.out g, Rot.rf d (by omega) (Nat.le_refl _) (.inr rfl)⟩
      case round =>
        obtain ⟨k, dk, hk1, hk2, rfl, hsz, hr, hg, hs⟩ := hrel
        have HSZ := Lib.hid hsz; have HRK := Lib.hid hr; have HG := Lib.hid hg; have HS := Lib.hid hs
        clear hsz hr hg hs
        by_cases hlt3 : k + 1 < i
        · have i0 : k < dk.size := by rw [HSZ.out]; omega
          have j0 : k + 1 < dk.size := by rw [HSZ.out]; omega
          have hx := HRK.out.at_ i0
          have hy := HRK.out.at_ j0
          have HW := Lib.hid (HRK.out.swp i0 j0)
          have HGW := Lib.hid (gxPut (o := (k + 1) * 2) (gxPut (o := k * 2) HG.out (GAuctionBid.enc dk[k + 1]!)) (GAuctionBid.enc dk[k]!))
          have HSW := Lib.hid (HS.out.right hk1 (by rw [HZ.out]; omega))
          have HZ2 := Lib.hid (show (swp dk k (k + 1)).size = z by rw [size_swp, HSZ.out])
          have e1 : IntKind.i64.wrap ((k : Int) + 1) = ((k + 1 : Nat) : Int) := by rw [IntWalk.i64_in _ (by omega)]; omega
          have n1 : (k : Int) < ((i - 1 : Nat) : Int) := by omega
          have p1 : (0 : Int) ≤ (k : Int) := by omega
          have p2 : (k : Int) < (z : Int) := by rw [HSZ.out] at i0; omega
          have p3 : (0 : Int) ≤ ((k + 1 : Nat) : Int) := by omega
          have p4 : ((k + 1 : Nat) : Int) < (z : Int) := by rw [HSZ.out] at j0; omega
          have hf1 := HRK.out.free
          obtain ⟨x, hxe⟩ : ∃ x, dk[k]! = x := ⟨_, rfl⟩
          obtain ⟨y, hye⟩ : ∃ y, dk[k + 1]! = y := ⟨_, rfl⟩
          have hy2' : get? GAuctionBid (World.putCells wr ⟨g, k * 2, none⟩ (GAuctionBid.enc y)) ⟨g, (k + 1) * 2, none⟩ = some y := by
            rw [← hye]; exact get?_put_other hy (by omega)
          have hf2' : blkFree (World.putCells wr ⟨g, k * 2, none⟩ (GAuctionBid.enc y)) g = true := (blkFree_putCells _ _).trans hf1
          rw [hxe] at hx HW HGW
          rw [hye] at hy HW HGW
          have e2 : IntKind.i64.wrap ((i : Int) - 1) = ((i - 1 : Nat) : Int) := by rw [IntWalk.i64_in _ (by omega)]; omega
          clear i0 j0
          go_wp2_with fail
          go_region
          obtain ⟨w8, hw8⟩ : ∃ w8, World.putCells (World.putCells wr ⟨g, k * 2, none⟩ (GAuctionBid.enc y)) ⟨g, (k + 1) * 2, none⟩ (GAuctionBid.enc x) = w8 := ⟨_, rfl⟩
          rw [hw8] at HW HGW ⊢
          clear hx hy hy2' hf1 hf2' hw8
          go_wp2_with fail
          refine ⟨⟨k + 1, swp dk k (k + 1), by omega, by omega, by go_num, HZ2.out, HW.out.step ((Bel.refl _).drewN 1), GX.tr _ _ _ HGW.out (GX.of_bel ((Bel.refl _).drewN 1) g), HSW.out⟩, ?_⟩
          simp [intOf]; omega
        · have n1 : ¬ (k : Int) < ((i - 1 : Nat) : Int) := by omega
          have e2 : IntKind.i64.wrap ((i : Int) - 1) = ((i - 1 : Nat) : Int) := by rw [IntWalk.i64_in _ (by omega)]; omega
          go_wp2_with fail
          go_end0
          refine ⟨rfl, dk, by rw [HSZ.out, HZ.out], HRK.out, HG.out, ?_⟩
          have h1 := HS.out
          rw [show k + 1 = i by omega] at h1
          have h2 := HF.out
          rw [← hm] at h2
          exact merged_first h1 (by omega) hj h2 (fun q h3 h4 => hlo q (by omega) h4) hhi
set_option maxRecDepth 100000 in
set_option maxHeartbeats 4000000 in
theorem symMerge_last (g c a m : Nat) (d : Array GAuctionBid) (w : World) (hR : RowB w g d) (hd : d.size ≤ 1000000) (ham : a + 1 < m) (hb : m + 1 ≤ d.size) (hf1 : FallsI GAuctionBid.amount d a m) :
    Calls Try.prog 155 #[.slice (some ⟨g, 0, none⟩) d.size c, .int .i64 a, .int .i64 m, .int .i64 ((m + 1 : Nat) : Int), .func (.func 115) #[] #[]] w (RowT w g d fun d' => Merged GAuctionBid.amount d d' a (m + 1)) := by
  obtain ⟨z, hz⟩ : ∃ z, d.size = z := ⟨_, rfl⟩
  rw [hz] at hd hb ⊢
  have HZ := Lib.hid hz
  have HR := Lib.hid hR
  have HF := Lib.hid hf1
  clear hR hz hf1
  obtain ⟨b, hbm⟩ : ∃ b, m + 1 = b := ⟨_, rfl⟩
  rw [hbm] at hb ⊢
  have e1 : IntKind.i64.wrap ((m : Int) - (a : Int)) = ((m - a : Nat) : Int) := by rw [IntWalk.i64_in _ (by omega)]; omega
  have e2 : IntKind.i64.wrap ((b : Int) - (m : Int)) = 1 := by rw [IntWalk.i64_in _ (by omega)]; omega
  have n1 : ¬ ((m - a : Nat) : Int) = 1 := by omega
  go_enter Try.func155, Try.ntmps155
  go_wp2_with fail
  clear e1 e2 n1
  go_loopw [14, 15] (fun vi vj wr => ∃ (i j : Nat), a ≤ i ∧ i ≤ j ∧ j ≤ m ∧ vi = .int .i64 i ∧ vj = .int .i64 j ∧ Bel w wr ∧ Hid (∀ q, a ≤ q → q < i → d[m]!.amount ≤ d[q]!.amount) ∧ Hid (∀ q, j ≤ q → q < m → d[q]!.amount < d[m]!.amount)) (fun vi vj _ => (intOf vj).toNat - (intOf vi).toNat)
  case atStart => exact ⟨a, m, Nat.le_refl _, by omega, Nat.le_refl _, rfl, rfl, Bel.refl _, (fun q h1 h2 => by omega : ∀ q, a ≤ q → q < a → d[m]!.amount ≤ d[q]!.amount), (fun q h1 h2 => by omega : ∀ q, m ≤ q → q < m → d[q]!.amount < d[m]!.amount)⟩
  case round =>
    obtain ⟨i, j, hi, hij, hj, rfl, rfl, hb1, hlo, hhi⟩ := hrel
    have HB := Lib.hid hb1
    clear hb1
    by_cases hlt : i < j
    · obtain ⟨h, hh⟩ : ∃ h, (i + j) / 2 = h := ⟨_, rfl⟩
      have hih : i ≤ h := by omega
      have hhj : h < j := by omega
      go_wp2_with fail
      rw [show ((i : Int) + (j : Int)) / 2 = (h : Int) by omega]
      have hrk := HR.out.step HB.out
      have hzs := HZ.out
      have q1 := hrk.at_ (k := m) (by omega)
      have q2 := hrk.at_ (k := h) (by omega)
      obtain ⟨x, hx⟩ : ∃ x, d[h]! = x := ⟨_, rfl⟩
      obtain ⟨y, hy⟩ : ∃ y, d[m]! = y := ⟨_, rfl⟩
      rw [hy] at q1; rw [hx] at q2
      have HX := Lib.hid hx; have HY := Lib.hid hy
      obtain ⟨r, hr⟩ : ∃ r, decide (x.amount < y.amount) = r := ⟨_, rfl⟩
      have HRR := Lib.hid hr
      have hr2 : decide (cmpI x.amount y.amount < 0) = r := by rw [cmpLess, hr]
      have p1 : (0 : Int) ≤ (h : Int) := by omega
      have p2 : (h : Int) < (z : Int) := by omega
      have p3 : (0 : Int) ≤ (m : Int) := by omega
      have p4 : (m : Int) < (z : Int) := by omega
      clear hrk hzs hx hy hr hh
      refine wp_region_G GB [] GB.rf (by kernel_rfl) ?_
      refine wpG_looks 0 12 [0,1,2,3,4,5,6,7,8,9,10,11] rfl GB.rf GB.tr (by kernel_rfl) (fun _ _ _ _ hd h => And.intro (hd ▸ And.left h) (And.right h)) rfl (by kernel_rfl) ?_
      intro ι W hne CW
      have g1 := fun z => (CW.out z).get q1
      have g2 := fun z => (CW.out z).get q2
      repeat (refine wpLooksG_step (fun K hK => ?_); go_simp; refine hK _ ?_; clear hK K)
      refine wpLooksG_step (fun K hK => ?_); go_simp
      refine ⟨_, fun z => (endFn_any y x (W z)).mono (fun _ _ h => ⟨h.1, by rw [h.2]; exact ((Bel.refl _).alloc _).alloc _⟩), hK _ ?_⟩
      clear hK K
      repeat (refine wpLooksG_step (fun K hK => ?_); go_simp; refine hK _ ?_; clear hK K)
      refine wpLooksG_nil ?_
      clear g1 g2 CW hne W ι
      refine wpG_end (by kernel_rfl) (fun wn hwn => ?_) _
      have HBN := Lib.hid (HB.out.trans hwn.undrew); clear hwn q1 q2
      have hlo2 : r = false → Hid (∀ q, a ≤ q → q < h + 1 → d[m]!.amount ≤ d[q]!.amount) := fun e q h1 h2 => by
        have hxy : ¬ d[h]!.amount < d[m]!.amount := by rw [HX.out, HY.out]; exact of_decide_eq_false (HRR.out.trans e)
        by_cases h3 : q = h
        · rw [h3]; omega
        · have := HF.out q h h1 (by omega) (by omega); omega
      have hhi2 : r = true → Hid (∀ q, h ≤ q → q < m → d[q]!.amount < d[m]!.amount) := fun e q h1 h2 => by
        have hxy : d[h]!.amount < d[m]!.amount := by rw [HX.out, HY.out]; exact of_decide_eq_true (HRR.out.trans e)
        by_cases h3 : q = h
        · rw [h3]; exact hxy
        · have := HF.out h q (by omega) (by omega) h2; omega
      have HLO := Lib.hid hlo2; have HHI := Lib.hid hhi2
      clear hlo2 hhi2
      cases r
      · go_wp2_with fail
        refine ⟨⟨h + 1, by omega, j, by omega, hj, by omega, rfl, HBN.out, HLO.out trivial, hhi⟩, ?_⟩
        simp [intOf]; omega
      · go_wp2_with fail
        refine ⟨⟨i, hi, h, hih, by omega, rfl, rfl, HBN.out, hlo, HHI.out trivial⟩, ?_⟩
        show (h : Int).toNat - (i : Int).toNat < (j : Int).toNat - (i : Int).toNat
        omega
    · obtain rfl : i = j := by omega
      go_wp2_with fail
      go_loopw [17] (fun vk wr => ∃ (k : Nat) (dk : Array GAuctionBid), i ≤ k ∧ k ≤ m ∧ vk = .int .i64 k ∧ dk.size = z ∧ RowB wr g dk ∧ GX g w wr ∧ Rot d dk k m (m + 1)) (fun vk _ => (intOf vk).toNat)
      case atStart => exact ⟨m, d, hj, Nat.le_refl _, rfl, HZ.out, HR.out.step HB.out, GX.of_bel HB.out g, Rot.rf d (Nat.le_refl _) (by omega) (.inl rfl)⟩
      case round =>
        obtain ⟨k, dk, hk1, hk2, rfl, hsz, hr, hg, hs⟩ := hrel
        have HSZ := Lib.hid hsz; have HRK := Lib.hid hr; have HG := Lib.hid hg; have HS := Lib.hid hs
        clear hsz hr hg hs
        by_cases hlt3 : i < k
        · obtain ⟨k, rfl⟩ : ∃ k', k = k' + 1 := ⟨k - 1, by omega⟩
          have i0 : k < dk.size := by rw [HSZ.out]; omega
          have j0 : k + 1 < dk.size := by rw [HSZ.out]; omega
          have hx := HRK.out.at_ i0
          have hy := HRK.out.at_ j0
          have HW := Lib.hid (HRK.out.swp j0 i0)
          have HGW := Lib.hid (gxPut (o := k * 2) (gxPut (o := (k + 1) * 2) HG.out (GAuctionBid.enc dk[k]!)) (GAuctionBid.enc dk[k + 1]!))
          have HSW := Lib.hid (HS.out.left (by omega) (by rw [HZ.out]; omega))
          have HZ2 := Lib.hid (show (swp dk (k + 1) k).size = z by rw [size_swp, HSZ.out])
          obtain ⟨k1, hk1e⟩ : ∃ k1, k + 1 = k1 := ⟨_, rfl⟩
          have hf1 := HRK.out.free
          obtain ⟨x, hxe⟩ : ∃ x, dk[k]! = x := ⟨_, rfl⟩
          obtain ⟨y, hye⟩ : ∃ y, dk[k + 1]! = y := ⟨_, rfl⟩
          have hx2' : get? GAuctionBid (World.putCells wr ⟨g, (k + 1) * 2, none⟩ (GAuctionBid.enc x)) ⟨g, k * 2, none⟩ = some x := by
            rw [← hxe]; exact get?_put_other hx (by omega)
          have hf2' : blkFree (World.putCells wr ⟨g, (k + 1) * 2, none⟩ (GAuctionBid.enc x)) g = true := (blkFree_putCells _ _).trans hf1
          rw [hxe] at hx HW HGW
          rw [hye] at hy HW HGW
          rw [hk1e] at hy HW HGW hx2' hf2' HSW HZ2 hk2 hlt3 j0 ⊢
          have e1 : IntKind.i64.wrap ((k1 : Int) - 1) = (k : Int) := by rw [IntWalk.i64_in _ (by omega)]; omega
          have n1 : (i : Int) < (k1 : Int) := by omega
          have p1 : (0 : Int) ≤ (k : Int) := by omega
          have p2 : (k : Int) < (z : Int) := by rw [HSZ.out] at i0; omega
          have p3 : (0 : Int) ≤ (k1 : Int) := by omega
          have p4 : (k1 : Int) < (z : Int) := by rw [HSZ.out] at j0; omega
          have hi2 : i ≤ k := by omega
          have hkm : k ≤ m := by omega
          have hkk : k < k1 := by omega
          clear i0 j0 hk1e hk1
          go_wp2_with fail
          go_region
          obtain ⟨w8, hw8⟩ : ∃ w8, World.putCells (World.putCells wr ⟨g, k1 * 2, none⟩ (GAuctionBid.enc x)) ⟨g, k * 2, none⟩ (GAuctionBid.enc y) = w8 := ⟨_, rfl⟩
          rw [hw8] at HW HGW ⊢
          clear hx hy hx2' hf1 hf2' hw8
          go_wp2_with fail
          refine ⟨⟨k, swp dk k1 k, hi2, hkm, by first | rfl | go_num, HZ2.out, HW.out.step ((Bel.refl _).drewN 1), GX.tr _ _ _ HGW.out (GX.of_bel ((Bel.refl _).drewN 1) g), HSW.out⟩, ?_⟩
          simp [intOf]; omega
        · obtain rfl : i = k := by omega
          have n1 : ¬ (i : Int) < (i : Int) := by omega
          go_wp2_with fail
          go_end0
          refine ⟨rfl, dk, by rw [HSZ.out, HZ.out], HRK.out, HG.out, ?_⟩
          have h1 := HS.out
          rw [← hbm]
          exact merged_last h1 hi hj HF.out hlo hhi
end Go.Proofs.Yteockodnfempfaa
/- The library's merge of two runs of bids in place, whole. Conditions: those named in each theorem. -/
namespace Go.Proofs.Yteockodnfempfaa
open Go Go.RowKit Go.Gv Go.Sort

/-- Where the search stands: what lies below s, and from r on. -/
def Between (d : Array GAuctionBid) (n lo hi s r : Nat) : Prop := (s = lo ∨ d[n - s]!.amount ≤ d[s - 1]!.amount) ∧ (r = hi ∨ d[r]!.amount < d[n - 1 - r]!.amount)
structure Halves (a m b mid lo hi : Nat) : Prop where
  h1 : mid = (a + b) / 2
  h2 : a + 1 < m
  h3 : m + 1 < b
  which : (mid < m ∧ lo = mid + m - b ∧ hi = mid) ∨ (m ≤ mid ∧ lo = a ∧ hi = m)
theorem FallsI.same {d d' : Array GAuctionBid} {a b : Nat} (h : FallsI GAuctionBid.amount d a b) (e : ∀ x, a ≤ x → x < b → d'[x]! = d[x]!) : FallsI GAuctionBid.amount d' a b := fun i j h1 h2 h3 => by
  rw [e i h1 (by omega), e j (by omega) h3]; exact h i j h1 h2 h3
theorem Between.cut {d : Array GAuctionBid} {a m b mid lo hi s : Nat} (h : Halves a m b mid lo hi) (hs1 : lo ≤ s) (hs2 : s ≤ hi) (B : Between d (mid + m) lo hi s s) (f1 : FallsI GAuctionBid.amount d a m) (f2 : FallsI GAuctionBid.amount d m b) : Cut GAuctionBid.amount d a s m (mid + m - s) b := by
  have := h.h1; have := h.h2; have := h.h3; have hw := h.which
  refine ⟨by omega, by omega, by omega, by omega, f1, f2, fun i j h1 h2 h3 h4 => ?_, fun i j h1 h2 h3 h4 => ?_⟩
  · rcases B.1 with e | e
    · omega
    · have e1 : d[s - 1]!.amount ≤ d[i]!.amount := by
        by_cases q : i = s - 1
        · rw [q]; exact Int.le_refl _
        · exact f1 i (s - 1) h1 (by omega) (by omega)
      have e2 : d[j]!.amount ≤ d[mid + m - s]!.amount := by
        by_cases q : j = mid + m - s
        · rw [q]; exact Int.le_refl _
        · exact f2 (mid + m - s) j (by omega) (by omega) h4
      omega
  · rcases B.2 with e | e
    · omega
    · have e1 : d[i]!.amount ≤ d[s]!.amount := by
        by_cases q : i = s
        · rw [q]; exact Int.le_refl _
        · exact f1 s i (by omega) (by omega) h2
      have e2 : d[mid + m - 1 - s]!.amount ≤ d[j]!.amount := by
        by_cases q : j = mid + m - 1 - s
        · rw [q]; exact Int.le_refl _
        · exact f2 j (mid + m - 1 - s) h3 (by omega) (by omega)
      omega
set_option maxRecDepth 100000 in
set_option maxHeartbeats 8000000 in
theorem symMerge_step (N : Nat) (ih : ∀ (g c a m b : Nat) (d : Array GAuctionBid) (w : World), b - a ≤ N → RowB w g d → d.size ≤ 1000000 → a < m → m < b → b ≤ d.size → FallsI GAuctionBid.amount d a m → FallsI GAuctionBid.amount d m b →
      Calls Try.prog 155 #[.slice (some ⟨g, 0, none⟩) d.size c, .int .i64 a, .int .i64 m, .int .i64 b, .func (.func 115) #[] #[]] w (RowT w g d fun d' => Merged GAuctionBid.amount d d' a b))
    (g c a m b : Nat) (d : Array GAuctionBid) (w : World) (hN : b - a ≤ N + 1) (hR : RowB w g d) (hd : d.size ≤ 1000000) (ham : a + 1 < m) (hmb : m + 1 < b) (hb : b ≤ d.size) (hf1 : FallsI GAuctionBid.amount d a m) (hf2 : FallsI GAuctionBid.amount d m b) :
    Calls Try.prog 155 #[.slice (some ⟨g, 0, none⟩) d.size c, .int .i64 a, .int .i64 m, .int .i64 b, .func (.func 115) #[] #[]] w (RowT w g d fun d' => Merged GAuctionBid.amount d d' a b) := by
  have IH := Lib.hid ih
  obtain ⟨z, hz⟩ : ∃ z, d.size = z := ⟨_, rfl⟩
  rw [hz] at hd hb ⊢
  have HZ := Lib.hid hz
  have HR := Lib.hid hR
  have HF1 := Lib.hid hf1; have HF2 := Lib.hid hf2
  clear hR hz hf1 hf2 ih
  obtain ⟨mid, hmid⟩ : ∃ mid, (a + b) / 2 = mid := ⟨_, rfl⟩
  have hmz : ((a : Int) + (b : Int)) / 2 = (mid : Int) := by omega
  obtain ⟨lo, hi, hwhich⟩ : ∃ lo hi : Nat, (mid < m ∧ lo = mid + m - b ∧ hi = mid) ∨ (m ≤ mid ∧ lo = a ∧ hi = m) := by
    by_cases h : mid < m
    · exact ⟨_, _, .inl ⟨h, rfl, rfl⟩⟩
    · exact ⟨_, _, .inr ⟨by omega, rfl, rfl⟩⟩
  have hH : Halves a m b mid lo hi := ⟨hmid.symm, ham, hmb, hwhich⟩
  have HH := Lib.hid hH; have HWH := Lib.hid hwhich; have HMID := Lib.hid hmid
  have e1 : IntKind.i64.wrap ((m : Int) - (a : Int)) = ((m - a : Nat) : Int) := by rw [IntWalk.i64_in _ (by omega)]; omega
  have e2 : IntKind.i64.wrap ((b : Int) - (m : Int)) = ((b - m : Nat) : Int) := by rw [IntWalk.i64_in _ (by omega)]; omega
  have n1 : ¬ ((m - a : Nat) : Int) = 1 := by omega
  have n2 : ¬ ((b - m : Nat) : Int) = 1 := by omega
  have hlohi : lo ≤ hi := by omega
  have hhim : hi ≤ m := by omega
  have halo : a ≤ lo := by omega
  clear hH hwhich hmid
  go_enter Try.func155, Try.ntmps155
  go_upto_if 140 with fail
  go_cut [20, 21] (fun v0 v1 wx => v0 = .int .i64 lo ∧ v1 = .int .i64 hi ∧ wx = w)
  case first => as_aux_lemma =>
    rcases HWH.out with ⟨h1, h2, h3⟩ | ⟨h1, h2, h3⟩
    · have n3 : (mid : Int) < (m : Int) := by omega
      go_wp2
      go_meet
      exact ⟨by congr 1; omega, by rw [h3], rfl⟩
    · have n3 : ¬ (mid : Int) < (m : Int) := by omega
      go_wp2
      go_meet
      exact ⟨by rw [h2], by rw [h3], rfl⟩
  case rest =>
    obtain ⟨rfl, rfl, rfl⟩ := hcut
    go_wp2_with fail
    go_loopw [20, 21] (fun vi vj wr => ∃ (s r : Nat), lo ≤ s ∧ s ≤ r ∧ r ≤ hi ∧ vi = .int .i64 s ∧ vj = .int .i64 r ∧ Bel wc wr ∧ Hid (Between d (mid + m) lo hi s r)) (fun vi vj _ => (intOf vj).toNat - (intOf vi).toNat)
    case atStart => exact ⟨lo, hi, Nat.le_refl _, hlohi, Nat.le_refl _, rfl, rfl, Bel.refl _, (⟨.inl rfl, .inl rfl⟩ : Between d (mid + m) lo hi lo hi)⟩
    case round =>
      obtain ⟨s, r, hs, hsr, hr, rfl, rfl, hb1, hbt⟩ := hrel
      have HB := Lib.hid hb1
      have HBT := Lib.hid hbt.out
      clear hb1 hbt
      by_cases hlt : s < r
      · as_aux_lemma =>
          obtain ⟨h, hh⟩ : ∃ h, (s + r) / 2 = h := ⟨_, rfl⟩
          have hih : s ≤ h := by omega
          have hhj : h < r := by omega
          go_wp2_with fail
          rw [show ((s : Int) + (r : Int)) / 2 = (h : Int) by omega]
          have hrk := HR.out.step HB.out
          have hzs := HZ.out
          obtain ⟨p, hp⟩ : ∃ p, mid + m - 1 - h = p := ⟨_, rfl⟩
          have hph : h < m ∧ m ≤ p ∧ p < b ∧ a ≤ h := by
            have := HWH.out; have := HMID.out
            omega
          have q1 := hrk.at_ (k := p) (by omega)
          have q2 := hrk.at_ (k := h) (by omega)
          obtain ⟨x, hx⟩ : ∃ x, d[h]! = x := ⟨_, rfl⟩
          obtain ⟨y, hy⟩ : ∃ y, d[p]! = y := ⟨_, rfl⟩
          rw [hy] at q1; rw [hx] at q2
          have HX := Lib.hid hx; have HY := Lib.hid hy; have HP := Lib.hid hp; have HPH := Lib.hid hph
          obtain ⟨rr, hr2⟩ : ∃ r, decide (x.amount < y.amount) = r := ⟨_, rfl⟩
          have HRR := Lib.hid hr2
          have hr3 : decide (cmpI x.amount y.amount < 0) = rr := by rw [cmpLess, hr2]
          have p1 : (0 : Int) ≤ (h : Int) := by omega
          have p2 : (h : Int) < (z : Int) := by omega
          have p3 : (0 : Int) ≤ (p : Int) := by omega
          have p4 : (p : Int) < (z : Int) := by omega
          have ep : IntKind.i64.wrap ((mid : Int) + (m : Int) - 1 - (h : Int)) = (p : Int) := by
            have := HMID.out
            rw [IntWalk.i64_in _ (by omega)]; omega
          clear hrk hzs hx hy hr2 hh hp hph
          refine wp_region_G GB [] GB.rf (by kernel_rfl) ?_
          refine wpG_looks 0 14 [0,1,2,3,4,5,6,7,8,9,10,11,12,13] rfl GB.rf GB.tr (by kernel_rfl) (fun _ _ _ _ hd h => And.intro (hd ▸ And.left h) (And.right h)) rfl (by kernel_rfl) ?_
          intro ι W hne CW
          have g1 := fun z => (CW.out z).get q1
          have g2 := fun z => (CW.out z).get q2
          repeat (refine wpLooksG_step (fun K hK => ?_); go_simp; refine hK _ ?_; clear hK K)
          refine wpLooksG_step (fun K hK => ?_); go_simp
          refine ⟨_, fun z => (endFn_any y x (W z)).mono (fun _ _ h => ⟨h.1, by rw [h.2]; exact ((Bel.refl _).alloc _).alloc _⟩), hK _ ?_⟩
          clear hK K
          repeat (refine wpLooksG_step (fun K hK => ?_); go_simp; refine hK _ ?_; clear hK K)
          refine wpLooksG_nil ?_
          clear g1 g2 CW hne W ι
          refine wpG_end (by kernel_rfl) (fun wn hwn => ?_) _
          have HBN := Lib.hid (HB.out.trans hwn.undrew); clear hwn q1 q2 ep hr3
          have hlo2 : rr = false → Hid (Between d (mid + m) lo hi (h + 1) r) := fun e => by
            refine ⟨.inr ?_, HBT.out.2⟩
            have hxy : ¬ d[h]!.amount < d[p]!.amount := by rw [HX.out, HY.out]; exact of_decide_eq_false (HRR.out.trans e)
            have := HP.out
            rw [Nat.add_sub_cancel, show mid + m - (h + 1) = p by omega]; omega
          have hhi2 : rr = true → Hid (Between d (mid + m) lo hi s h) := fun e => by
            refine ⟨HBT.out.1, .inr ?_⟩
            have hxy : d[h]!.amount < d[p]!.amount := by rw [HX.out, HY.out]; exact of_decide_eq_true (HRR.out.trans e)
            rw [HP.out]; exact hxy
          have HLO := Lib.hid hlo2; have HHI := Lib.hid hhi2
          clear hlo2 hhi2
          cases rr
          · go_wp2_with fail
            refine ⟨⟨h + 1, r, by omega, by omega, hr, by go_num, rfl, HBN.out, HLO.out rfl⟩, ?_⟩
            simp [intOf]; omega
          · go_wp2_with fail
            refine ⟨⟨s, h, hs, hih, by omega, rfl, rfl, HBN.out, HHI.out rfl⟩, ?_⟩
            show (h : Int).toNat - (s : Int).toNat < (r : Int).toNat - (s : Int).toNat
            omega
      · obtain rfl : s = r := by omega
        obtain ⟨e, he⟩ : ∃ e, mid + m - s = e := ⟨_, rfl⟩
        have hcut0 := HBT.out.cut HH.out hs hr HF1.out HF2.out
        rw [he] at hcut0
        have HCUT := Lib.hid hcut0
        have h1 := hcut0.u1; have h2 := hcut0.u2; have h3 := hcut0.u3; have h4 := hcut0.u4
        have hes : s + (e - m) = mid := by have := HWH.out; have := HMID.out; omega
        have hse : mid + m < 9223372036854775807 := by have := HMID.out; omega
        have es : IntKind.i64.wrap ((mid : Int) + (m : Int) - (s : Int)) = (e : Int) := by rw [IntWalk.i64_in _ (by omega)]; omega
        have HES := Lib.hid hes
        clear hcut0 hes hse he
        go_upto_region 39 with fail
        clear es
        go_cut [185] (fun v wx => v = .bool (decide (s < m ∧ m < e)) ∧ wx = wr)
        case first => as_aux_lemma =>
          by_cases c1 : s < m
          · by_cases c2 : m < e
            · go_wp2
              go_meet
              exact ⟨by simp [c1, c2], rfl⟩
            · go_wp2
              go_meet
              exact ⟨by simp [c2], rfl⟩
          · go_wp2
            go_meet
            exact ⟨by simp [c1], rfl⟩
        case rest =>
          obtain ⟨rfl, rfl⟩ := hcut
          obtain ⟨wr, rfl⟩ : ∃ w', w' = wc := ⟨_, rfl⟩
          have hz1 : e ≤ z := by omega
          go_upto_if 185 with fail
          go_cut [24] (fun v wx => v = .int .i64 e ∧ ∃ r : Array GAuctionBid, r.size = z ∧ RowB wx g r ∧ GX g wr wx ∧ Rot d r s m e)
          case first => as_aux_lemma =>
            have hrk := HR.out.step HB.out
            by_cases c1 : s < m ∧ m < e
            · have hc := rotate_any g c s m e d (.func (.func 115) #[] #[]) wr hrk (by rw [HZ.out]; omega) c1.1 c1.2 (by rw [HZ.out]; exact hz1)
              rw [HZ.out] at hc
              have HC := Lib.hid hc
              have hd1 : decide (s < m ∧ m < e) = true := decide_eq_true c1
              rw [hd1]
              clear hc hrk hd1
              go_wp2_with fail
              refine HC.out.mono ?_
              rintro _ w1 ⟨rfl, d1, hs1, hr1, hg1, hsw⟩
              have H1 := Lib.hid hs1; have H2 := Lib.hid hr1; have H3 := Lib.hid hg1; have H4 := Lib.hid hsw
              clear hs1 hr1 hg1 hsw
              go_wp2
              go_meet
              exact ⟨rfl, d1, by rw [H1.out, HZ.out], H2.out, H3.out, H4.out⟩
            · have hd1 : decide (s < m ∧ m < e) = false := decide_eq_false c1
              rw [hd1]
              have H2 := Lib.hid hrk
              clear hrk hd1
              go_wp2
              go_meet
              exact ⟨rfl, d, HZ.out, H2.out, GX.rf _, Rot.rf d h2 h3 (by omega)⟩
          case rest =>
            obtain ⟨rfl, r, hrz, hrr, hrg, hrot⟩ := hcut
            have HRZ := Lib.hid hrz; have HRW := Lib.hid hrr; have HRG := Lib.hid (GX.tr _ _ _ (GX.of_bel HB.out g) hrg); have HROT := Lib.hid hrot
            clear hrz hrr hrg hrot
            obtain ⟨w1, rfl⟩ : ∃ w', w' = wc := ⟨_, rfl⟩
            go_upto_region 41 with fail
            go_cut [199] (fun v wx => v = .bool (decide (a < s ∧ s < mid)) ∧ wx = w1)
            case first => as_aux_lemma =>
              by_cases c1 : a < s
              · by_cases c2 : s < mid
                · go_wp2
                  go_meet
                  exact ⟨by simp [c1, c2], rfl⟩
                · go_wp2
                  go_meet
                  exact ⟨by simp [c2], rfl⟩
              · go_wp2
                go_meet
                exact ⟨by simp [c1], rfl⟩
            case rest =>
              obtain ⟨rfl, rfl⟩ := hcut
              obtain ⟨w1, rfl⟩ : ∃ w', w' = wc := ⟨_, rfl⟩
              go_upto_if 199 with fail
              go_cut [24] (fun v wx => v = .int .i64 e ∧ ∃ d1 : Array GAuctionBid, d1.size = z ∧ RowB wx g d1 ∧ GX g w1 wx ∧ Merged GAuctionBid.amount r d1 a mid)
              case first => as_aux_lemma =>
                have hes := HMID.out
                have hes2 : s + (e - m) = mid := HES.out
                have hr1 := HCUT.out.r1 HROT.out
                have hr2 := HCUT.out.r2 HROT.out
                rw [hes2] at hr2
                by_cases c1 : a < s ∧ s < mid
                · have hc := IH.out g c a s mid r w1 (by omega) HRW.out (by rw [HRZ.out]; omega) c1.1 c1.2 (by rw [HRZ.out]; omega) hr1 hr2
                  rw [HRZ.out] at hc
                  have HC := Lib.hid hc
                  have hd1 : decide (a < s ∧ s < mid) = true := decide_eq_true c1
                  rw [hd1]
                  clear hc hd1 hr1 hr2 hes hes2
                  go_wp2_with fail
                  refine HC.out.mono ?_
                  rintro _ w2 ⟨rfl, d1, hs1, hr1, hg1, hsw⟩
                  have H1 := Lib.hid hs1; have H2 := Lib.hid hr1; have H3 := Lib.hid hg1; have H4 := Lib.hid hsw
                  clear hs1 hr1 hg1 hsw
                  go_wp2
                  go_meet
                  exact ⟨rfl, d1, by rw [H1.out, HRZ.out], H2.out, H3.out, H4.out⟩
                · have hd1 : decide (a < s ∧ s < mid) = false := decide_eq_false c1
                  rw [hd1]
                  have HM := Lib.hid (show Merged GAuctionBid.amount r r a mid from Merged.rf (by
                    by_cases c2 : a < s
                    · have : s = mid := by omega
                      rw [← this]; exact hr1
                    · have : s = a := by omega
                      rw [← this]; exact hr2))
                  clear hd1 hr1 hr2 hes hes2
                  go_wp2
                  go_meet
                  exact ⟨rfl, r, HRZ.out, HRW.out, GX.rf _, HM.out⟩
              case rest =>
                obtain ⟨rfl, d1, hz1', hr1', hg1', hm1'⟩ := hcut
                have H1 := Lib.hid hz1'; have H2 := Lib.hid hr1'; have H3 := Lib.hid (GX.tr _ _ _ HRG.out hg1'); have H4 := Lib.hid hm1'
                clear hz1' hr1' hg1' hm1'
                obtain ⟨w2, rfl⟩ : ∃ w', w' = wc := ⟨_, rfl⟩
                go_upto_region 43 with fail
                go_cut [213] (fun v wx => v = .bool (decide (mid < e ∧ e < b)) ∧ wx = w2)
                case first => as_aux_lemma =>
                  by_cases c1 : mid < e
                  · by_cases c2 : e < b
                    · go_wp2
                      go_meet
                      exact ⟨by simp [c1, c2], rfl⟩
                    · go_wp2
                      go_meet
                      exact ⟨by simp [c2], rfl⟩
                  · go_wp2
                    go_meet
                    exact ⟨by simp [c1], rfl⟩
                case rest => as_aux_lemma =>
                  obtain ⟨rfl, rfl⟩ := hcut
                  obtain ⟨w2, rfl⟩ : ∃ w', w' = wc := ⟨_, rfl⟩
                  have hes := HMID.out
                  have hes2 : s + (e - m) = mid := HES.out
                  have hr3 : FallsI GAuctionBid.amount d1 mid e := by
                    have := HCUT.out.r3 HROT.out
                    rw [hes2] at this
                    exact FallsI.same this fun x h5 _ => H4.out.out x (.inr h5)
                  have hr4 : FallsI GAuctionBid.amount d1 e b := FallsI.same (HCUT.out.r4 HROT.out) fun x h5 _ => H4.out.out x (.inr (by omega))
                  have hdone : ∀ d2, Merged GAuctionBid.amount d1 d2 mid b → Merged GAuctionBid.amount d d2 a b := fun d2 h5 => HCUT.out.done HROT.out (by rw [hes2]; exact H4.out) (by rw [hes2]; exact h5)
                  have HD := Lib.hid hdone
                  by_cases c1 : mid < e ∧ e < b
                  · have hc := IH.out g c mid e b d1 w2 (by omega) H2.out (by rw [H1.out]; omega) c1.1 c1.2 (by rw [H1.out]; omega) hr3 hr4
                    rw [H1.out] at hc
                    have HC := Lib.hid hc
                    have hd1 : decide (mid < e ∧ e < b) = true := decide_eq_true c1
                    rw [hd1]
                    clear hc hd1 hr3 hr4 hes hes2 hdone
                    go_wp2_with fail
                    refine HC.out.mono ?_
                    rintro _ w3 ⟨rfl, d2, hs2, hr2, hg2, hsw⟩
                    have K1 := Lib.hid hs2; have K2 := Lib.hid hr2; have K3 := Lib.hid hg2; have K4 := Lib.hid hsw
                    clear hs2 hr2 hg2 hsw
                    go_wp2
                    go_end0
                    exact ⟨rfl, d2, by rw [K1.out, H1.out, HZ.out], K2.out, GX.tr _ _ _ H3.out K3.out, HD.out _ K4.out⟩
                  · have hd1 : decide (mid < e ∧ e < b) = false := decide_eq_false c1
                    rw [hd1]
                    have HM := Lib.hid (show Merged GAuctionBid.amount d1 d1 mid b from Merged.rf (by
                      by_cases c2 : mid < e
                      · have : e = b := by omega
                        rw [← this]; exact hr3
                      · have : e = mid := by omega
                        rw [← this]; exact hr4))
                    clear hd1 hr3 hr4 hes hes2 hdone
                    go_wp2
                    go_end0
                    exact ⟨rfl, d1, by rw [H1.out, HZ.out], H2.out, H3.out, HD.out _ HM.out⟩
theorem symMerge_any : ∀ (N : Nat) (g c a m b : Nat) (d : Array GAuctionBid) (w : World), b - a ≤ N → RowB w g d → d.size ≤ 1000000 → a < m → m < b → b ≤ d.size → FallsI GAuctionBid.amount d a m → FallsI GAuctionBid.amount d m b →
      Calls Try.prog 155 #[.slice (some ⟨g, 0, none⟩) d.size c, .int .i64 a, .int .i64 m, .int .i64 b, .func (.func 115) #[] #[]] w (RowT w g d fun d' => Merged GAuctionBid.amount d d' a b)
  | 0, _, _, a, m, b, _, _, h, _, _, h1, h2, _, _, _ => by omega
  | N + 1, g, c, a, m, b, d, w, h, hR, hd, h1, h2, hb, f1, f2 => by
    by_cases e1 : m = a + 1
    · subst e1
      exact symMerge_first g c a b d w hR hd h2 hb f2
    · by_cases e2 : b = m + 1
      · subst e2
        exact symMerge_last g c a m d w hR hd (by omega) hb f1
      · exact symMerge_step N (symMerge_any N) g c a m b d w h hR hd (by omega) (by omega) hb f1 f2
end Go.Proofs.Yteockodnfempfaa
/- The library's stable sort of bids, of any length. Conditions: those named in each theorem. -/
namespace Go.Proofs.Yteockodnfempfaa
open Go Go.RowKit Go.Gv Go.Sort

abbrev bkey : GAuctionBid → Int := GAuctionBid.amount
theorem Merged.whole {d d' : Array GAuctionBid} {a b z : Nat} (h : Merged bkey d d' a b) (ha : a ≤ b) (hb : b ≤ z) : StabE bkey (sg d 0 z) (sg d' 0 z) := by
  rw [sg_split d (c := a) (by omega) (by omega), sg_split d (a := a) (c := b) ha hb, sg_split d' (c := a) (by omega) (by omega), sg_split d' (a := a) (c := b) ha hb]
  rw [sg_same (d := d) (d' := d') fun i _ h2 => h.out i (.inl h2), sg_same (a := b) (b := z) (d := d) (d' := d') fun i h1 _ => h.out i (.inr h1)]
  exact StabE.app (StabE.rf _) (StabE.app h.stab (StabE.rf _))
/-- The first k runs of s are sorted. -/
def Done (d : Array GAuctionBid) (s k : Nat) : Prop := ∀ t, t < k → FallsI bkey d (s * t) (s * t + s)
/-- From a on: runs of s, up to z. -/
def Runs (d : Array GAuctionBid) (s a z : Nat) : Prop := ∀ t, FallsI bkey d (a + s * t) (min (a + s * t + s) z)
theorem FallsI.none_ {d : Array GAuctionBid} {a b : Nat} (h : b ≤ a) : FallsI bkey d a b := fun i j h1 h2 h3 => by omega
theorem Done.next {d d' : Array GAuctionBid} {s k : Nat} (h : Done d s k) (hm : Merged bkey d d' (s * k) (s * k + s)) : Done d' s (k + 1) := fun t ht => by
  by_cases e : t = k
  · subst e; exact hm.falls
  · refine FallsI.same (h t (by omega)) fun x _ hx => hm.out x (.inl ?_)
    have : s * (t + 1) ≤ s * k := Nat.mul_le_mul_left s (by omega)
    rw [Nat.mul_add, Nat.mul_one] at this
    omega
theorem Done.runs {d d' : Array GAuctionBid} {s k z : Nat} (h : Done d s k) (hm : Merged bkey d d' (s * k) z) (hz : z ≤ s * k + s) : Runs d' s 0 z := fun t => by
  rw [Nat.zero_add]
  rcases Nat.lt_trichotomy t k with e | e | e
  · have : s * (t + 1) ≤ s * k := Nat.mul_le_mul_left s (by omega)
    rw [Nat.mul_add, Nat.mul_one] at this
    intro i j h1 h2 h3
    exact FallsI.same (h t e) (fun x _ hx => hm.out x (.inl (by omega))) i j h1 h2 (by omega)
  · subst e
    intro i j h1 h2 h3
    exact hm.falls i j h1 h2 (by omega)
  · have : s * (k + 1) ≤ s * t := Nat.mul_le_mul_left s (by omega)
    rw [Nat.mul_add, Nat.mul_one] at this
    exact FallsI.none_ (by omega)
theorem Runs.first {d : Array GAuctionBid} {s a z : Nat} (h : Runs d s a z) : FallsI bkey d a (min (a + s) z) := by have := h 0; simpa using this
theorem Runs.second {d : Array GAuctionBid} {s a z : Nat} (h : Runs d s a z) : FallsI bkey d (a + s) (min (a + s + s) z) := by have := h 1; simpa using this
theorem Runs.next {d d' : Array GAuctionBid} {s a z b : Nat} (h : Runs d s a z) (hm : Merged bkey d d' a (a + (s + s))) (hb : b = a + (s + s)) : Runs d' s b z := fun t => by
  subst hb
  have := h (t + 2)
  rw [Nat.mul_add] at this
  have e : a + (s * t + s * 2) = a + (s + s) + s * t := by omega
  rw [e] at this
  exact FallsI.same this fun x hx _ => hm.out x (.inr (by omega))
theorem Runs.whole {d : Array GAuctionBid} {s z : Nat} (h : Runs d s 0 z) (hz : z ≤ s) : FallsI bkey d 0 z := by
  have := h.first
  rwa [Nat.zero_add, Nat.min_eq_right hz] at this
theorem sortWorldK_blkFree {α : Type} [Inhabited α] (enc : α → List Value) (k : Nat) (w : World) (blk off m : Nat) (d : Array α) (os : Array Obj) (hl : blk < w.heap.size) (h : blkFree w blk = true) : blkFree (sortWorldK enc k w blk off m d os) blk = true := by
  unfold blkFree at *
  unfold sortWorldK putRowK putRow mapBlock grow
  show objFree ((Array.modify w.heap blk _ ++ os)[blk]?) = true
  rw [Array.getElem?_append, if_pos (by simpa using hl), Array.getElem?_modify, if_pos rfl]
  rw [Array.getElem?_eq_getElem hl] at h ⊢
  cases ho : w.heap[blk] with
  | cells cs t fr => rw [ho] at h; exact h
  | _ => rw [ho] at h; cases h
theorem insRow_any (g c a b : Nat) (d : Array GAuctionBid) (w : World) (hR : RowB w g d) (hab : a ≤ b) (hb : b ≤ d.size) (hn : d.size ≤ 1000000) :
    Calls Try.prog 154 #[.slice (some ⟨g, 0, none⟩) d.size c, .int .i64 a, .int .i64 b, .func (.func 115) #[] #[]] w (RowT w g d fun d' => Merged bkey d d' a b) := by
  have hH := hR.sl.holdsK hR.free
  have e0 : d.toList.toArray = d := by simp
  rw [e0] at hH
  have := AnyQ.insertionSortCmpFunc Try.insBid 2 Try.isAgg151 Try.sizeOf151 (Enc.enc : GAuctionBid → List Value) GAuctionBid.enc_len GAuctionBid.enc_one bidCmp 115 #[] g 0 c a b d w
    (enters_of Try.func115 (by kernel_rfl) rfl) (endFn_lays _ _ _ _) hH hR.lt hab hb (by omega)
  refine this.mono ?_
  rintro e w' ⟨rfl, n, os, rfl⟩
  have hM := insertion_merged bkey d hab hb
  rw [ltOf_bidCmp]
  obtain ⟨h1, h2⟩ := sorted_is (m := n) (os := os) hH hR.lt hM.size
  have hsz := sortWorldK_free (Enc.enc : GAuctionBid → List Value) 2 w g 0 n (insertionSort (ltK bkey) d a b) os
  refine ⟨rfl, _, hM.size, ⟨h1.more hsz, ?_, Nat.lt_of_lt_of_le hR.lt hsz⟩, h2, hM⟩
  exact sortWorldK_blkFree _ _ _ _ _ _ _ _ hR.lt hR.free
set_option maxRecDepth 100000 in
set_option maxHeartbeats 4000000 in
theorem stableRow_any (g c : Nat) (d : Array GAuctionBid) (w : World) (hR : RowB w g d) (hn : d.size ≤ 1000000) :
    Calls Try.prog 142 #[.slice (some ⟨g, 0, none⟩) d.size c, .int .i64 d.size, .func (.func 115) #[] #[]] w (RowT w g d fun d' => Merged bkey d d' 0 d.size) := by
  obtain ⟨z, hz⟩ : ∃ z, d.size = z := ⟨_, rfl⟩
  rw [hz] at hn ⊢
  have HZ := Lib.hid hz
  have HR := Lib.hid hR
  clear hR hz
  go_enter Try.func142, Try.ntmps142
  go_wp2_with fail
  go_loopw [7, 8] (fun va vb wr => ∃ (k a : Nat) (dk : Array GAuctionBid), a = 20 * k ∧ a ≤ z ∧ va = .int .i64 a ∧ vb = .int .i64 ((a + 20 : Nat) : Int) ∧ dk.size = z ∧ RowB wr g dk ∧ GX g w wr ∧ Done dk 20 k ∧ StabE bkey (sg d 0 z) (sg dk 0 z)) (fun va _ _ => z + 1 - (intOf va).toNat)
  case atStart => exact ⟨0, 0, d, rfl, Nat.zero_le _, rfl, rfl, HZ.out, HR.out, GX.rf _, (fun t ht => absurd ht (by omega)), StabE.rf _⟩
  case round =>
    obtain ⟨k, a, dk, hak, haz, rfl, rfl, hsz, hr, hg, hdn, hst⟩ := hrel
    have HSZ := Lib.hid hsz; have HRK := Lib.hid hr; have HG := Lib.hid hg; have HD := Lib.hid hdn; have HS := Lib.hid hst; have HAK := Lib.hid hak
    clear hsz hr hg hdn hst hak
    by_cases hlt : a + 20 ≤ z
    · have hc := insRow_any g c a (a + 20) dk wr HRK.out (by omega) (by rw [HSZ.out]; exact hlt) (by rw [HSZ.out]; exact hn)
      rw [HSZ.out] at hc
      obtain ⟨b, hb⟩ : ∃ b, a + 20 = b := ⟨_, rfl⟩
      rw [hb] at hc hlt ⊢
      have HC := Lib.hid hc
      have hn1 : (b : Int) ≤ (z : Int) := by omega
      clear hc
      go_wp2_with fail
      refine HC.out.mono ?_
      rintro _ w1 ⟨rfl, d1, hs1, hr1, hg1, hm1⟩
      have H1 := Lib.hid hs1; have H2 := Lib.hid hr1; have H3 := Lib.hid hg1; have H4 := Lib.hid hm1
      clear hs1 hr1 hg1 hm1
      go_wp2_with fail
      refine ⟨⟨k + 1, b, d1, by have := HAK.out; omega, hlt, rfl, by go_num, by rw [H1.out, HSZ.out], H2.out, GX.tr _ _ _ HG.out H3.out, HD.out.next (by rw [← HAK.out, hb]; exact H4.out), HS.out.tr (Merged.whole H4.out (by omega) hlt)⟩, ?_⟩
      show z + 1 - (b : Int).toNat < z + 1 - (a : Int).toNat
      omega
    · have hc := insRow_any g c a z dk wr HRK.out haz (by rw [HSZ.out]; exact Nat.le_refl _) (by rw [HSZ.out]; exact hn)
      rw [HSZ.out] at hc
      have HC := Lib.hid hc
      have hn1 : ¬ ((a + 20 : Nat) : Int) ≤ (z : Int) := by omega
      have hn2 : ¬ (a : Int) + 20 ≤ (z : Int) := by omega
      clear hc
      go_wp2_with fail
      refine HC.out.mono ?_
      rintro _ w1 ⟨rfl, d1, hs1, hr1, hg1, hm1⟩
      have H1 := Lib.hid hs1; have H2 := Lib.hid hr1; have H3 := Lib.hid (GX.tr _ _ _ HG.out hg1); have H4 := Lib.hid hm1
      have H5 := Lib.hid (show Runs d1 20 0 z from HD.out.runs (by rw [← HAK.out]; exact hm1) (by rw [← HAK.out]; omega))
      have H6 := Lib.hid (HS.out.tr (Merged.whole hm1 haz (Nat.le_refl _)))
      clear hs1 hr1 hg1 hm1 hn1 hn2
      go_wp2_with fail
      go_loopw [6] (fun vs wr => ∃ (s : Nat) (dk : Array GAuctionBid), 0 < s ∧ s ≤ 2000000 ∧ vs = .int .i64 s ∧ dk.size = z ∧ RowB wr g dk ∧ GX g w wr ∧ Runs dk s 0 z ∧ StabE bkey (sg d 0 z) (sg dk 0 z)) (fun vs _ => z - (intOf vs).toNat)
      case atStart => exact ⟨20, d1, by omega, by omega, rfl, by rw [H1.out, HSZ.out], H2.out, H3.out, H5.out, H6.out⟩
      case round =>
        clear H1 H2 H3 H4 H5 H6 HC HD HS HAK HSZ HRK HG hlt haz
        obtain ⟨s, dk, hs0, hs1, rfl, hsz, hr, hg, hrn, hst⟩ := hrel
        have HSZ := Lib.hid hsz; have HRK := Lib.hid hr; have HG := Lib.hid hg; have HD := Lib.hid hrn; have HS := Lib.hid hst
        clear hsz hr hg hrn hst
        by_cases hlt : s < z
        · go_wp2_with fail
          go_loopw [7, 8] (fun va vb wr' => ∃ (k a : Nat) (dd : Array GAuctionBid), a = (s + s) * k ∧ a ≤ z ∧ va = .int .i64 a ∧ vb = .int .i64 ((a + (s + s) : Nat) : Int) ∧ dd.size = z ∧ RowB wr' g dd ∧ GX g w wr' ∧ Done dd (s + s) k ∧ Runs dd s a z ∧ StabE bkey (sg d 0 z) (sg dd 0 z)) (fun va _ _ => z + 1 - (intOf va).toNat)
          case atStart => exact ⟨0, 0, dk, rfl, Nat.zero_le _, rfl, by congr 1; omega, HSZ.out, HRK.out, HG.out, (fun t ht => absurd ht (by omega)), HD.out, HS.out⟩
          case round =>
            clear HSZ HRK HG HD HS
            obtain ⟨k, a, dd, hak, haz, rfl, rfl, hsz, hr, hg, hdn, hrn, hst⟩ := hrel
            have HSZ := Lib.hid hsz; have HRK := Lib.hid hr; have HG := Lib.hid hg; have HD := Lib.hid hdn; have HRN := Lib.hid hrn; have HS := Lib.hid hst; have HAK := Lib.hid hak
            clear hsz hr hg hdn hrn hst hak
            obtain ⟨b, hb⟩ : ∃ b, a + (s + s) = b := ⟨_, rfl⟩
            rw [hb]
            have HB := Lib.hid hb
            have hf1 := HRN.out.first
            have hf2 := HRN.out.second
            by_cases hbz : b ≤ z
            · rw [Nat.min_eq_left (by omega)] at hf1 hf2
              rw [show a + s + s = b by omega] at hf2
              have hc := symMerge_any (b - a) g c a (a + s) b dd wr (Nat.le_refl _) HRK.out (by rw [HSZ.out]; omega) (by omega) (by omega) (by rw [HSZ.out]; exact hbz) hf1 hf2
              rw [HSZ.out, Int.natCast_add] at hc
              have HC := Lib.hid hc
              have hab : a < b := by omega
              clear hc hf1 hf2 hb
              go_wp2_with fail
              refine HC.out.mono ?_
              rintro _ w1 ⟨rfl, d1, hs1', hr1, hg1, hm1⟩
              have H1 := Lib.hid hs1'; have H2 := Lib.hid hr1; have H3 := Lib.hid hg1; have H4 := Lib.hid hm1
              clear hs1' hr1 hg1 hm1
              go_wp2_with fail
              refine ⟨⟨k + 1, b, d1, by rw [Nat.mul_add, Nat.mul_one, ← HAK.out, HB.out], hbz, rfl, by congr 1; omega, by rw [H1.out, HSZ.out], H2.out, GX.tr _ _ _ HG.out H3.out, HD.out.next (by rw [← HAK.out, HB.out]; exact H4.out), Runs.next HRN.out (by rw [HB.out]; exact H4.out) HB.out.symm, HS.out.tr (Merged.whole H4.out (by omega) hbz)⟩, ?_⟩
              show z + 1 - (b : Int).toNat < z + 1 - (a : Int).toNat
              omega
            · have hn1 : ¬ (b : Int) ≤ (z : Int) := by omega
              go_upto_if 54 with fail
              go_cut [6] (fun v wx => v = .int .i64 s ∧ ∃ d1 : Array GAuctionBid, d1.size = z ∧ RowB wx g d1 ∧ GX g w wx ∧ Merged bkey dd d1 a z)
              case first => as_aux_lemma =>
                by_cases hm : a + s < z
                · rw [Nat.min_eq_left (by omega)] at hf1
                  rw [Nat.min_eq_right (by omega)] at hf2
                  have hc := symMerge_any (z - a) g c a (a + s) z dd wr (Nat.le_refl _) HRK.out (by rw [HSZ.out]; omega) (by omega) hm (by rw [HSZ.out]; exact Nat.le_refl _) hf1 hf2
                  rw [HSZ.out, Int.natCast_add] at hc
                  have HC := Lib.hid hc
                  have hn2 : (a : Int) + (s : Int) < (z : Int) := by omega
                  clear hc hf1 hf2 hb
                  go_wp2_with fail
                  refine HC.out.mono ?_
                  rintro _ w1 ⟨rfl, d1, hs1', hr1, hg1, hm1⟩
                  have H1 := Lib.hid hs1'; have H2 := Lib.hid hr1; have H3 := Lib.hid hg1; have H4 := Lib.hid hm1
                  clear hs1' hr1 hg1 hm1
                  go_wp2
                  go_meet
                  exact ⟨rfl, d1, by rw [H1.out, HSZ.out], H2.out, GX.tr _ _ _ HG.out H3.out, H4.out⟩
                · rw [Nat.min_eq_right (by omega)] at hf1
                  have H4 := Lib.hid (Merged.rf hf1)
                  have hn2 : ¬ (a : Int) + (s : Int) < (z : Int) := by omega
                  clear hf1 hf2 hb
                  go_wp2
                  go_meet
                  exact ⟨rfl, dd, HSZ.out, HRK.out, HG.out, H4.out⟩
              case rest =>
                obtain ⟨rfl, d1, hs1', hr1, hg1, hm1⟩ := hcut
                have H1 := Lib.hid hs1'; have H2 := Lib.hid hr1; have H3 := Lib.hid hg1
                have H4 := Lib.hid (show Runs d1 (s + s) 0 z from HD.out.runs (by rw [← HAK.out]; exact hm1) (by rw [← HAK.out]; omega))
                have H5 := Lib.hid (HS.out.tr (Merged.whole hm1 haz (Nat.le_refl _)))
                clear hs1' hr1 hg1 hm1 hf1 hf2
                go_wp2_with fail
                refine ⟨⟨s + s, d1, by omega, by omega, by congr 1; omega, H1.out, H2.out, H3.out, H4.out, H5.out⟩, ?_⟩
                simp [intOf]; omega
        · have hn1 : ¬ (s : Int) < (z : Int) := by omega
          go_wp2_with fail
          go_end0
          refine ⟨rfl, dk, by rw [HSZ.out, HZ.out], HRK.out, HG.out, by rw [HSZ.out, HZ.out], fun x hx => ?_, HD.out.whole (by omega), HS.out⟩
          rcases hx with hx | hx
          · omega
          · rw [getElem!_neg _ _ (by rw [HSZ.out]; omega), getElem!_neg _ _ (by rw [HZ.out]; omega)]
end Go.Proofs.Yteockodnfempfaa
