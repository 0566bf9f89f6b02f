/- How auctions end, in plain words. Conditions: those named in each theorem. -/
import Derived.Test.YteockodnfempfaaAuP
namespace Go.Proofs.Yteockodnfempfaa
open Go Go.RowKit Go.Gv Go.Sort

def maxP (r : Int) (L : List GAuctionBid) : Int := L.foldl (fun m c => max m c.amount) r
def MaxIs (r : Int) (L : List GAuctionBid) (m : Int) : Prop := (m = r ∨ ∃ c ∈ L, m = c.amount) ∧ r ≤ m ∧ ∀ c ∈ L, c.amount ≤ m
theorem maxP_is : ∀ (L : List GAuctionBid) (r : Int), MaxIs r L (maxP r L)
  | [], r => ⟨.inl rfl, Int.le_refl _, by simp⟩
  | c :: L, r => by
    have ih := maxP_is L (max r c.amount)
    have e : maxP r (c :: L) = maxP (max r c.amount) L := rfl
    rw [e]
    obtain ⟨h1, h2, h3⟩ := ih
    refine ⟨?_, by omega, fun d hd => ?_⟩
    · rcases h1 with h1 | ⟨d, hd, h1⟩
      · by_cases h : c.amount ≤ r
        · left; omega
        · right; exact ⟨c, by simp, by omega⟩
      · right; exact ⟨d, by simp [hd], h1⟩
    · rcases List.mem_cons.1 hd with rfl | hd
      · omega
      · exact h3 d hd
theorem MaxIs.unique {r m n : Int} {L M : List GAuctionBid} (h : MaxIs r L m) (h' : MaxIs r M n) (hLM : ∀ c, c ∈ L ↔ c ∈ M) : m = n := by
  obtain ⟨h1, h2, h3⟩ := h
  obtain ⟨k1, k2, k3⟩ := h'
  have a : m ≤ n := by
    rcases h1 with h1 | ⟨c, hc, h1⟩
    · omega
    · have := k3 c ((hLM c).1 hc); omega
  have b : n ≤ m := by
    rcases k1 with k1 | ⟨c, hc, k1⟩
    · omega
    · have := h3 c ((hLM c).2 hc); omega
  omega
theorem maxP_snoc (r : Int) (L : List GAuctionBid) (c : GAuctionBid) : maxP r (L ++ [c]) = max (maxP r L) c.amount := by unfold maxP; simp
def atLeast (s : MSale) : List GAuctionBid := s.bids.filter fun b => decide (s.reserve ≤ b.amount)
theorem endR_none {s : MSale} (h : atLeast s = []) : endR s = ⟨s.name, -1, 0⟩ := by
  have e : endBids s = [] := by
    unfold endBids
    unfold atLeast at h
    rw [h]; rfl
  unfold endR
  rw [e]
theorem endR_first {s : MSale} {pre post : List GAuctionBid} {b : GAuctionBid} (hF : atLeast s = pre ++ b :: post) (h1 : ∀ x ∈ pre, x.amount < b.amount) (h2 : ∀ x ∈ post, x.amount ≤ b.amount) :
    endR s = ⟨s.name, b.client, if s.vickrey = true then maxP s.reserve (pre ++ post) else b.amount⟩ := by
  have hE : endBids s = sortL GAuctionBid.amount (pre ++ b :: post) := by unfold endBids; unfold atLeast at hF; rw [hF]
  have hh := head_sortL (key := GAuctionBid.amount) h1 h2
  have hp := perm_sortL (key := GAuctionBid.amount) (pre ++ b :: post)
  have hf := falls_sortL GAuctionBid.amount (pre ++ b :: post)
  cases hs : sortL GAuctionBid.amount (pre ++ b :: post) with
  | nil => rw [hs] at hh; simp at hh
  | cons b' t =>
    rw [hs] at hh hp hf hE
    simp only [List.head?_cons, Option.some.injEq] at hh
    subst hh
    have ht : t.Perm (pre ++ post) := List.Perm.cons_inv (hp.trans List.perm_middle)
    unfold endR
    rw [hE]
    simp only [endPrice]
    by_cases hv : s.vickrey = true
    · rw [if_pos hv, if_pos hv]
      have hmem : ∀ c, c ∈ t ↔ c ∈ pre ++ post := fun c => ht.mem_iff
      cases t with
      | nil =>
        have : pre ++ post = [] := List.eq_nil_of_length_eq_zero (by have := ht.length_eq; simpa using this.symm)
        rw [this]; rfl
      | cons c t' =>
        simp only
        have hc : s.reserve ≤ c.amount := by
          have h3 : c ∈ atLeast s := by
            rw [hF]
            have := (hmem c).1 (by simp)
            rw [List.mem_append] at this ⊢
            rcases this with h | h
            · exact .inl h
            · exact .inr (by simp [h])
          unfold atLeast at h3
          rw [List.mem_filter] at h3
          simpa using h3.2
        have hm : MaxIs s.reserve (c :: t') c.amount := by
          refine ⟨.inr ⟨c, by simp, rfl⟩, hc, fun d hd => ?_⟩
          rcases List.mem_cons.1 hd with rfl | hd
          · exact Int.le_refl _
          · have h5 := (List.pairwise_cons.1 (List.pairwise_cons.1 hf).2).1 d hd
            exact h5
        rw [hm.unique (maxP_is (pre ++ post) s.reserve) hmem]
    · rw [if_neg hv, if_neg hv]

/-! ### The best of a list of amounts -/
def bidsOf (f : Nat → Int → Int) (l : List Int) : List GAuctionBid := l.mapIdx fun i a => ⟨(i : Int), f i a⟩
theorem bidsOf_snoc (f : Nat → Int → Int) (l : List Int) (x : Int) : bidsOf f (l ++ [x]) = bidsOf f l ++ [⟨(l.length : Int), f l.length x⟩] := by unfold bidsOf; simp [List.mapIdx_append]
theorem bidsOf_len (f : Nat → Int → Int) (l : List Int) : (bidsOf f l).length = l.length := by unfold bidsOf; simp
theorem bidsOf_get {f : Nat → Int → Int} {l : List Int} {i : Nat} {b : GAuctionBid} (h : (bidsOf f l)[i]? = some b) : ∃ a, l[i]? = some a ∧ b = ⟨(i : Int), f i a⟩ := by
  unfold bidsOf at h
  rw [List.getElem?_mapIdx] at h
  cases hl : l[i]? with
  | none => rw [hl] at h; cases h
  | some a => rw [hl] at h; simp at h; exact ⟨a, rfl, h.symm⟩
/-- b is the place of the first of the greatest that are at least r (-1: there are none). -/
def BestAt (r : Int) (l : List Int) (b : Int) : Prop :=
  (b = -1 ∧ ∀ x ∈ l, x < r) ∨ ∃ (k : Nat) (a : Int), b = k ∧ l[k]? = some a ∧ r ≤ a ∧ (∀ (j : Nat) (x : Int), l[j]? = some x → j < k → x < a) ∧ ∀ (j : Nat) (x : Int), l[j]? = some x → x ≤ a
theorem BestAt.nil (r : Int) : BestAt r [] (-1) := .inl ⟨rfl, by simp⟩
theorem get_snoc {l : List Int} {x y : Int} {j : Nat} (h : (l ++ [x])[j]? = some y) : (j < l.length ∧ l[j]? = some y) ∨ (j = l.length ∧ y = x) := by
  rcases Nat.lt_or_ge j l.length with hj | hj
  · rw [List.getElem?_append_left hj] at h; exact .inl ⟨hj, h⟩
  · rw [List.getElem?_append_right hj] at h
    have : j - l.length = 0 := by
      cases hq : j - l.length with
      | zero => rfl
      | succ q => rw [hq] at h; simp at h
    rw [this] at h
    simp at h
    exact .inr ⟨by omega, h.symm⟩
theorem BestAt.same {r : Int} {l : List Int} {b x : Int} (h : BestAt r l b) (hx : x < r ∨ ∃ (k : Nat) (a : Int), b = k ∧ l[k]? = some a ∧ x ≤ a) : BestAt r (l ++ [x]) b := by
  rcases h with ⟨rfl, h⟩ | ⟨k, a, rfl, h1, h2, h3, h4⟩
  · rcases hx with hx | ⟨k, a, e, _⟩
    · refine .inl ⟨rfl, fun y hy => ?_⟩
      rw [List.mem_append, List.mem_singleton] at hy
      rcases hy with hy | rfl
      · exact h y hy
      · exact hx
    · omega
  · have hxa : x ≤ a := by
      rcases hx with hx | ⟨k', a', e, e2, e3⟩
      · omega
      · have : k' = k := by omega
        subst this
        rw [h1] at e2; injection e2 with e2; omega
    have hkl : k < l.length := (List.getElem?_eq_some_iff.1 h1).1
    refine .inr ⟨k, a, rfl, by rw [List.getElem?_append_left hkl]; exact h1, h2, fun j y hy hj => ?_, fun j y hy => ?_⟩
    · rcases get_snoc hy with ⟨_, h⟩ | ⟨e, _⟩
      · exact h3 j y h hj
      · omega
    · rcases get_snoc hy with ⟨_, h⟩ | ⟨_, rfl⟩
      · exact h4 j y h
      · exact hxa
theorem BestAt.new {r : Int} {l : List Int} {b x : Int} (h : BestAt r l b) (hr : r ≤ x) (hx : b < 0 ∨ ∃ (k : Nat) (a : Int), b = k ∧ l[k]? = some a ∧ a < x) : BestAt r (l ++ [x]) (l.length : Int) := by
  have hall : ∀ (j : Nat) (y : Int), l[j]? = some y → y < x := by
    intro j y hy
    rcases h with ⟨rfl, h⟩ | ⟨k, a, rfl, h1, h2, h3, h4⟩
    · have := h y (List.mem_of_getElem? hy); omega
    · have := h4 j y hy
      rcases hx with hx | ⟨k', a', e, e2, e3⟩
      · omega
      · have : k' = k := by omega
        subst this
        rw [h1] at e2; injection e2 with e2; omega
  refine .inr ⟨l.length, x, rfl, by simp, hr, fun j y hy hj => ?_, fun j y hy => ?_⟩
  · rcases get_snoc hy with ⟨_, h⟩ | ⟨e, _⟩
    · exact hall j y h
    · omega
  · rcases get_snoc hy with ⟨_, h⟩ | ⟨_, rfl⟩
    · have := hall j y h; omega
    · exact Int.le_refl _
/-- The others that reach r. -/
def others (r : Int) (k : Int) (l : List GAuctionBid) : List GAuctionBid := l.filter fun c => decide (r ≤ c.amount) && !decide (c.client = k)
/-- How it ends for bids by places, where f raises the best alone. -/
theorem endR_best {s : MSale} {f : Nat → Int → Int} {l : List Int} {k : Nat} {a : Int} (hb : s.bids = bidsOf f l) (hk : l[k]? = some a) (hr : s.reserve ≤ f k a) (h3 : ∀ (j : Nat) (x : Int), l[j]? = some x → j < k → f j x < f k a) (h4 : ∀ (j : Nat) (x : Int), l[j]? = some x → f j x ≤ f k a) :
    endR s = ⟨s.name, (k : Int), if s.vickrey = true then maxP s.reserve (others s.reserve k (bidsOf f l)) else f k a⟩ := by
  obtain ⟨bs, hbs⟩ : ∃ bs, bidsOf f l = bs := ⟨_, rfl⟩
  have hkl : k < l.length := (List.getElem?_eq_some_iff.1 hk).1
  have hkb : bs[k]? = some ⟨(k : Int), f k a⟩ := by
    rw [← hbs]; unfold bidsOf; rw [List.getElem?_mapIdx, hk]; rfl
  have hget : ∀ {i : Nat} {b : GAuctionBid}, bs[i]? = some b → ∃ a, l[i]? = some a ∧ b = ⟨(i : Int), f i a⟩ := fun h => bidsOf_get (hbs ▸ h)
  have hkl2 : k < bs.length := (List.getElem?_eq_some_iff.1 hkb).1
  have hsplit : bs = bs.take k ++ (⟨(k : Int), f k a⟩ : GAuctionBid) :: bs.drop (k + 1) := by
    have e := (List.getElem?_eq_some_iff.1 hkb).2
    conv => lhs; rw [← List.take_append_drop k bs, List.drop_eq_getElem_cons hkl2, e]
  have hpre : ∀ c ∈ bs.take k, ∃ j x, j < k ∧ l[j]? = some x ∧ c = ⟨(j : Int), f j x⟩ := by
    intro c hc
    obtain ⟨j, hj⟩ := List.getElem?_of_mem hc
    rw [List.getElem?_take] at hj
    split at hj
    · rename_i hjk
      obtain ⟨x, h1, h2⟩ := hget hj
      exact ⟨j, x, hjk, h1, h2⟩
    · cases hj
  have hpost : ∀ c ∈ bs.drop (k + 1), ∃ j x, k < j ∧ l[j]? = some x ∧ c = ⟨(j : Int), f j x⟩ := by
    intro c hc
    obtain ⟨j, hj⟩ := List.getElem?_of_mem hc
    rw [List.getElem?_drop] at hj
    obtain ⟨x, h1, h2⟩ := hget hj
    exact ⟨k + 1 + j, x, by omega, h1, h2⟩
  have hF : atLeast s = (bs.take k).filter (fun b => decide (s.reserve ≤ b.amount)) ++ (⟨(k : Int), f k a⟩ : GAuctionBid) :: (bs.drop (k + 1)).filter (fun b => decide (s.reserve ≤ b.amount)) := by
    unfold atLeast
    rw [hb, hbs]
    conv => lhs; rw [hsplit]
    rw [List.filter_append, List.filter_cons]
    simp [hr]
  have hO : others s.reserve k bs = (bs.take k).filter (fun b => decide (s.reserve ≤ b.amount)) ++ (bs.drop (k + 1)).filter (fun b => decide (s.reserve ≤ b.amount)) := by
    unfold others
    conv => lhs; rw [hsplit]
    rw [List.filter_append, List.filter_cons]
    simp only [decide_true, Bool.not_true, Bool.and_false, Bool.false_eq_true, if_false]
    congr 1
    · apply List.filter_congr
      intro c hc
      obtain ⟨j, x, h1, _, rfl⟩ := hpre c hc
      have : ¬ (j : Int) = k := by omega
      simp [this]
    · apply List.filter_congr
      intro c hc
      obtain ⟨j, x, h1, _, rfl⟩ := hpost c hc
      have : ¬ (j : Int) = k := by omega
      simp [this]
  rw [hbs, hO]
  refine endR_first hF (fun c hc => ?_) (fun c hc => ?_)
  · obtain ⟨j, x, h1, h2, rfl⟩ := hpre c (List.mem_filter.1 hc).1
    exact h3 j x h2 h1
  · obtain ⟨j, x, h1, h2, rfl⟩ := hpost c (List.mem_filter.1 hc).1
    exact h4 j x h2
/-- Bids by places, all unlike: whatever their order, one end. -/
theorem endR_perm {s t : MSale} (hn : s.name = t.name) (hv : s.vickrey = t.vickrey) (hr : s.reserve = t.reserve) (hp : s.bids.Perm t.bids) (hu : s.bids.Pairwise fun a b => a.amount ≠ b.amount) : endR s = endR t := by
  have hF : (atLeast s).Perm (atLeast t) := by unfold atLeast; rw [hr]; exact hp.filter _
  have huF : (atLeast s).Pairwise fun a b => a.amount ≠ b.amount := hu.filter _
  have huT : (atLeast t).Pairwise fun a b => a.amount ≠ b.amount := (hF.pairwise_iff (fun {_ _} h => Ne.symm h)).1 huF
  have key : ∀ (l m : List GAuctionBid), l.Perm m → Falls GAuctionBid.amount l → Falls GAuctionBid.amount m → (l.Pairwise fun a b => a.amount ≠ b.amount) → l = m := by
    intro l
    induction l with
    | nil => intro m h _ _ _; exact (List.eq_nil_of_length_eq_zero (by simpa using h.length_eq.symm)).symm
    | cons a l ih =>
      intro m h hl hm hu
      cases m with
      | nil => have := h.length_eq; simp at this
      | cons b m =>
        unfold Falls at hl hm
        rw [List.pairwise_cons] at hl hm hu
        have e : a = b := by
          have h1 : a ∈ b :: m := h.mem_iff.1 (by simp)
          have h2 : b ∈ a :: l := h.mem_iff.2 (by simp)
          rcases List.mem_cons.1 h1 with h1 | h1
          · exact h1
          · rcases List.mem_cons.1 h2 with h2 | h2
            · exact h2.symm
            · have k1 := hm.1 a h1
              have k2 := hl.1 b h2
              exact absurd (by omega) (hu.1 b h2)
        subst e
        rw [ih m h.cons_inv hl.2 hm.2 hu.2]
  have hE : endBids s = endBids t := by
    have e1 : endBids s = sortL GAuctionBid.amount (atLeast s) := rfl
    have e2 : endBids t = sortL GAuctionBid.amount (atLeast t) := rfl
    rw [e1, e2]
    refine key _ _ (((perm_sortL (key := GAuctionBid.amount) _).trans hF).trans (perm_sortL (key := GAuctionBid.amount) _).symm) (falls_sortL _ _) (falls_sortL _ _) ?_
    exact ((perm_sortL (key := GAuctionBid.amount) (atLeast s)).pairwise_iff (fun {_ _} h => Ne.symm h)).2 huF
  unfold endR
  rw [hE, hn]
  cases endBids t with
  | nil => rfl
  | cons b r =>
    simp only [endPrice, hv, hr]

/-! ### A house of one auction -/
theorem mset_one {V : Type} (k : ByteArray) (x y : V) : mset [(k, x)] k y = [(k, y)] := by unfold mset; simp
theorem mget_one {V : Type} (k : ByteArray) (x : V) : mget [(k, x)] k = some x := by rw [mget_cons, if_pos rfl]
theorem dueM_one (k : ByteArray) (x : MSale) (now : Int) : dueM [(k, x)] now = if dueB now x = true then [x] else [] := by
  unfold dueM
  by_cases h : dueB now x = true <;> simp [h]
theorem settle_one (k : ByteArray) (x : MSale) (now : Int) : settleH [(k, x)] now = [(k, if dueB now x = true then doneM x else x)] := by
  unfold settleH
  by_cases h : dueB now x = true <;> simp [h]
theorem perm_one {α : Type} {D : List α} {x : α} (h : D.Perm [x]) : D = [x] := List.perm_singleton.1 h
theorem perm_none {α : Type} {D : List α} (h : D.Perm []) : D = [] := List.perm_nil.1 h
end Go.Proofs.Yteockodnfempfaa
