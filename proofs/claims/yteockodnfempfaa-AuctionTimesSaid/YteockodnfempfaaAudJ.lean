/- A map of stamps under construction; AuditTurned returns true, walked. Conditions: those named in each theorem. -/
import Derived.Test.YteockodnfempfaaAudI
namespace Go.Proofs.Yteockodnfempfaa
open Go Go.RowKit Go.Gv

theorem _root_.Go.Gv.Sl.grown {α : Type} [Enc α] {w w' : World} {B : Nat} {A : Option Addr} {n : Nat} {xs : List α} {row : Option Nat} (h : Sl α w B A n xs) (hg : w.grownBy w' row) (hB : B ≤ w.heap.size) (hne : 0 < n → ∀ ad, A = some ad → row ≠ some ad.block) : Sl α w' B A n xs := by
  refine ⟨h.1, fun hn => ?_⟩
  obtain ⟨ad, e, hb, hc⟩ := h.2 hn
  exact ⟨ad, e, hb, fun k x hx => (get?_keep (hg.block _ (by rw [add_block]; omega) (by rw [add_block]; exact fun h => hne hn ad e h.symm))).trans (hc k x hx)⟩
theorem _root_.Go.Gv.Sl.block_lt {α : Type} [Enc α] {w : World} {B : Nat} {A : Option Addr} {n : Nat} {xs : List α} (h : Sl α w B A n xs) (hn : 0 < n) {ad : Addr} (ha : A = some ad) : ad.block < B := by
  obtain ⟨ad', e, hb, _⟩ := h.2 hn
  rw [ha] at e; injection e with e; subst e; exact hb
theorem append_spec {α : Type} [Enc α] {w : World} {base B : Nat} {e t : TypeId} {v : Value} {xs ys : List α} {P : Program} {by8 : Nat} {A : Option Addr} {m c : Nat} {ty : TypeId} {r : Result Value} (hrun : (gAppend #[t, t] ty #[v, .slice A m c]).run P w = r) (E : ElemI P t e α by8) (hown : OwnS w base e v xs) (hr : Sl α w B A m ys) (h63 : xs.length + m ≤ maxLen) (hbytes : (xs.length + m) * by8 ≤ 140737488355328) (hbase : base ≤ w.heap.size) :
    ∃ v' w', r = .ok v' w' ∧ OwnS w' base e v' (xs ++ ys) ∧ w.grownBy w' v.ownBlock ∧ (v'.ownBlock = v.ownBlock ∨ v'.ownBlock = some w.heap.size) := by
  obtain ⟨v', w', h, rest⟩ := gAppend_S E hown hr h63 hbytes hbase ty
  exact ⟨v', w', hrun.symm.trans h, rest⟩

@[go_sem ↓ high] theorem mu37s (w : World) (r : Nat) (k : GName) (A : Option Addr) (n c : Nat) : (gMapUpdate 37 (.map (some r)) (GName.val k) (.slice A n c)).run Try.prog w = okU ((mapAt GName Hdr w r).isSome) (mput Try.prog 37 w r k (⟨A, n, c⟩ : Hdr)) (noUpdate Try.prog 37 (.map (some r)) (GName.val k) (Hdr.val ⟨A, n, c⟩) w) := mu_37 w r k ⟨A, n, c⟩

/-- A map of stamps at block r, while a slice of the call's own (in block ob) grows beside it. -/
structure StInv (w : World) (r : Nat) (ob : Option Nat) (m : List (GName × Hdr)) (st : GName → List U64) : Prop where
  hm : mapAt GName Hdr w r = some m
  some_ : ∀ k h, mget m k = some h → Sl U64 w w.heap.size h.a h.len (st k) ∧ h.len ≤ maxLen ∧ (0 < h.len → ∀ ad, h.a = some ad → ob ≠ some ad.block)
  none_ : ∀ k, mget m k = none → st k = []
  ob_ : ob ≠ some r
section
variable {w w' : World} {r : Nat} {ob ob' : Option Nat} {m : List (GName × Hdr)} {st : GName → List U64}
theorem StInv.nil (w : World) (h : ob ≠ some w.heap.size) : StInv (w.alloc (.map #[] 0)) w.heap.size ob [] (fun _ => []) :=
  ⟨mapAt_new _ _ _, fun k h hk => by simp [mget_nil] at hk, fun _ _ => rfl, h⟩
theorem StInv.below (h : StInv w r ob m st) (hb : Below w.heap.size w w') : StInv w' r ob m st :=
  ⟨(mapAt_below hb (mapAt_lt h.hm)).trans h.hm, fun k hd hk => ⟨(h.some_ k hd hk).1.step hb, (h.some_ k hd hk).2⟩, h.none_, h.ob_⟩
theorem StInv.grown (h : StInv w r ob m st) (hg : w.grownBy w' ob) (ho : ob' = ob ∨ ob' = some w.heap.size) : StInv w' r ob' m st := by
  refine ⟨mapAt_grown hg (Ne.symm h.ob_) h.hm, fun k hd hk => ?_, h.none_, ?_⟩
  · obtain ⟨h1, h2, h3⟩ := h.some_ k hd hk
    refine ⟨(h1.grown hg (Nat.le_refl _) h3).more hg.size, h2, fun hn ad ha => ?_⟩
    rcases ho with rfl | rfl
    · exact h3 hn ad ha
    · intro e; injection e with e
      have := h1.block_lt hn ha; omega
  · rcases ho with rfl | rfl
    · exact h.ob_
    · intro e; injection e with e
      have := mapAt_lt h.hm; omega
theorem StInv.put (h : StInv w r ob m st) (k : GName) (hd : Hdr) (xs : List U64) (hx : Sl U64 w w.heap.size hd.a hd.len xs) (hl : hd.len ≤ maxLen) (hne : 0 < hd.len → ∀ ad, hd.a = some ad → ob ≠ some ad.block) :
    StInv (mput Try.prog 37 w r k hd) r ob (mset m k hd) (fun k' => if k' = k then xs else st k') := by
  have hsl : ∀ {A : Option Addr} {n : Nat} {ys : List U64}, Sl U64 w w.heap.size A n ys → Sl U64 (mput Try.prog 37 w r k hd) (mput Try.prog 37 w r k hd).heap.size A n ys := by
    intro A n ys h0
    refine ⟨h0.1, fun hn => ?_⟩
    obtain ⟨ad, e, hb, hc⟩ := h0.2 hn
    exact ⟨ad, e, by rw [mput_size kl25 um37 h.hm]; exact hb, fun j x hj => by rw [mput_get kl25 um37 h.hm]; exact hc j x hj⟩
  refine ⟨mapAt_mput kl25 um37 h.hm k hd, fun k' hd' hk' => ?_, fun k' hk' => ?_, h.ob_⟩
  · by_cases e : k' = k
    · subst e
      rw [mget_mset_same] at hk'; injection hk' with hk'; subst hk'
      rw [if_pos rfl]
      exact ⟨hsl hx, hl, hne⟩
    · rw [mget_mset_other _ _ e] at hk'
      rw [if_neg e]
      obtain ⟨h1, h2⟩ := h.some_ k' hd' hk'
      exact ⟨hsl h1, h2⟩
  · by_cases e : k' = k
    · subst e; rw [mget_mset_same] at hk'; cases hk'
    · rw [mget_mset_other _ _ e] at hk'
      simp only [if_neg e]
      exact h.none_ k' hk'
theorem StInv.is (h : StInv w r ob m st) : StampsIs w w.heap.size (.map (some r)) (fun k => (mget m k).getD default) st :=
  stampsMap h.hm (mapAt_lt h.hm) fun k => by
    cases hk : mget m k with
    | none => rw [h.none_ k hk]; exact ⟨Sl.nil, Nat.zero_le _⟩
    | some hd => exact ⟨(h.some_ k hd hk).1, (h.some_ k hd hk).2.1⟩
end

/-! ### AuditTurned, plain -/
def entE (i : Nat) (t : Int) : GEntry := ⟨⟨i, 1⟩, default, t⟩
def entL (T : List Int) : List GEntry := T.mapIdx entE
def stOf (T : List Int) (k : GName) : List U64 := if k.seq = 1 ∧ 0 ≤ k.client then (match T[k.client.toNat]? with | some t => [⟨t⟩, ⟨t + 1⟩] | none => []) else []
structure TimesOk (T : List Int) (L : Int) : Prop where
  up : ∀ (i j : Nat) (a b : Int), T[i]? = some a → T[j]? = some b → i < j → a + 1 < b
  le : ∀ t ∈ T, 0 ≤ t ∧ t + 1 ≤ L
  l0 : 0 ≤ L
  l6 : L ≤ 6 * T.length
theorem stOf_snoc (T : List Int) (t : Int) : (fun k' => if k' = (⟨(T.length : Int), 1⟩ : GName) then [⟨t⟩, ⟨t + 1⟩] else stOf T k') = stOf (T ++ [t]) := by
  funext k
  by_cases e : k = ⟨(T.length : Int), 1⟩
  · subst e
    simp [stOf]
  · rw [if_neg e]
    unfold stOf
    by_cases hk : k.seq = 1 ∧ 0 ≤ k.client
    · rw [if_pos hk, if_pos hk]
      have hne : k.client.toNat ≠ T.length := fun h => e (by obtain ⟨c, s⟩ := k; simp only at hk h; congr 1 <;> omega)
      by_cases hlt : k.client.toNat < T.length
      · rw [List.getElem?_append_left hlt]
      · rw [List.getElem?_eq_none (by omega), List.getElem?_eq_none (by simp; omega)]
    · rw [if_neg hk, if_neg hk]
theorem TimesOk.snoc {T : List Int} {L x : Int} (h : TimesOk T L) (h0 : 0 ≤ x) (h4 : x ≤ 4) : TimesOk (T ++ [L + 1 + x]) (L + 1 + x + 1) := by
  have hle := h.le; have hl0 := h.l0; have hl6 := h.l6
  refine ⟨fun i j a b hi hj hij => ?_, fun t ht => ?_, by omega, by simp; omega⟩
  · have hj' := (List.getElem?_eq_some_iff.1 hj).1
    simp at hj'
    rw [List.getElem?_append_left (by omega)] at hi
    by_cases hjl : j < T.length
    · rw [List.getElem?_append_left hjl] at hj
      exact h.up i j a b hi hj hij
    · have : j = T.length := by omega
      subst this
      simp at hj
      have := hle a (List.mem_of_getElem? hi)
      omega
  · simp at ht
    rcases ht with ht | rfl
    · have := hle t ht; omega
    · omega
theorem entL_snoc (T : List Int) (t : Int) : entL (T ++ [t]) = entL T ++ [entE T.length t] := by simp [entL, List.mapIdx_append]
theorem entL_get {T : List Int} {i : Nat} {e : GEntry} (h : (entL T)[i]? = some e) : ∃ t, T[i]? = some t ∧ e = entE i t := by
  simp only [entL, List.getElem?_mapIdx, Option.map_eq_some_iff] at h
  obtain ⟨t, h1, h2⟩ := h; exact ⟨t, h1, h2.symm⟩
theorem stOf_at {T : List Int} {i : Nat} {t : Int} (h : T[i]? = some t) : stOf T (entE i t).name = [⟨t⟩, ⟨t + 1⟩] := by simp [stOf, entE, h]
theorem belowB_pair (s t : Int) : belowB [⟨s⟩, ⟨s + 1⟩] [⟨t⟩, ⟨t + 1⟩] = decide (s + 1 < t) := by
  rw [Bool.eq_iff_iff]
  simp [belowB, allBelow]
  omega
theorem fair_entL {T : List Int} {L : Int} (h : TimesOk T L) (ls : List (List GEntry)) (hls : ∀ l ∈ ls, ∃ k, l = (entL T).take k) : fairB ls (stOf T) = true := by
  rw [fairB_iff]
  intro l hl i j b a hi hj hji
  obtain ⟨k, rfl⟩ := hls l hl
  have hi' : (entL T)[i]? = some b := by rw [List.getElem?_take] at hi; split at hi; exact hi; cases hi
  have hj' : (entL T)[j]? = some a := by rw [List.getElem?_take] at hj; split at hj; exact hj; cases hj
  obtain ⟨t, h1, rfl⟩ := entL_get hi'
  obtain ⟨s, h2, rfl⟩ := entL_get hj'
  rw [stOf_at h1, stOf_at h2, belowB_pair, decide_eq_false_iff_not]
  have := h.up j i s t h2 h1 hji
  omega
theorem unfair_swap {T : List Int} {L : Int} (h : TimesOk T L) {i : Nat} {a b : GEntry} (ha : (entL T)[i]? = some a) (hb : (entL T)[i + 1]? = some b) (l : List GEntry) : fairB [l, ((entL T).set i b).set (i + 1) a] (stOf T) = false := by
  obtain ⟨s, h1, rfl⟩ := entL_get ha
  obtain ⟨t, h2, rfl⟩ := entL_get hb
  have l1 := (List.getElem?_eq_some_iff.1 ha).1
  have l2 := (List.getElem?_eq_some_iff.1 hb).1
  refine fairB_no (k := 1) (i := i + 1) (j := i) (l := ((entL T).set i (entE (i + 1) t)).set (i + 1) (entE i s)) rfl ?_ ?_ (by omega) ?_ (a := entE (i + 1) t) (b := entE i s)
  · rw [List.getElem?_set_self (by simpa using l2)]
  · rw [List.getElem?_set_ne (by omega), List.getElem?_set_self l1]
  · rw [stOf_at h1, stOf_at h2, belowB_pair, decide_eq_true_eq]
    exact h.up i (i + 1) s t h1 h2 (by omega)
theorem fair_none (ls : List (List GEntry)) : fairB ls (fun _ => []) = true := by
  rw [fairB_iff]; intro l _ i j b a _ _ _; rfl
end Go.Proofs.Yteockodnfempfaa
