/- The document's example of an auction. Conditions: none. -/
import Derived.Test.YteockodnfempfaaP20
import Derived.Sort.Walk0
import Derived.Test.YteockodnfempfaaP1
/- The order in which Settle sorts. Conditions: those named in each theorem. -/
namespace Go.Proofs.Yteockodnfempfaa
open Go Go.RowKit Go.Gv Go.Sort Go.Proofs
/-- Less, as a statement. -/
theorem saleLt_iff (x y : GAuctionSale) : ltOf saleCmp x y = true ↔ x.close < y.close ∨ (x.close = y.close ∧ x.name.toList < y.name.toList) := by
  unfold ltOf saleCmp orI cmpI cmpS
  rw [bytesLess_eq, decide_eq_true_eq]
  by_cases h1 : x.close < y.close
  · simp [h1]
  · by_cases h2 : y.close < x.close
    · simp [h1, h2]; omega
    · have h3 : x.close = y.close := by omega
      by_cases h4 : x.name.toList < y.name.toList
      · simp [h3, h4]
      · by_cases h5 : x.name.toList = y.name.toList
        · simp [h3, h5]
        · simp [h3, h4, h5]
theorem saleCmp_swo : SWO (ltOf saleCmp) := by
  constructor
  · intro x
    rw [Bool.eq_false_iff]; intro h
    rcases (saleLt_iff _ _).1 h with h | ⟨_, h⟩
    · omega
    · exact absurd h (List.lt_irrefl _)
  · intro x y z h1 h2
    rw [saleLt_iff] at *
    rcases h1 with h1 | ⟨h1, h3⟩ <;> rcases h2 with h2 | ⟨h2, h4⟩
    · left; omega
    · left; omega
    · left; omega
    · right; exact ⟨by omega, List.lt_trans h3 h4⟩
  · intro x y z h1 h2
    rw [Bool.eq_false_iff, ne_eq, saleLt_iff] at *
    rintro (h | ⟨h, h3⟩)
    · exact h1 (.inl (by
        by_cases h4 : y.close < z.close
        · exact absurd (.inl h4) h2
        · omega))
    · have e1 : ¬ x.close < y.close := fun h => h1 (.inl h)
      have e2 : ¬ y.close < z.close := fun h => h2 (.inl h)
      have e3 : ¬ x.name.toList < y.name.toList := fun h' => h1 (.inr ⟨by omega, h'⟩)
      have e4 : ¬ y.name.toList < z.name.toList := fun h' => h2 (.inr ⟨by omega, h'⟩)
      have := List.le_trans (List.not_lt.1 e4) (List.not_lt.1 e3)
      exact List.not_lt.2 this h3
end Go.Proofs.Yteockodnfempfaa
/- What SortFunc at sales computes. Conditions: those named in each theorem. -/
namespace Go.Proofs.Yteockodnfempfaa
open Go Go.RowKit Go.Gv Go.Sort Go.Proofs
set_option maxRecDepth 100000 in
theorem settleFn_lays (blk off size : Nat) (w : World) : CmpLays Try.prog 76 #[] (Enc.enc : GAuctionSale → List Value) 9 saleCmp blk off size w := by
  intro m os dk _ x y
  generalize sortWorldK (Enc.enc : GAuctionSale → List Value) 9 w blk off m dk os = W
  rw [Array.append_empty]
  rw [← GAuctionSale.val_eq, ← GAuctionSale.val_eq]
  exact settleFn_any x y W
theorem sortSale_any (blk off cap : Nat) (xs : List GAuctionSale) (w : World) (hx : Sl GAuctionSale w w.heap.size (some ⟨blk, off, none⟩) xs.length xs) (hb : blk < w.heap.size) (hf : blkFree w blk = true) (hn : xs.length ≤ 1000000) :
    Calls Try.prog 75 #[.slice (some ⟨blk, off, none⟩) xs.length cap, .func (.func 76) #[] #[]] w fun e w' => e = .returned (.tuple #[]) ∧
      ∃ d' : Array GAuctionSale, PermIn 0 xs.toArray.size xs.toArray d' ∧ SortedIn (ltOf saleCmp) 0 xs.toArray.size d' ∧ Sl GAuctionSale w' w.heap.size (some ⟨blk, off, none⟩) xs.length d'.toList ∧ GX blk w w' := by
  have hH := hx.holdsK hf
  have := AnyQ.slices_SortFunc Try.sortSale 9 Try.isAgg146 Try.sizeOf146 (Enc.enc : GAuctionSale → List Value) GAuctionSale.enc_len GAuctionSale.enc_one saleCmp saleCmp_swo 76 #[] blk off cap xs.toArray w
    (enters_of Try.func76 (by kernel_rfl) rfl) (settleFn_lays _ _ _ _) hH hb (by simp; omega)
  have e1 : xs.toArray.size = xs.length := by simp
  rw [e1] at this ⊢
  refine this.mono ?_
  rintro e w' ⟨rfl, d', n, os, hp, hs, rfl⟩
  have hz : d'.size = xs.toArray.size := hp.1
  obtain ⟨h1, h2⟩ := sorted_is (m := n) (os := os) hH hb hz
  rw [hz, e1] at h1
  exact ⟨rfl, d', hp, hs, h1, h2⟩
end Go.Proofs.Yteockodnfempfaa
/- Settle, its plain law. Conditions: those named in each theorem. -/
namespace Go.Proofs.Yteockodnfempfaa
open Go Go.RowKit Go.Gv Go.Sort Go.Proofs

def dueB (now : Int) (x : MSale) : Bool := !x.settled && decide (x.close < now)
def dueG (now : Int) (x : GAuctionSale) : Bool := !x.settled && decide (x.close < now)
def dueM (H : MHouse) (now : Int) : List MSale := (H.filter fun q => dueB now q.2).map (·.2)
def doneM (x : MSale) : MSale := { x with settled := true, result := endR x }
def settleH (H : MHouse) (now : Int) : MHouse := H.map fun q => if dueB now q.2 = true then (q.1, doneM q.2) else q
def Named (H : MHouse) : Prop := ∀ q ∈ H, q.2.name = q.1
def saleLe (x y : MSale) : Prop := x.close < y.close ∨ (x.close = y.close ∧ ¬ y.name.toList < x.name.toList)
open Classical in
noncomputable def settleBy (S : List ByteArray) (H : MHouse) : MHouse := H.map fun (q : ByteArray × MSale) => if q.1 ∈ S then (q.1, doneM q.2) else q
theorem settleBy_nil (H : MHouse) : settleBy [] H = H := by unfold settleBy; simp
theorem settleBy_keys (S : List ByteArray) (H : MHouse) : (settleBy S H).map (·.1) = H.map (·.1) := by
  unfold settleBy
  rw [List.map_map]
  apply List.map_congr_left
  intro q _
  simp only [Function.comp]
  split <;> rfl
theorem entry_unique : ∀ {H : MHouse}, (H.map (·.1)).Nodup → ∀ {q p : ByteArray × MSale}, q ∈ H → p ∈ H → q.1 = p.1 → q = p
  | [], _, _, _, h, _, _ => by simp at h
  | a :: H, hn, q, p, hq, hp, e => by
    rw [List.map_cons, List.nodup_cons] at hn
    rcases List.mem_cons.1 hq with h1 | h1
    · rcases List.mem_cons.1 hp with h2 | h2
      · rw [h1, h2]
      · exact absurd (show a.1 ∈ H.map (·.1) from List.mem_map.2 ⟨p, h2, by rw [← e, h1]⟩) hn.1
    · rcases List.mem_cons.1 hp with h2 | h2
      · exact absurd (show a.1 ∈ H.map (·.1) from List.mem_map.2 ⟨q, h1, by rw [e, h2]⟩) hn.1
      · exact entry_unique hn.2 h1 h2 e
theorem settleBy_step {S : List ByteArray} {H : MHouse} {k : ByteArray} {x : MSale} (hn : (H.map (·.1)).Nodup) (hm : (k, x) ∈ H) (hS : k ∉ S) : mset (settleBy S H) k (doneM x) = settleBy (S ++ [k]) H := by
  unfold mset
  rw [settleBy_keys, if_pos (List.mem_map.2 ⟨_, hm, rfl⟩)]
  unfold settleBy
  rw [List.map_map]
  apply List.map_congr_left
  intro q hq
  simp only [Function.comp, List.mem_append, List.mem_singleton]
  by_cases hk : q.1 = k
  · obtain rfl : q = (k, x) := entry_unique hn hq hm hk
    simp [hS]
  · by_cases hs : q.1 ∈ S <;> simp [hk, hs]
theorem settleBy_end {D : List MSale} {H : MHouse} {now : Int} (hn : (H.map (·.1)).Nodup) (hN : Named H) (hD : D.Perm (dueM H now)) : settleBy (D.map (·.name)) H = settleH H now := by
  unfold settleBy settleH
  apply List.map_congr_left
  intro q hq
  have hiff : q.1 ∈ D.map (·.name) ↔ dueB now q.2 = true := by
    rw [List.mem_map]
    constructor
    · rintro ⟨x, hx, hxn⟩
      have hx2 := hD.mem_iff.1 hx
      unfold dueM at hx2
      rw [List.mem_map] at hx2
      obtain ⟨p, hp, rfl⟩ := hx2
      rw [List.mem_filter] at hp
      have := entry_unique hn hq hp.1 (by rw [← hxn, hN p hp.1])
      rw [this]; exact hp.2
    · intro h
      refine ⟨q.2, hD.mem_iff.2 ?_, hN q hq⟩
      unfold dueM
      rw [List.mem_map]
      exact ⟨q, List.mem_filter.2 ⟨hq, h⟩, rfl⟩
  by_cases h : dueB now q.2 = true
  · rw [if_pos (hiff.2 h), if_pos h]
  · rw [if_neg (fun h' => h (hiff.1 h')), if_neg h]
/-- The names of what is due are apart. -/
theorem due_names {D : List MSale} {H : MHouse} {now : Int} (hn : (H.map (·.1)).Nodup) (hN : Named H) (hD : D.Perm (dueM H now)) : (D.map (·.name)).Nodup := by
  refine (hD.map _).nodup_iff.2 ?_
  unfold dueM
  rw [List.map_map]
  have e : (H.filter fun q => dueB now q.2).map ((fun x => x.name) ∘ fun x => x.2) = (H.filter fun q => dueB now q.2).map (·.1) := by
    apply List.map_congr_left
    intro q hq
    exact hN q (List.mem_filter.1 hq).1
  rw [e]
  exact hn.sublist (List.Sublist.map _ List.filter_sublist)
theorem due_mem {D : List MSale} {H : MHouse} {now : Int} {x : MSale} (hN : Named H) (hD : D.Perm (dueM H now)) (hx : x ∈ D) : (x.name, x) ∈ H := by
  have hx2 := hD.mem_iff.1 hx
  unfold dueM at hx2
  rw [List.mem_map] at hx2
  obtain ⟨p, hp, rfl⟩ := hx2
  rw [hN p (List.mem_filter.1 hp).1]
  exact (List.mem_filter.1 hp).1
/-- The step of Settle's second loop. -/
theorem settle_step {D : List MSale} {H : MHouse} {now : Int} (hn : (H.map (·.1)).Nodup) (hN : Named H) (hD : D.Perm (dueM H now)) {i : Nat} {x : MSale} (hx : D[i]? = some x) :
    mset (settleBy ((D.take i).map (·.name)) H) x.name (doneM x) = settleBy ((D.take (i + 1)).map (·.name)) H := by
  have e : D.take (i + 1) = D.take i ++ [x] := by rw [List.take_add_one, hx]; rfl
  rw [e, List.map_append]
  refine settleBy_step hn (due_mem hN hD (List.mem_of_getElem? hx)) ?_
  have h2 := due_names hn hN hD
  have h3 : D.map (·.name) = ((D.take i).map (·.name)) ++ ([x.name] ++ (D.drop (i + 1)).map (·.name)) := by
    rw [← List.map_singleton (f := fun x : MSale => x.name), ← List.map_append, ← List.map_append, ← List.append_assoc, ← e, List.take_append_drop]
  rw [h3, List.nodup_append] at h2
  intro hmem
  exact h2.2.2 _ hmem _ (by simp) rfl
theorem settleH_keys (H : MHouse) (now : Int) : (settleH H now).map (·.1) = H.map (·.1) := by
  unfold settleH
  rw [List.map_map]
  apply List.map_congr_left
  intro q _
  simp only [Function.comp]
  split <;> rfl
theorem Named.settle {H : MHouse} (h : Named H) (now : Int) : Named (settleH H now) := by
  intro q hq
  unfold settleH at hq
  rw [List.mem_map] at hq
  obtain ⟨p, hp, rfl⟩ := hq
  split
  · exact h p hp
  · exact h p hp
theorem Named.set {H : MHouse} (h : Named H) {k : ByteArray} {x : MSale} (hx : x.name = k) : Named (mset H k x) := by
  intro q hq
  unfold mset at hq
  split at hq
  · rw [List.mem_map] at hq
    obtain ⟨p, hp, rfl⟩ := hq
    split
    · exact hx
    · exact h p hp
  · rw [List.mem_append, List.mem_singleton] at hq
    rcases hq with hq | rfl
    · exact h q hq
    · exact hx
/-- What HRel says, as R2. -/
theorem HRel.r2 {w : World} : ∀ {m : List (ByteArray × GAuctionSale)} {H : MHouse}, HRel w m H → R2 (fun p q => p.1 = q.1 ∧ SaleIs w p.2 q.2) m H
  | [], [], _ => trivial
  | _ :: _, _ :: _, h => ⟨h.1, HRel.r2 h.2⟩
  | [], _ :: _, h => h.elim
  | _ :: _, [], h => h.elim
theorem SaleIs.due {w : World} {s : GAuctionSale} {x : MSale} (h : SaleIs w s x) (now : Int) : dueG now s = dueB now x := by
  obtain ⟨hd, rfl, _⟩ := h; rfl
/-- What the first loop leaves is what is due, in some order. -/
theorem due_typed {w : World} {m V : List (ByteArray × GAuctionSale)} {H : MHouse} {now : Int} (h : HRel w m H) (hV : V.Perm m) {ds : List GAuctionSale} (hd : ds.Perm ((V.filter fun p => dueG now p.2).map (·.2))) : ∃ D, D.Perm (dueM H now) ∧ R2 (SaleIs w) ds D := by
  have h1 := (h.r2.filter (p := fun p => dueG now p.2) (q := fun q => dueB now q.2) (fun a b hab => hab.2.due now)).map (S := SaleIs w) (f := fun p => p.2) (g := fun q => q.2) (fun a b hab => hab.2)
  obtain ⟨D, h2, h3⟩ := h1.perm (((hd.trans ((hV.filter _).map _))).symm)
  exact ⟨D, h2.symm, h3⟩
end Go.Proofs.Yteockodnfempfaa
/- What Settle computes. Conditions: those named in each theorem. -/
namespace Go.Proofs.Yteockodnfempfaa
open Go Go.RowKit Go.Gv Go.Sort Go.Proofs
theorem get?_in_map {α : Type} [Enc α] {K V : Type} [DecidableEq K] [KEnc K] [VEnc V] {w : World} {r : Nat} {m : List (K × V)} (hm : mapAt K V w r = some m) {a : Addr} {x : α} (h : get? α w a = some x) : a.block ≠ r := by
  intro e
  obtain ⟨es, c, hb, _⟩ := mapAt_iff.1 hm
  have h0 : (Enc.enc x)[0]? = some ((Enc.enc x)[0]'(by rw [Enc.len]; exact Enc.pos)) := List.getElem?_eq_getElem _
  have := get?_iff.1 h 0 _ h0
  simp [World.cell?, add_block, e, hb] at this
theorem _root_.Go.Gv.Sl.gx {α : Type} [Enc α] {K V : Type} [DecidableEq K] [KEnc K] [VEnc V] {w w' : World} {r : Nat} {m : List (K × V)} (hm : mapAt K V w r = some m) (hg : GX r w w') {A : Option Addr} {n : Nat} {xs : List α} (h : Sl α w w.heap.size A n xs) : Sl α w' w'.heap.size A n xs := by
  refine ⟨h.1, fun hn => ?_⟩
  obtain ⟨ad, e, hb, hc⟩ := h.2 hn
  exact ⟨ad, e, Nat.lt_of_lt_of_le hb hg.size, fun k x hx => GX.getS hg (hc k x hx) (get?_in_map hm (hc k x hx))⟩
theorem SaleIs.gx {K V : Type} [DecidableEq K] [KEnc K] [VEnc V] {w w' : World} {r : Nat} {m : List (K × V)} (hm : mapAt K V w r = some m) (hg : GX r w w') {s : GAuctionSale} {x : MSale} (h : SaleIs w s x) : SaleIs w' s x := by
  obtain ⟨hd, h1, h2, h3⟩ := h
  exact ⟨hd, h1, h2.gx hm hg, h3⟩
theorem HouseAt.gx {w w' : World} {r r2 : Nat} {H : MHouse} {K V : Type} [DecidableEq K] [KEnc K] [VEnc V] {m : List (K × V)} (hm : mapAt K V w r = some m) (hg : GX r w w') (hne : r2 ≠ r) (h : HouseAt w r2 H) : HouseAt w' r2 H := by
  obtain ⟨m2, hm2, hr⟩ := h
  exact ⟨m2, (mapAt_keep (hg.block _ (mapAt_lt hm2) (fun e => hne (by injection e)))).trans hm2, HRel.mono (fun s x hs => SaleIs.gx hm hg hs) hr⟩
theorem HouseIs.gx {w w' : World} {p : Addr} {r r2 : Nat} {H : MHouse} {K V : Type} [DecidableEq K] [KEnc K] [VEnc V] {m : List (K × V)} (hm : mapAt K V w r = some m) (hg : GX r w w') (hne : r2 ≠ r) (hp : p.block ≠ r) (h : HouseIs w p r2 H) : HouseIs w' p r2 H :=
  ⟨GX.cell hg h.1 hp, h.2.gx hm hg hne⟩
theorem OwnS.gx {α : Type} [Enc α] {w w' : World} {r base : Nat} {e : TypeId} {v : Value} {xs : List α} (h : OwnS w base e v xs) (hg : GX r w w') (hr : r < base) : OwnS w' base e v xs := by
  refine h.kept hg ?_
  cases hv : v.ownBlock with
  | none => exact .inl rfl
  | some k => exact .inr (fun e => by injection e with e; have := (h.lt k hv).1; omega)
theorem Bel.gx {w0 w w' : World} {r : Nat} (hb : GX r w0 w) (h : Bel w w') : GX r w0 w' := GX.tr _ _ _ hb (GX.of_bel h r)

theorem permIn_list {α : Type} [Inhabited α] {xs : List α} {d : Array α} (h : PermIn 0 xs.toArray.size xs.toArray d) : d.toList.Perm xs := by
  obtain ⟨h1, _, h3⟩ := h
  rw [← h1] at h3
  have h4 : (List.take xs.length d.toList).Perm xs := by simpa [h1] using h3
  rwa [List.take_of_length_le (by have := h1; simp at this; simp; omega)] at h4
theorem sortedIn_list {α : Type} [Inhabited α] {lt : α → α → Bool} {d : Array α} (h : SortedIn lt 0 d.size d) : d.toList.Pairwise fun x y => lt y x = false := by
  rw [List.pairwise_iff_getElem]
  intro i j hi hj hij
  have h2 := h i j (Nat.zero_le _) hij (by simpa using hj)
  rw [getElem!_pos d i (by simpa using hi), getElem!_pos d j (by simpa using hj)] at h2
  simpa using h2
/-- SortFunc at a list of the call's own. -/
theorem sortSale_own (base c : Nat) (A : Option Addr) (xs : List GAuctionSale) (w : World) (h : OwnA w base 146 A c xs) (hn : xs.length ≤ 1000000) :
    Calls Try.prog 75 #[.slice A xs.length c, .func (.func 76) #[] #[]] w fun e w' => e = .returned (.tuple #[]) ∧
      ∃ (ys : List GAuctionSale) (gb : Nat), ys.Perm xs ∧ (ys.Pairwise fun x y => ltOf saleCmp y x = false) ∧ Sl GAuctionSale w' w'.heap.size A xs.length ys ∧ base ≤ gb ∧ GX gb w w' := by
  by_cases h0 : xs.length = 0
  · obtain rfl : xs = [] := List.eq_nil_of_length_eq_zero h0
    refine (AnyF.slices_SortFunc_none Try.sortSale A c _ w).mono ?_
    rintro e w' ⟨rfl, rfl⟩
    exact ⟨rfl, [], base, .refl _, List.Pairwise.nil, ⟨rfl, fun h => absurd h (by simp)⟩, Nat.le_refl _, GX.rf _⟩
  · obtain ⟨g, rfl, hg1, hg2, hg3⟩ := OwnA.place h (by omega)
    refine (sortSale_any g 0 c xs w h.sl hg2 hg3 hn).mono ?_
    rintro e w' ⟨rfl, d, hp, hs, hsl, hg⟩
    have hz : d.size = xs.toArray.size := hp.1
    refine ⟨rfl, d.toList, g, permIn_list hp, sortedIn_list (by rw [hz]; exact hs), hsl.more hg.size, hg1, hg⟩
theorem due_sorted {w : World} {ds : List GAuctionSale} {D : List MSale} (h : R2 (SaleIs w) ds D) (hs : ds.Pairwise fun x y => ltOf saleCmp y x = false) : D.Pairwise saleLe := by
  refine h.pairwise (fun a b a' b' ha hb hab => ?_) hs
  obtain ⟨h1, rfl, _⟩ := ha
  obtain ⟨h2, rfl, _⟩ := hb
  have : ¬ ltOf saleCmp (b'.at h2) (a'.at h1) = true := by rw [hab]; decide
  rw [saleLt_iff] at this
  unfold saleLe
  simp only [MSale.at] at this
  by_cases h1 : a'.close < b'.close
  · exact .inl h1
  · right
    by_cases h2 : b'.close < a'.close
    · exact absurd (.inl h2) this
    · exact ⟨by omega, fun h3 => this (.inr ⟨by omega, h3⟩)⟩
theorem atPoke {w : World} {g : Nat} {cs : List Value} (h : At w ⟨g, 0, none⟩ cs) {j : Nat} (hj : j < cs.length) (v : Value) : At (w.setCell ⟨g, j, none⟩ v) ⟨g, 0, none⟩ (cs.set j v) := by
  intro i u hu
  rw [addN, Nat.zero_add]
  have hi : i < cs.length := by have := (List.getElem?_eq_some_iff.1 hu).1; simpa using this
  have hx := h i _ (List.getElem?_eq_getElem hi)
  rw [addN, Nat.zero_add] at hx
  by_cases e : j = i
  · subst e
    rw [World.cell?_setCell_same w _ v hx]
    rw [List.getElem?_set_self hj] at hu; exact hu
  · rw [World.cell?_setCell_other w _ _ v (fun h => e (by injection h)), hx]
    rw [List.getElem?_set_ne e, List.getElem?_eq_getElem hi] at hu; exact hu
theorem atPutSeg {g j : Nat} : ∀ (vs : List Value) (i : Nat) (w : World) (cs : List Value), At w ⟨g, 0, none⟩ cs → j + i + vs.length ≤ cs.length → At (World.putFrom w ⟨g, j, none⟩ i vs) ⟨g, 0, none⟩ (setSeg cs (j + i) vs)
  | [], _, _, _, h, _ => h
  | v :: vs, i, w, cs, h, hl => by
    simp only [List.length_cons] at hl
    unfold World.putFrom setSeg
    rw [addN]
    exact atPutSeg vs (i + 1) _ _ (atPoke h (by omega) v) (by rw [List.length_set]; omega)
theorem get?_putSeg {α : Type} [Enc α] {w : World} {g j : Nat} {x y : α} {vs : List Value} (h : get? α w ⟨g, 0, none⟩ = some x) (hl : j + vs.length ≤ Enc.n α) (hy : Enc.enc y = setSeg (Enc.enc x) j vs) : get? α (World.putCells w ⟨g, j, none⟩ vs) ⟨g, 0, none⟩ = some y := by
  rw [get?_iff] at h ⊢
  rw [hy]
  unfold World.putCells
  exact atPutSeg vs 0 w _ h (by rw [Enc.len]; omega)
theorem sale_done (s : GAuctionSale) (x : GAuctionResult) : Enc.enc ({ s with settled := true, result := x } : GAuctionSale) = setSeg ((Enc.enc s).set 5 (.bool true)) 6 (Enc.enc x) := rfl

theorem mapAt_nodup_H {w : World} {r : Nat} {m : List (ByteArray × GAuctionSale)} {H : MHouse} (h : HRel w m H) (hm : mapAt ByteArray GAuctionSale w r = some m) : (H.map (·.1)).Nodup := by
  rw [← h.keys]; exact mapAt_nodup hm
/-- What Settle leaves. -/
def Settled (w : World) (p : Addr) (r : Nat) (H : MHouse) (now : Int) (e : Ending) (w' : World) : Prop :=
  ∃ (D : List MSale) (v : Value), e = .returned v ∧ D.Perm (dueM H now) ∧ D.Pairwise saleLe ∧ OwnS w' w.heap.size 59 v (D.map endR) ∧ HouseIs w' p r (settleH H now) ∧ GX r w w'

set_option maxRecDepth 100000 in
set_option maxHeartbeats 4000000 in
theorem settle_any (p : Addr) (r : Nat) (H : MHouse) (now : Int) (w : World) (hH : HouseIs w p r H) (hp : p.block ≠ r) (hN : Named H) (hlen : H.length ≤ 1000000) (hbids : ∀ q ∈ H, q.2.bids.length ≤ 1000000) :
    Calls Try.prog 37 #[.pointer (some p), .int .u64 now] w (Settled w p r H now) := by
  obtain ⟨hc, m, hm, hr⟩ := hH
  have hml := hr.len
  have hpl : p.block < w.heap.size := World.block_lt_of_cell? w _ hc
  have hrl := mapAt_lt hm
  have HR := Lib.hid hr; have HN := Lib.hid hN; have HB := Lib.hid hbids; clear hr hN hbids
  have HML := Lib.hid hml; clear hml
  obtain ⟨o, hrange, hR0⟩ := ranges_start (P := Try.prog) um141 hm
  have HR0 := Lib.hid hR0; clear hR0
  have HM := Lib.hid hm; have HC := Lib.hid hc; clear hm
  go_enter Try.func37, Try.ntmps37
  go_wp2_with fail
  clear hrange hc
  go_loopw [5] (fun v wr => ∃ V L, (V ++ L).Perm m ∧ Ranges wr r w.heap.size m L ∧ OwnS wr (w.heap.size + 1) 146 v ((V.filter fun p => dueG now p.2).map (·.2)) ∧ Bel w wr ∧ w.heap.size < wr.heap.size) (fun _ wr => wr.rangeLeft r w.heap.size)
  case atStart => exact ⟨[], m, by simp, HR0.out, OwnS.nil _ _ _, (Bel.refl w).alloc _, by simp⟩
  case round =>
    obtain ⟨V, L, hperm, hR, hown, hb, hsz⟩ := hrel
    have HP := Lib.hid hperm; have HRG := Lib.hid hR; have HO := Lib.hid hown; have HBL := Lib.hid hb; clear hperm hR hown hb
    rcases HRG.out.next Try.prog with ⟨rfl, hnext⟩ | ⟨l1, q, l2, w1, rfl, hnext, hR1, hg1, hs1, hen⟩
    · have hV : V.Perm m := by simpa using HP.out
      obtain ⟨ys, hys⟩ : ∃ ys, ((V.filter fun p => dueG now p.2).map (·.2) : List GAuctionSale) = ys := ⟨_, rfl⟩
      have ho := HO.out
      rw [hys] at ho
      have hyl : ys.length ≤ 1000000 := by
        rw [← hys, List.length_map]
        refine Nat.le_trans (List.length_filter_le _ _) ?_
        have h1 := hV.length_eq
        have h2 := HML.out
        omega
      obtain ⟨A, c, rfl, hoa, hc1, hc2⟩ := OwnS.ownA ho
      have HS := Lib.hid (sortSale_own _ c A ys wr hoa hyl)
      have HV := Lib.hid hV; have HYS := Lib.hid hys
      clear hV hys ho HO HP HRG
      go_wp2_with fail
      refine HS.out.mono ?_
      rintro _ w5 ⟨rfl, ds, gb, hdp, hds, hsl, hgb, hgx⟩
      have hb5 : Bel w w5 := HBL.out.grown hgx (fun k hk => by injection hk with hk; omega)
      obtain ⟨D, hD, hR2⟩ := due_typed (now := now) HR.out HV.out (ds := ds) (by rw [HYS.out]; exact hdp)
      have hDs := due_sorted hR2 hds
      have hdl : ds.length = ys.length := hdp.length_eq
      have hDl : D.length = ys.length := by rw [← hR2.len, hdl]
      have HSL := Lib.hid hsl; have HB5 := Lib.hid hb5; have HD := Lib.hid hD; have HR2 := Lib.hid hR2; have HDS := Lib.hid hDs
      have HHS := Lib.hid (show HouseIs w5 p r H from HouseIs.step ⟨HC.out, m, HM.out, HR.out⟩ hb5)
      have HDL := Lib.hid hDl
      clear hdp hds hsl hgx hb5 hD hR2 hDs hdl hDl HS HV HYS hoa HBL
      obtain ⟨n, hn⟩ : ∃ n, ys.length = n := ⟨_, rfl⟩
      rw [hn] at HSL HDL hyl hc1 ⊢
      clear hn
      obtain ⟨m5, hm5, _⟩ := HHS.out.2
      have hr5 := mapAt_lt hm5
      have HM5 := Lib.hid hm5; clear hm5
      go_wp2_with fail
      obtain ⟨m5', hm5', hr5'⟩ := HHS.out.2
      have HS5 := Lib.hid (show mapAt ByteArray GAuctionSale w5 r = some m5' ∧ HRel w5 m5' H from ⟨hm5', hr5'⟩)
      clear hm5' hr5'
      go_loopw [8, 37] (fun v i wr => ∃ (k : Nat) (mk : List (ByteArray × GAuctionSale)), k ≤ n ∧ i = .int .i64 k ∧ OwnS wr w5.heap.size 59 v ((D.take k).map endR) ∧ mapAt ByteArray GAuctionSale wr r = some mk ∧ HRel w5 mk (settleBy ((D.take k).map (·.name)) H) ∧ GX r w5 wr) (fun _ i _ => n - (intOf i).toNat)
      case atStart => exact ⟨0, m5', by omega, rfl, OwnS.nil _ _ _, HS5.out.1, by simpa [settleBy_nil] using HS5.out.2, GX.rf _⟩
      case round =>
        obtain ⟨k, mk, hk, rfl, hown, hmk, hrk, hgk⟩ := hrel
        have HO := Lib.hid hown; have HMK := Lib.hid hmk; have HRK := Lib.hid hrk; have HGK := Lib.hid hgk; clear hown hmk hrk hgk
        have hz5 := HGK.out.size
        have hck : wr.cell? p = some (.map (some r)) := GX.cell HGK.out HHS.out.1 hp
        by_cases hlt : k < n
        · obtain ⟨ad, s, rfl, hab, hsk, hgs⟩ := (Sl.gx HM5.out HGK.out HSL.out).at_ (k := k) hlt
          obtain ⟨x, hxk, hsx⟩ := HR2.out.at_ hsk
          have hsx5 := hsx.step HB5.out
          have hsxr := SaleIs.gx HM5.out HGK.out hsx5
          have hxb := HB.out _ (due_mem HN.out HD.out (List.mem_of_getElem? hxk))
          have hsn : s.name = x.name := by obtain ⟨hd, rfl, _⟩ := hsx; rfl
          have hs8 : SaleIs w5 ({ s with settled := true, result := endR x } : GAuctionSale) (doneM x) := by
            obtain ⟨hd, rfl, h2, h3⟩ := hsx5
            exact ⟨hd, rfl, h2, h3⟩
          obtain ⟨s8, e8⟩ : ∃ s8 : GAuctionSale, ({ s with settled := true, result := endR x } : GAuctionSale) = s8 := ⟨_, rfl⟩
          rw [e8] at hs8
          have e8n : s8.name = s.name := by rw [← e8]
          have e8r : s8.result = endR x := by rw [← e8]
          have E8N := Lib.hid e8n; have E8R := Lib.hid e8r; clear e8n e8r
          have E8 := Lib.hid e8; clear e8
          change get? GAuctionSale wr (ad.add (k * 9)) = some s at hgs
          have HXK := Lib.hid hxk; have HSX := Lib.hid hsxr; have HXB := Lib.hid hxb; have HSN := Lib.hid hsn; have HS8 := Lib.hid hs8; clear hsk hxk hsx hsxr hxb hsn hs8 hsx5
          go_wp2_with fail
          refine (end_any s x _ (HSX.out.step ((Bel.refl _).alloc _)) HXB.out).mono ?_
          rintro _ w6 ⟨rfl, hb6⟩
          have hgb0 := get?_new (w := wr) 146 s
          have hfr0 := blkFree_new (t := 146) (w := wr) s.enc.toArray wr.heap.size rfl
          have hgb := GB.get hb6 hgb0
          have hbz : wr.heap.size < w6.heap.size := by have := hb6.size; simp at this; omega
          have hfr := GX.free (GX.of_bel hb6 (w6.heap.size)) hfr0 (by simp) (by omega)
          have f5 : w6.cell? ⟨wr.heap.size, 5, none⟩ = some (.bool s.settled) := by simpa using cell_off (by omega) (GAuctionSale.at_settled hgb)
          have z5 := frozen_of_free (a := ⟨wr.heap.size, 5, none⟩) hfr
          have hg7 : get? GAuctionSale (w6.setCell ⟨wr.heap.size, 5, none⟩ (.bool true)) ⟨wr.heap.size, 0, none⟩ = some { s with settled := true } := get?_poke hgb rfl
          have f6 : get? GAuctionResult (w6.setCell ⟨wr.heap.size, 5, none⟩ (.bool true)) ⟨wr.heap.size, 6, none⟩ = some s.result := by
            have := GAuctionSale.at_result hg7
            rwa [addN] at this
          have z6 : blkFree (w6.setCell ⟨wr.heap.size, 5, none⟩ (.bool true)) wr.heap.size = true := by rw [blkFree_setCell]; exact hfr
          have hg8 : get? GAuctionSale (World.putCells (w6.setCell ⟨wr.heap.size, 5, none⟩ (.bool true)) ⟨wr.heap.size, 6, none⟩ (endR x).enc) ⟨wr.heap.size, 0, none⟩ = some s8 := get?_putSeg hg7 (by show 6 + (endR x).enc.length ≤ 9; rw [GAuctionResult.enc_len]; omega) (by rw [← E8.out]; rfl)
          have hb8 : Bel wr (World.putCells (w6.setCell ⟨wr.heap.size, 5, none⟩ (.bool true)) ⟨wr.heap.size, 6, none⟩ (endR x).enc) :=
            Below_putCells (a := ⟨wr.heap.size, 6, none⟩) (((((Bel.refl wr).alloc _).trans hb6)).setCell (p := ⟨wr.heap.size, 5, none⟩) (Nat.le_refl _) _) (Nat.le_refl _) _
          have HG8 := Lib.hid hg8; have HB8 := Lib.hid hb8
          clear hgb0 hfr0 hgb hfr hb6 hg7 hg8 hb8
          go_wp2_with fail
          clear f5 f6 z5 z6
          generalize World.putCells (w6.setCell ⟨wr.heap.size, 5, none⟩ (.bool true)) ⟨wr.heap.size, 6, none⟩ (endR x).enc = w8 at HG8 HB8 ⊢
          have hbz8 := HB8.out.size
          have k0 : w8.cell? p = some (.map (some r)) := GB.cell HB8.out hck
          have k1 : w8.cell? ⟨wr.heap.size, 0, none⟩ = some (.string s.name) := by rw [← E8N.out]; exact cell_zero (GAuctionSale.at_name HG8.out)
          have hm8 : mapAt ByteArray GAuctionSale w8 r = some mk := (mapAt_below HB8.out (mapAt_lt HMK.out)).trans HMK.out
          refine wp_region_G GB [7] GB.rf (by kernel_rfl) ?_
          refine wpG_looks 1 8 [0,1,2,3,4,5,6] rfl GB.rf GB.tr (by kernel_rfl) (fun _ _ _ _ hd h => And.intro (hd ▸ And.left h) (And.right h)) rfl (by kernel_rfl) ?_
          intro ι W hne CW
          have g0 : ∀ z, (W z).cell? p = some (.map (some r)) := fun z => (CW.out z).cell k0
          have g1 : ∀ z, (W z).cell? ⟨wr.heap.size, 0, none⟩ = some (.string s.name) := fun z => (CW.out z).cell k1
          have g2 : ∀ z, get? GAuctionSale (W z) ⟨wr.heap.size, 0, none⟩ = some s8 := fun z => (CW.out z).get HG8.out
          repeat (refine wpLooksG_step (fun K hK => ?_); go_simp; refine hK _ ?_; clear hK K)
          refine wpLooksG_nil ?_
          clear g0 g1 g2 CW hne W ι
          refine wpG_force 7 _ rfl (by kernel_rfl) rfl fun wa hwa K hK => ?_
          have hma : mapAt ByteArray GAuctionSale wa r = some mk := (mapAt_below hwa.undrew (mapAt_lt hm8)).trans hm8
          go_simp
          have hml1 := mapAt_mput kl9 um141 hma s.name s8
          have hgr1 := mput_grown kl9 um141 hma s.name s8
          have hg9 : get? GAuctionSale (mput Try.prog 141 wa r s.name s8) ⟨wr.heap.size, 0, none⟩ = some s8 := (mput_get kl9 um141 hma s.name s8 _ _).trans (GB.get hwa.undrew HG8.out)
          have ho9 := ((HO.out.step HB8.out).step hwa.undrew).kept hgr1 (by
            cases hv : Value.ownBlock u8 with
            | none => exact .inl rfl
            | some j => exact .inr (fun e => by injection e with e; have := (HO.out.lt j hv).1; omega))
          have hgx9 : GX r w5 (mput Try.prog 141 wa r s.name s8) := GX.tr _ _ _ (GX.tr _ _ _ HGK.out (GX.of_bel (HB8.out.trans hwa.undrew) r)) hgr1
          have HM9 := Lib.hid hml1; have HG9 := Lib.hid hg9; have HO9 := Lib.hid ho9; have HX9 := Lib.hid hgx9
          clear hml1 hgr1 hg9 ho9 hgx9 hma k0 k1 hm8
          generalize mput Try.prog 141 wa r s.name s8 = w9 at HM9 HG9 HO9 HX9 ⊢
          refine hK _ _ (fun h => absurd (by simp) h) ?_
          clear hK K hwa
          refine wpG_end (by kernel_rfl) (fun wn hwn => ?_) _
          have k6 : get? GAuctionResult wn ⟨wr.heap.size, 6, none⟩ = some (endR x) := by
            have := GAuctionSale.at_result (GB.get hwn HG9.out)
            rwa [addN, Nat.zero_add, E8R.out] at this
          have hln : ((D.take k).map endR).length ≤ k := by rw [List.length_map]; exact List.length_take_le _ _
          obtain ⟨v4, w4, hrun4, ho4, hg4, _⟩ := gAppend_S (P := Try.prog) ei56 (t := 56) ((HO9.out.step hwn).alloc (.cells (endR x).enc.toArray 59)) (c := 1) (m := 1) (A := some ⟨wn.heap.size, 0, none⟩) (Sl.new_ (B := wn.heap.size + 1) (xs := [endR x]) (by simp; rfl) rfl rfl (by omega)) (Nat.le_trans (Nat.add_le_add_right hln 1) (by unfold maxLen; omega)) (Nat.le_trans (Nat.mul_le_mul_right _ (Nat.add_le_add_right hln 1)) (by omega)) (by have := HX9.out.size; have := hwn.size; simp only [World.size_alloc]; omega) 56
          have etk : (D.take (k + 1)).map endR = (D.take k).map endR ++ [endR x] := by rw [List.take_add_one, HXK.out, List.map_append]; rfl
          rw [← etk] at ho4
          have hown4 : ∀ j, u8.ownBlock = some j → w5.heap.size ≤ j := fun j hj => (HO9.out.lt j hj).1
          have hm4 : mapAt ByteArray GAuctionSale w4 r = some (mset mk s.name s8) :=
            mapAt_grown hg4 (fun e => by have := hown4 r e.symm; omega) (mapAt_alloc _ ((mapAt_below hwn (mapAt_lt HM9.out)).trans HM9.out))
          have hr4 : HRel w5 (mset mk s.name s8) (settleBy ((D.take (k + 1)).map (·.name)) H) := by
            have h1 := HRK.out.set (k := s.name) HS8.out
            rw [HSN.out] at h1 ⊢
            rwa [settle_step (mapAt_nodup_H HR.out HM.out) HN.out HD.out HXK.out] at h1
          have hx4 : GX r w5 w4 := World.grownBy.andThen (World.grownBy.andThen (World.grownBy.andThen HX9.out (GX.of_bel hwn r) (fun j hj => .inr hj)) (GX.of_bel ((Bel.refl wn).alloc _) r) (fun j hj => .inr hj)) hg4 (fun j hj => .inl (hown4 j hj))
          have HO4 := Lib.hid ho4; have HM4 := Lib.hid hm4; have HR4 := Lib.hid hr4; have HX4 := Lib.hid hx4
          clear ho4 hg4 hm4 hr4 hx4 etk hown4 hln hwn
          go_wp2_with fail
          exact ⟨⟨k + 1, mset mk s.name s8, by omega, by go_num, HO4.out, HM4.out, HR4.out, HX4.out⟩, by simp [intOf]; omega⟩
        · obtain rfl : k = n := by omega
          have htk : D.take k = D := List.take_of_length_le (by rw [HDL.out]; exact Nat.le_refl _)
          have HTK := Lib.hid htk; clear htk
          go_wp2_with fail
          go_ret
          refine ⟨D, _, rfl, HD.out, HDS.out, ?_, ⟨hck, mk, HMK.out, ?_⟩, GX.tr _ _ _ (GX.of_bel HB5.out r) HGK.out⟩
          · have := HO.out
            rw [HTK.out] at this
            exact OwnS.mono this HB5.out.size
          · have := HRK.out
            rw [HTK.out, settleBy_end (mapAt_nodup_H HR.out HM.out) HN.out HD.out] at this
            exact HRel.mono (fun _ _ hs => SaleIs.gx HM5.out HGK.out hs) this
    · obtain ⟨k, s⟩ := q
      replace hnext : ∀ ty : TypeId, (Instr.next (.pointer (some ⟨w.heap.size, 0, none⟩)) false ty).run Try.prog wr = .ok (.tuple #[.bool true, .string k, s.val]) w1 := hnext
      replace hen : (Instr.entry (.pointer (some ⟨w.heap.size, 0, none⟩))).run Try.prog w1 = .ok (.tuple #[.string k, s.val]) w1 := hen
      have hl1 : (((V.filter fun p => dueG now p.2).map (·.2)) : List GAuctionSale).length ≤ 1000000 := by
        rw [List.length_map]
        refine Nat.le_trans (List.length_filter_le _ _) ?_
        have h1 := HP.out.length_eq
        rw [List.length_append] at h1
        have h2 := HML.out
        omega
      have HR1 := Lib.hid hR1; have HG1 := Lib.hid hg1
      have HO1 := Lib.hid (HO.out.kept hg1 (by
        cases hv : Value.ownBlock u5 with
        | none => exact .inl rfl
        | some j => exact .inr (fun e => by injection e with e; have := (HO.out.lt j hv).1; omega)))
      have HB1 := Lib.hid (HBL.out.grown hg1 (fun j hj => by injection hj with hj; omega))
      have hp2 : ((V ++ [(k, s)]) ++ (l1 ++ l2)).Perm m := by
        refine List.Perm.trans ?_ HP.out
        rw [List.append_assoc]
        show (V ++ ((k, s) :: (l1 ++ l2))).Perm _
        exact (List.perm_middle.symm).append_left V
      have HP2 := Lib.hid hp2
      have hmeas : (l1 ++ l2).length < wr.rangeLeft r w.heap.size := by rw [HRG.out.leftN]; simp
      clear hR1 hg1 hp2
      by_cases hd : dueG now s = true
      · have hd2 : s.settled = false ∧ s.close < now := by unfold dueG at hd; simpa using hd
        obtain ⟨hd3, hd4⟩ := hd2
        have e : ((V ++ [(k, s)]).filter fun p => dueG now p.2).map (·.2) = ((V.filter fun p => dueG now p.2).map (·.2)) ++ [s] := by rw [List.filter_append, List.map_append]; simp [hd]
        have HE := Lib.hid e; clear e hd
        obtain ⟨v4, w4, hrun4, ho4, hg4, _⟩ := gAppend_S (P := Try.prog) ei154 (t := 154) ((HO1.out.alloc (.cells s.enc.toArray 146)).alloc (.cells s.enc.toArray 146)) (c := 1) (m := 1) (A := some ⟨wr.heap.size + 1, 0, none⟩) (Sl.new_ (B := wr.heap.size + 2) (xs := [s]) (by simp; rfl) rfl (by simp [World.size_alloc, hs1]) (by omega)) (Nat.le_trans (Nat.add_le_add_right hl1 1) (by unfold maxLen; omega)) (Nat.le_trans (Nat.mul_le_mul_right _ (Nat.add_le_add_right hl1 1)) (by omega)) (by simp only [World.size_alloc]; omega) 154
        rw [← HE.out] at ho4
        have hbB := ((HB1.out.alloc (.cells s.enc.toArray 146)).alloc (.cells s.enc.toArray 146)).appS hg4 ((HO1.out.alloc (.cells s.enc.toArray 146)).alloc (.cells s.enc.toArray 146)) (by omega)
        have hrg := ((HR1.out.below ((Below.refl _ _).alloc (Nat.le_refl _) (.cells s.enc.toArray 146))).below ((Below.refl _ _).alloc (Nat.le_refl _) (.cells s.enc.toArray 146))).kept hg4 (fun e => by have := (HO.out.lt _ e.symm).1; omega) (fun e => by have := (HO.out.lt _ e.symm).1; omega)
        have hz4 := hg4.size
        simp only [World.size_alloc] at hz4
        have HO4 := Lib.hid ho4; have HB4 := Lib.hid hbB; have HR4 := Lib.hid hrg; clear ho4 hg4 hbB hrg hl1
        go_wp2_with fail
        exact ⟨⟨V ++ [(k, s)], l1 ++ l2, HP2.out, HR4.out, HO4.out, HB4.out, by omega⟩, by rw [HR4.out.leftN]; exact hmeas⟩
      · have e : ((V ++ [(k, s)]).filter fun p => dueG now p.2).map (·.2) = ((V.filter fun p => dueG now p.2).map (·.2)) := by rw [List.filter_append, List.map_append]; simp [hd]
        have HE := Lib.hid e; clear e
        have hrg := HR1.out.below ((Below.refl _ _).alloc (Nat.le_refl _) (.cells s.enc.toArray 146))
        have HR4 := Lib.hid hrg; clear hrg hl1
        have hsd : s.settled = true ∨ (s.settled = false ∧ ¬ s.close < now) := by
          unfold dueG at hd
          cases hq : s.settled
          · right; rw [hq] at hd; exact ⟨rfl, by simpa using hd⟩
          · left; rfl
        clear hd
        rcases hsd with hd3 | ⟨hd3, hd4⟩
        · go_wp2_with fail
          exact ⟨⟨V ++ [(k, s)], l1 ++ l2, HP2.out, HR4.out, by rw [HE.out]; exact HO1.out.alloc _, HB1.out.alloc _, by simp; omega⟩, by rw [HR4.out.leftN]; exact hmeas⟩
        · go_wp2_with fail
          exact ⟨⟨V ++ [(k, s)], l1 ++ l2, HP2.out, HR4.out, by rw [HE.out]; exact HO1.out.alloc _, HB1.out.alloc _, by simp; omega⟩, by rw [HR4.out.leftN]; exact hmeas⟩
end Go.Proofs.Yteockodnfempfaa
/- How auctions end, in plain words. Conditions: those named in each theorem. -/
namespace Go.Proofs.Yteockodnfempfaa
open Go Go.RowKit Go.Gv Go.Sort

def maxP (r : Int) (L : List GAuctionBid) : Int := L.foldl (fun m c => max m c.amount) r
def MaxIs (r : Int) (L : List GAuctionBid) (m : Int) : Prop := (m = r ∨ ∃ c ∈ L, m = c.amount) ∧ r ≤ m ∧ ∀ c ∈ L, c.amount ≤ m
theorem maxP_is : ∀ (L : List GAuctionBid) (r : Int), MaxIs r L (maxP r L)
  | [], r => ⟨.inl rfl, Int.le_refl _, by simp⟩
  | c :: L, r => by
    have ih := maxP_is L (max r c.amount)
    have e : maxP r (c :: L) = maxP (max r c.amount) L := rfl
    rw [e]
    obtain ⟨h1, h2, h3⟩ := ih
    refine ⟨?_, by omega, fun d hd => ?_⟩
    · rcases h1 with h1 | ⟨d, hd, h1⟩
      · by_cases h : c.amount ≤ r
        · left; omega
        · right; exact ⟨c, by simp, by omega⟩
      · right; exact ⟨d, by simp [hd], h1⟩
    · rcases List.mem_cons.1 hd with rfl | hd
      · omega
      · exact h3 d hd
theorem MaxIs.unique {r m n : Int} {L M : List GAuctionBid} (h : MaxIs r L m) (h' : MaxIs r M n) (hLM : ∀ c, c ∈ L ↔ c ∈ M) : m = n := by
  obtain ⟨h1, h2, h3⟩ := h
  obtain ⟨k1, k2, k3⟩ := h'
  have a : m ≤ n := by
    rcases h1 with h1 | ⟨c, hc, h1⟩
    · omega
    · have := k3 c ((hLM c).1 hc); omega
  have b : n ≤ m := by
    rcases k1 with k1 | ⟨c, hc, k1⟩
    · omega
    · have := h3 c ((hLM c).2 hc); omega
  omega
theorem maxP_snoc (r : Int) (L : List GAuctionBid) (c : GAuctionBid) : maxP r (L ++ [c]) = max (maxP r L) c.amount := by unfold maxP; simp
def atLeast (s : MSale) : List GAuctionBid := s.bids.filter fun b => decide (s.reserve ≤ b.amount)
theorem endR_none {s : MSale} (h : atLeast s = []) : endR s = ⟨s.name, -1, 0⟩ := by
  have e : endBids s = [] := by
    unfold endBids
    unfold atLeast at h
    rw [h]; rfl
  unfold endR
  rw [e]
theorem endR_first {s : MSale} {pre post : List GAuctionBid} {b : GAuctionBid} (hF : atLeast s = pre ++ b :: post) (h1 : ∀ x ∈ pre, x.amount < b.amount) (h2 : ∀ x ∈ post, x.amount ≤ b.amount) :
    endR s = ⟨s.name, b.client, if s.vickrey = true then maxP s.reserve (pre ++ post) else b.amount⟩ := by
  have hE : endBids s = sortL GAuctionBid.amount (pre ++ b :: post) := by unfold endBids; unfold atLeast at hF; rw [hF]
  have hh := head_sortL (key := GAuctionBid.amount) h1 h2
  have hp := perm_sortL (key := GAuctionBid.amount) (pre ++ b :: post)
  have hf := falls_sortL GAuctionBid.amount (pre ++ b :: post)
  cases hs : sortL GAuctionBid.amount (pre ++ b :: post) with
  | nil => rw [hs] at hh; simp at hh
  | cons b' t =>
    rw [hs] at hh hp hf hE
    simp only [List.head?_cons, Option.some.injEq] at hh
    subst hh
    have ht : t.Perm (pre ++ post) := List.Perm.cons_inv (hp.trans List.perm_middle)
    unfold endR
    rw [hE]
    simp only [endPrice]
    by_cases hv : s.vickrey = true
    · rw [if_pos hv, if_pos hv]
      have hmem : ∀ c, c ∈ t ↔ c ∈ pre ++ post := fun c => ht.mem_iff
      cases t with
      | nil =>
        have : pre ++ post = [] := List.eq_nil_of_length_eq_zero (by have := ht.length_eq; simpa using this.symm)
        rw [this]; rfl
      | cons c t' =>
        simp only
        have hc : s.reserve ≤ c.amount := by
          have h3 : c ∈ atLeast s := by
            rw [hF]
            have := (hmem c).1 (by simp)
            rw [List.mem_append] at this ⊢
            rcases this with h | h
            · exact .inl h
            · exact .inr (by simp [h])
          unfold atLeast at h3
          rw [List.mem_filter] at h3
          simpa using h3.2
        have hm : MaxIs s.reserve (c :: t') c.amount := by
          refine ⟨.inr ⟨c, by simp, rfl⟩, hc, fun d hd => ?_⟩
          rcases List.mem_cons.1 hd with rfl | hd
          · exact Int.le_refl _
          · have h5 := (List.pairwise_cons.1 (List.pairwise_cons.1 hf).2).1 d hd
            exact h5
        rw [hm.unique (maxP_is (pre ++ post) s.reserve) hmem]
    · rw [if_neg hv, if_neg hv]

/-! ### The best of a list of amounts -/
def bidsOf (f : Nat → Int → Int) (l : List Int) : List GAuctionBid := l.mapIdx fun i a => ⟨(i : Int), f i a⟩
theorem bidsOf_snoc (f : Nat → Int → Int) (l : List Int) (x : Int) : bidsOf f (l ++ [x]) = bidsOf f l ++ [⟨(l.length : Int), f l.length x⟩] := by unfold bidsOf; simp [List.mapIdx_append]
theorem bidsOf_len (f : Nat → Int → Int) (l : List Int) : (bidsOf f l).length = l.length := by unfold bidsOf; simp
theorem bidsOf_get {f : Nat → Int → Int} {l : List Int} {i : Nat} {b : GAuctionBid} (h : (bidsOf f l)[i]? = some b) : ∃ a, l[i]? = some a ∧ b = ⟨(i : Int), f i a⟩ := by
  unfold bidsOf at h
  rw [List.getElem?_mapIdx] at h
  cases hl : l[i]? with
  | none => rw [hl] at h; cases h
  | some a => rw [hl] at h; simp at h; exact ⟨a, rfl, h.symm⟩
/-- b is the place of the first of the greatest that are at least r (-1: there are none). -/
def BestAt (r : Int) (l : List Int) (b : Int) : Prop :=
  (b = -1 ∧ ∀ x ∈ l, x < r) ∨ ∃ (k : Nat) (a : Int), b = k ∧ l[k]? = some a ∧ r ≤ a ∧ (∀ (j : Nat) (x : Int), l[j]? = some x → j < k → x < a) ∧ ∀ (j : Nat) (x : Int), l[j]? = some x → x ≤ a
theorem BestAt.nil (r : Int) : BestAt r [] (-1) := .inl ⟨rfl, by simp⟩
theorem get_snoc {l : List Int} {x y : Int} {j : Nat} (h : (l ++ [x])[j]? = some y) : (j < l.length ∧ l[j]? = some y) ∨ (j = l.length ∧ y = x) := by
  rcases Nat.lt_or_ge j l.length with hj | hj
  · rw [List.getElem?_append_left hj] at h; exact .inl ⟨hj, h⟩
  · rw [List.getElem?_append_right hj] at h
    have : j - l.length = 0 := by
      cases hq : j - l.length with
      | zero => rfl
      | succ q => rw [hq] at h; simp at h
    rw [this] at h
    simp at h
    exact .inr ⟨by omega, h.symm⟩
theorem BestAt.same {r : Int} {l : List Int} {b x : Int} (h : BestAt r l b) (hx : x < r ∨ ∃ (k : Nat) (a : Int), b = k ∧ l[k]? = some a ∧ x ≤ a) : BestAt r (l ++ [x]) b := by
  rcases h with ⟨rfl, h⟩ | ⟨k, a, rfl, h1, h2, h3, h4⟩
  · rcases hx with hx | ⟨k, a, e, _⟩
    · refine .inl ⟨rfl, fun y hy => ?_⟩
      rw [List.mem_append, List.mem_singleton] at hy
      rcases hy with hy | rfl
      · exact h y hy
      · exact hx
    · omega
  · have hxa : x ≤ a := by
      rcases hx with hx | ⟨k', a', e, e2, e3⟩
      · omega
      · have : k' = k := by omega
        subst this
        rw [h1] at e2; injection e2 with e2; omega
    have hkl : k < l.length := (List.getElem?_eq_some_iff.1 h1).1
    refine .inr ⟨k, a, rfl, by rw [List.getElem?_append_left hkl]; exact h1, h2, fun j y hy hj => ?_, fun j y hy => ?_⟩
    · rcases get_snoc hy with ⟨_, h⟩ | ⟨e, _⟩
      · exact h3 j y h hj
      · omega
    · rcases get_snoc hy with ⟨_, h⟩ | ⟨_, rfl⟩
      · exact h4 j y h
      · exact hxa
theorem BestAt.new {r : Int} {l : List Int} {b x : Int} (h : BestAt r l b) (hr : r ≤ x) (hx : b < 0 ∨ ∃ (k : Nat) (a : Int), b = k ∧ l[k]? = some a ∧ a < x) : BestAt r (l ++ [x]) (l.length : Int) := by
  have hall : ∀ (j : Nat) (y : Int), l[j]? = some y → y < x := by
    intro j y hy
    rcases h with ⟨rfl, h⟩ | ⟨k, a, rfl, h1, h2, h3, h4⟩
    · have := h y (List.mem_of_getElem? hy); omega
    · have := h4 j y hy
      rcases hx with hx | ⟨k', a', e, e2, e3⟩
      · omega
      · have : k' = k := by omega
        subst this
        rw [h1] at e2; injection e2 with e2; omega
  refine .inr ⟨l.length, x, rfl, by simp, hr, fun j y hy hj => ?_, fun j y hy => ?_⟩
  · rcases get_snoc hy with ⟨_, h⟩ | ⟨e, _⟩
    · exact hall j y h
    · omega
  · rcases get_snoc hy with ⟨_, h⟩ | ⟨_, rfl⟩
    · have := hall j y h; omega
    · exact Int.le_refl _
/-- The others that reach r. -/
def others (r : Int) (k : Int) (l : List GAuctionBid) : List GAuctionBid := l.filter fun c => decide (r ≤ c.amount) && !decide (c.client = k)
/-- How it ends for bids by places, where f raises the best alone. -/
theorem endR_best {s : MSale} {f : Nat → Int → Int} {l : List Int} {k : Nat} {a : Int} (hb : s.bids = bidsOf f l) (hk : l[k]? = some a) (hr : s.reserve ≤ f k a) (h3 : ∀ (j : Nat) (x : Int), l[j]? = some x → j < k → f j x < f k a) (h4 : ∀ (j : Nat) (x : Int), l[j]? = some x → f j x ≤ f k a) :
    endR s = ⟨s.name, (k : Int), if s.vickrey = true then maxP s.reserve (others s.reserve k (bidsOf f l)) else f k a⟩ := by
  obtain ⟨bs, hbs⟩ : ∃ bs, bidsOf f l = bs := ⟨_, rfl⟩
  have hkl : k < l.length := (List.getElem?_eq_some_iff.1 hk).1
  have hkb : bs[k]? = some ⟨(k : Int), f k a⟩ := by
    rw [← hbs]; unfold bidsOf; rw [List.getElem?_mapIdx, hk]; rfl
  have hget : ∀ {i : Nat} {b : GAuctionBid}, bs[i]? = some b → ∃ a, l[i]? = some a ∧ b = ⟨(i : Int), f i a⟩ := fun h => bidsOf_get (hbs ▸ h)
  have hkl2 : k < bs.length := (List.getElem?_eq_some_iff.1 hkb).1
  have hsplit : bs = bs.take k ++ (⟨(k : Int), f k a⟩ : GAuctionBid) :: bs.drop (k + 1) := by
    have e := (List.getElem?_eq_some_iff.1 hkb).2
    conv => lhs; rw [← List.take_append_drop k bs, List.drop_eq_getElem_cons hkl2, e]
  have hpre : ∀ c ∈ bs.take k, ∃ j x, j < k ∧ l[j]? = some x ∧ c = ⟨(j : Int), f j x⟩ := by
    intro c hc
    obtain ⟨j, hj⟩ := List.getElem?_of_mem hc
    rw [List.getElem?_take] at hj
    split at hj
    · rename_i hjk
      obtain ⟨x, h1, h2⟩ := hget hj
      exact ⟨j, x, hjk, h1, h2⟩
    · cases hj
  have hpost : ∀ c ∈ bs.drop (k + 1), ∃ j x, k < j ∧ l[j]? = some x ∧ c = ⟨(j : Int), f j x⟩ := by
    intro c hc
    obtain ⟨j, hj⟩ := List.getElem?_of_mem hc
    rw [List.getElem?_drop] at hj
    obtain ⟨x, h1, h2⟩ := hget hj
    exact ⟨k + 1 + j, x, by omega, h1, h2⟩
  have hF : atLeast s = (bs.take k).filter (fun b => decide (s.reserve ≤ b.amount)) ++ (⟨(k : Int), f k a⟩ : GAuctionBid) :: (bs.drop (k + 1)).filter (fun b => decide (s.reserve ≤ b.amount)) := by
    unfold atLeast
    rw [hb, hbs]
    conv => lhs; rw [hsplit]
    rw [List.filter_append, List.filter_cons]
    simp [hr]
  have hO : others s.reserve k bs = (bs.take k).filter (fun b => decide (s.reserve ≤ b.amount)) ++ (bs.drop (k + 1)).filter (fun b => decide (s.reserve ≤ b.amount)) := by
    unfold others
    conv => lhs; rw [hsplit]
    rw [List.filter_append, List.filter_cons]
    simp only [decide_true, Bool.not_true, Bool.and_false, Bool.false_eq_true, if_false]
    congr 1
    · apply List.filter_congr
      intro c hc
      obtain ⟨j, x, h1, _, rfl⟩ := hpre c hc
      have : ¬ (j : Int) = k := by omega
      simp [this]
    · apply List.filter_congr
      intro c hc
      obtain ⟨j, x, h1, _, rfl⟩ := hpost c hc
      have : ¬ (j : Int) = k := by omega
      simp [this]
  rw [hbs, hO]
  refine endR_first hF (fun c hc => ?_) (fun c hc => ?_)
  · obtain ⟨j, x, h1, h2, rfl⟩ := hpre c (List.mem_filter.1 hc).1
    exact h3 j x h2 h1
  · obtain ⟨j, x, h1, h2, rfl⟩ := hpost c (List.mem_filter.1 hc).1
    exact h4 j x h2
/-- Bids by places, all unlike: whatever their order, one end. -/
theorem endR_perm {s t : MSale} (hn : s.name = t.name) (hv : s.vickrey = t.vickrey) (hr : s.reserve = t.reserve) (hp : s.bids.Perm t.bids) (hu : s.bids.Pairwise fun a b => a.amount ≠ b.amount) : endR s = endR t := by
  have hF : (atLeast s).Perm (atLeast t) := by unfold atLeast; rw [hr]; exact hp.filter _
  have huF : (atLeast s).Pairwise fun a b => a.amount ≠ b.amount := hu.filter _
  have huT : (atLeast t).Pairwise fun a b => a.amount ≠ b.amount := (hF.pairwise_iff (fun {_ _} h => Ne.symm h)).1 huF
  have key : ∀ (l m : List GAuctionBid), l.Perm m → Falls GAuctionBid.amount l → Falls GAuctionBid.amount m → (l.Pairwise fun a b => a.amount ≠ b.amount) → l = m := by
    intro l
    induction l with
    | nil => intro m h _ _ _; exact (List.eq_nil_of_length_eq_zero (by simpa using h.length_eq.symm)).symm
    | cons a l ih =>
      intro m h hl hm hu
      cases m with
      | nil => have := h.length_eq; simp at this
      | cons b m =>
        unfold Falls at hl hm
        rw [List.pairwise_cons] at hl hm hu
        have e : a = b := by
          have h1 : a ∈ b :: m := h.mem_iff.1 (by simp)
          have h2 : b ∈ a :: l := h.mem_iff.2 (by simp)
          rcases List.mem_cons.1 h1 with h1 | h1
          · exact h1
          · rcases List.mem_cons.1 h2 with h2 | h2
            · exact h2.symm
            · have k1 := hm.1 a h1
              have k2 := hl.1 b h2
              exact absurd (by omega) (hu.1 b h2)
        subst e
        rw [ih m h.cons_inv hl.2 hm.2 hu.2]
  have hE : endBids s = endBids t := by
    have e1 : endBids s = sortL GAuctionBid.amount (atLeast s) := rfl
    have e2 : endBids t = sortL GAuctionBid.amount (atLeast t) := rfl
    rw [e1, e2]
    refine key _ _ (((perm_sortL (key := GAuctionBid.amount) _).trans hF).trans (perm_sortL (key := GAuctionBid.amount) _).symm) (falls_sortL _ _) (falls_sortL _ _) ?_
    exact ((perm_sortL (key := GAuctionBid.amount) (atLeast s)).pairwise_iff (fun {_ _} h => Ne.symm h)).2 huF
  unfold endR
  rw [hE, hn]
  cases endBids t with
  | nil => rfl
  | cons b r =>
    simp only [endPrice, hv, hr]

/-! ### A house of one auction -/
theorem mset_one {V : Type} (k : ByteArray) (x y : V) : mset [(k, x)] k y = [(k, y)] := by unfold mset; simp
theorem mget_one {V : Type} (k : ByteArray) (x : V) : mget [(k, x)] k = some x := by rw [mget_cons, if_pos rfl]
theorem dueM_one (k : ByteArray) (x : MSale) (now : Int) : dueM [(k, x)] now = if dueB now x = true then [x] else [] := by
  unfold dueM
  by_cases h : dueB now x = true <;> simp [h]
theorem settle_one (k : ByteArray) (x : MSale) (now : Int) : settleH [(k, x)] now = [(k, if dueB now x = true then doneM x else x)] := by
  unfold settleH
  by_cases h : dueB now x = true <;> simp [h]
theorem perm_one {α : Type} {D : List α} {x : α} (h : D.Perm [x]) : D = [x] := List.perm_singleton.1 h
theorem perm_none {α : Type} {D : List α} (h : D.Perm []) : D = [] := List.perm_nil.1 h
end Go.Proofs.Yteockodnfempfaa
/- A house of one auction: what each call does to it. Conditions: those named in each theorem. -/
namespace Go.Proofs.Yteockodnfempfaa
open Go Go.RowKit Go.Gv Go.Sort

theorem open_is (c : Int) (H' : MHouse) (p : Addr) (r : Nat) (H : MHouse) (name : ByteArray) (v : Bool) (reserve close now : Int) (w : World) (ho : openR H name reserve close now = c) (hO : openH H name v reserve close now = H') (hH : HouseIs w p r H) (hp : p.block ≠ r) (hn : name.size ≤ maxLen) (hlen : H.length ≤ maxLen) :
    Calls Try.prog 35 #[.pointer (some p), .string name, .bool v, .int .i64 reserve, .int .u64 close, .int .u64 now] w fun e w' => e = .returned (.int .i64 c) ∧ HouseIs w' p r H' ∧ GX r w w' := by
  subst ho; subst hO; exact open_any p r H name v reserve close now w hH hp hn hlen
theorem bid_is (c : Int) (H' : MHouse) (p : Addr) (r : Nat) (H : MHouse) (name : ByteArray) (client amount now : Int) (w : World) (ho : bidR H name client amount now = c) (hO : bidH H name client amount now = H') (hH : HouseIs w p r H) (hp : p.block ≠ r) (hbig : ∀ x, mget H name = some x → x.bids.length ≤ 1000000) :
    Calls Try.prog 36 #[.pointer (some p), .string name, .int .i64 client, .int .i64 amount, .int .u64 now] w fun e w' => e = .returned (.int .i64 c) ∧ HouseIs w' p r H' ∧ GX r w w' := by
  subst ho; subst hO; exact bid_any p r H name client amount now w hH hp hbig
theorem openH_no {H : MHouse} {name : ByteArray} {v : Bool} {reserve close now : Int} (h : openR H name reserve close now ≠ 0) : openH H name v reserve close now = H := by unfold openH; rw [if_neg h]
theorem open_first {name : ByteArray} {reserve close now : Int} (hn : nameB name = true) (h0 : 0 ≤ reserve) (h1 : reserve ≤ 1099511627776) (hc : now < close) : openR [] name reserve close now = 0 := by
  unfold openR badOpen
  have a : ¬ reserve < 0 := by omega
  have b : ¬ 1099511627776 < reserve := by omega
  have c : ¬ close ≤ now := by omega
  simp [hn, a, b, c, mget_nil]
theorem open_first_H {name : ByteArray} {v : Bool} {reserve close now : Int} (h : openR [] name reserve close now = 0) : openH [] name v reserve close now = [(name, newSale name v reserve close)] := by
  unfold openH
  rw [if_pos h]; unfold mset; simp
theorem open_there {k : ByteArray} {x : MSale} {reserve close now : Int} (hn : nameB k = true) (h0 : 0 ≤ reserve) (h1 : reserve ≤ 1099511627776) : openR [(k, x)] k reserve close now = 5 := by
  unfold openR badOpen
  have a : ¬ reserve < 0 := by omega
  have b : ¬ 1099511627776 < reserve := by omega
  rw [mget_one]
  simp [hn, a, b]
theorem bidR_one (k : ByteArray) (x : MSale) (c a now : Int) : bidR [(k, x)] k c a now = if x.settled = true ∨ x.close < now then 11 else if badBid c a = true then 1 else if hasBid x.bids c = true then 5 else 0 := by
  unfold bidR; rw [mget_one]
theorem bid_ok {k : ByteArray} {x : MSale} {c a now : Int} (hs : x.settled = false) (hc : now ≤ x.close) (hc0 : 0 ≤ c) (hc1 : c < 100) (ha0 : 1 ≤ a) (ha1 : a ≤ 1099511627776) (hn : hasBid x.bids c = false) : bidR [(k, x)] k c a now = 0 := by
  rw [bidR_one]
  unfold badBid
  have e1 : ¬ x.close < now := by omega
  have e2 : ¬ a < 1 := by omega
  have e3 : ¬ 1099511627776 < a := by omega
  have e4 : ¬ c < 0 := by omega
  have e5 : ¬ 100 ≤ c := by omega
  simp [hs, e1, e2, e3, e4, e5, hn]
theorem bid_ok_H {k : ByteArray} {x : MSale} {c a now : Int} (h : bidR [(k, x)] k c a now = 0) : bidH [(k, x)] k c a now = [(k, x.bid c a)] := by
  unfold bidH
  rw [mget_one]
  simp only
  rw [if_pos h, mset_one]
theorem bid_shut {k : ByteArray} {x : MSale} {c a now : Int} (h : x.settled = true ∨ x.close < now) : bidR [(k, x)] k c a now = 11 := by rw [bidR_one, if_pos h]
theorem bidH_no {k : ByteArray} {x : MSale} {c a now : Int} (h : bidR [(k, x)] k c a now ≠ 0) : bidH [(k, x)] k c a now = [(k, x)] := by
  unfold bidH
  rw [mget_one]
  simp only
  rw [if_neg h]
/-- A bid that is taken, by a house of one auction. -/
theorem bid_one (p : Addr) (r : Nat) (k : ByteArray) (x : MSale) (c a now : Int) (w : World) (hH : HouseIs w p r [(k, x)]) (hp : p.block ≠ r) (hs : x.settled = false) (hc : now ≤ x.close) (hc0 : 0 ≤ c) (hc1 : c < 100) (ha0 : 1 ≤ a) (ha1 : a ≤ 1099511627776) (hn : hasBid x.bids c = false) (hl : x.bids.length ≤ 1000) :
    Calls Try.prog 36 #[.pointer (some p), .string k, .int .i64 c, .int .i64 a, .int .u64 now] w fun e w' => e = .returned (.int .i64 0) ∧ HouseIs w' p r [(k, x.bid c a)] ∧ GX r w w' := by
  have h := bid_ok (k := k) hs hc hc0 hc1 ha0 ha1 hn
  refine bid_is 0 _ p r _ k c a now w h (bid_ok_H h) hH hp (fun y hy => ?_)
  rw [mget_one] at hy
  injection hy with hy; subst hy; omega
theorem bid_no (p : Addr) (r : Nat) (k : ByteArray) (x : MSale) (c a now : Int) (w : World) (hH : HouseIs w p r [(k, x)]) (hp : p.block ≠ r) (hs : x.settled = true ∨ x.close < now) (hl : x.bids.length ≤ 1000) :
    Calls Try.prog 36 #[.pointer (some p), .string k, .int .i64 c, .int .i64 a, .int .u64 now] w fun e w' => e = .returned (.int .i64 11) ∧ HouseIs w' p r [(k, x)] ∧ GX r w w' := by
  have h := bid_shut (k := k) (c := c) (a := a) hs
  refine bid_is 11 _ p r _ k c a now w h (bidH_no (by rw [h]; decide)) hH hp (fun y hy => ?_)
  rw [mget_one] at hy
  injection hy with hy; subst hy; omega
/-- What is due is settled: one result. -/
def SettledOne (w : World) (p : Addr) (r : Nat) (k : ByteArray) (x : MSale) (e : Ending) (w' : World) : Prop :=
  ∃ g c : Nat, e = .returned (.slice (some ⟨g, 0, none⟩) 1 c) ∧ get? GAuctionResult w' ⟨g, 0, none⟩ = some (endR x) ∧ w.heap.size ≤ g ∧ HouseIs w' p r [(k, doneM x)] ∧ GX r w w'
theorem settle_due (p : Addr) (r : Nat) (k : ByteArray) (x : MSale) (now : Int) (w : World) (hH : HouseIs w p r [(k, x)]) (hp : p.block ≠ r) (hk : x.name = k) (hs : x.settled = false) (hc : x.close < now) (hl : x.bids.length < 20) :
    Calls Try.prog 37 #[.pointer (some p), .int .u64 now] w (SettledOne w p r k x) := by
  have hd : dueB now x = true := by unfold dueB; simp [hs, hc]
  refine (settle_any p r [(k, x)] now w hH hp (fun q hq => ?_) (by simp) (fun q hq => ?_)).mono ?_
  · obtain rfl : q = (k, x) := by simpa using hq
    exact hk
  · obtain rfl : q = (k, x) := by simpa using hq
    exact Nat.le_of_lt (Nat.lt_of_lt_of_le hl (by decide))
  · rintro e w' ⟨D, v, rfl, hD, _, hown, hH', hg⟩
    rw [dueM_one, if_pos hd] at hD
    obtain rfl := perm_one hD
    rw [settle_one, if_pos hd] at hH'
    obtain ⟨A, c, rfl, hoa, _, _⟩ := OwnS.ownA hown
    obtain ⟨g, rfl, hg1, _, _⟩ := OwnA.place hoa (by simp)
    obtain ⟨ad, y, he, _, hy, hget⟩ := hoa.sl.at_ (k := 0) (by simp)
    obtain rfl : ad = ⟨g, 0, none⟩ := by injection he with he; exact he.symm
    rw [Nat.zero_mul, Addr.add_zero'] at hget
    simp at hy; subst hy
    exact ⟨g, c, rfl, hget, hg1, hH', hg⟩
def SettledNone (w : World) (p : Addr) (r : Nat) (k : ByteArray) (x : MSale) (e : Ending) (w' : World) : Prop :=
  ∃ (A : Option Addr) (c : Nat), e = .returned (.slice A 0 c) ∧ HouseIs w' p r [(k, x)] ∧ GX r w w'
theorem settle_not (p : Addr) (r : Nat) (k : ByteArray) (x : MSale) (now : Int) (w : World) (hH : HouseIs w p r [(k, x)]) (hp : p.block ≠ r) (hk : x.name = k) (hs : x.settled = true ∨ now ≤ x.close) (hl : x.bids.length < 20) :
    Calls Try.prog 37 #[.pointer (some p), .int .u64 now] w (SettledNone w p r k x) := by
  have hd : ¬ dueB now x = true := by
    unfold dueB
    rcases hs with h | h
    · simp [h]
    · have : ¬ x.close < now := by omega
      simp [this]
  refine (settle_any p r [(k, x)] now w hH hp (fun q hq => ?_) (by simp) (fun q hq => ?_)).mono ?_
  · obtain rfl : q = (k, x) := by simpa using hq
    exact hk
  · obtain rfl : q = (k, x) := by simpa using hq
    exact Nat.le_of_lt (Nat.lt_of_lt_of_le hl (by decide))
  · rintro e w' ⟨D, v, rfl, hD, _, hown, hH', hg⟩
    rw [dueM_one, if_neg hd] at hD
    obtain rfl := perm_none hD
    rw [settle_one, if_neg hd] at hH'
    obtain ⟨A, c, rfl, _, _, _⟩ := OwnS.ownA hown
    exact ⟨A, c, rfl, hH', hg⟩
end Go.Proofs.Yteockodnfempfaa
/- The document's example of an auction. Conditions: none. -/
namespace Go.Proofs.Yteockodnfempfaa
open Go Go.RowKit Go.Gv Go.Sort

theorem _root_.Go.Gv.Bel.gxb {w w1 w2 : World} {r : Nat} (hb : Bel w w1) (hg : GX r w1 w2) (hr : w.heap.size ≤ r) : Bel w w2 := Bel.grown hb hg (fun k hk => by injection hk with hk; omega)
def wakeS : MSale := ((newSale ⟨#[97]⟩ true 5 10).bid 1 9).bid 2 7
theorem wakeS_end : endR wakeS = ⟨⟨#[97]⟩, 1, 7⟩ := by
  have h : atLeast wakeS = [] ++ (⟨1, 9⟩ : GAuctionBid) :: [⟨2, 7⟩] := rfl
  rw [endR_first h (by simp) (by simp)]
  rfl
set_option maxRecDepth 100000 in
set_option maxHeartbeats 2000000 in
theorem wakesA_any (w : World) : Calls Try.prog 38 #[] w fun e w' => e = .returned (.bool true) ∧ Bel w w' := by
  have HO := Lib.hid (open_first (name := ⟨#[97]⟩) (reserve := 5) (close := 10) (now := 1) rfl (by omega) (by omega) (by omega))
  go_enter Try.func38, Try.ntmps38
  go_wp2_with fail
  refine (new_any _).mono ?_
  rintro _ w1 ⟨g, r, rfl, hH, hg, hr, hne, hlt, hb⟩
  have HH := Lib.hid hH; have HB := Lib.hid hb; clear hH hb
  go_wp2_with fail
  refine (open_is 0 _ ⟨g, 0, none⟩ r [] ⟨#[97]⟩ true 5 10 1 _ HO.out (open_first_H HO.out) HH.out hne (by decide) (by decide)).mono ?_
  rintro _ w2 ⟨rfl, hH, hg2⟩
  have HH2 := Lib.hid hH; have HB2 := Lib.hid (HB.out.gxb hg2 hr); clear hH hg2 HH HB
  go_wp2_with fail
  refine (bid_one ⟨g, 0, none⟩ r ⟨#[97]⟩ (newSale ⟨#[97]⟩ true 5 10) 1 9 2 _ HH2.out hne rfl (by decide) (by decide) (by decide) (by decide) (by decide) rfl (by decide)).mono ?_
  rintro _ w3 ⟨rfl, hH, hg2⟩
  have HH3 := Lib.hid hH; have HB3 := Lib.hid (HB2.out.gxb hg2 hr); clear hH hg2 HH2 HB2
  go_wp2_with fail
  refine (bid_one ⟨g, 0, none⟩ r ⟨#[97]⟩ ((newSale ⟨#[97]⟩ true 5 10).bid 1 9) 2 7 3 _ HH3.out hne rfl (by decide) (by decide) (by decide) (by decide) (by decide) rfl (by decide)).mono ?_
  rintro _ w4 ⟨rfl, hH, hg2⟩
  have HH4 := Lib.hid hH; have HB4 := Lib.hid (HB3.out.gxb hg2 hr); clear hH hg2 HH3 HB3
  go_wp2_with fail
  refine (settle_due ⟨g, 0, none⟩ r ⟨#[97]⟩ wakeS 11 _ HH4.out hne rfl rfl (by decide) (by decide)).mono ?_
  rintro _ w5 ⟨g5, c5, rfl, hget, _, _, hg2⟩
  rw [wakeS_end] at hget
  have HB5 := Lib.hid (HB4.out.gxb hg2 hr); clear hg2 HH4 HB4
  have f1 : w5.cell? ⟨g5, 1, none⟩ = some (.int .i64 1) := by simpa using cell_off (by omega) (GAuctionResult.at_winner hget)
  have f2 : w5.cell? ⟨g5, 2, none⟩ = some (.int .i64 7) := by simpa using cell_off (by omega) (GAuctionResult.at_price hget)
  clear hget
  go_wp2_with fail
  go_ret
  exact ⟨rfl, HB5.out⟩
end Go.Proofs.Yteockodnfempfaa
