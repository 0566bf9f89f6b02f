/- Settle, its plain law. Conditions: those named in each theorem. -/
import Derived.Test.YteockodnfempfaaAuO
import Derived.Test.YteockodnfempfaaMr
import Derived.Test.YteockodnfempfaaRr
namespace Go.Proofs.Yteockodnfempfaa
open Go Go.RowKit Go.Gv Go.Sort Go.Proofs

def dueB (now : Int) (x : MSale) : Bool := !x.settled && decide (x.close < now)
def dueG (now : Int) (x : GAuctionSale) : Bool := !x.settled && decide (x.close < now)
def dueM (H : MHouse) (now : Int) : List MSale := (H.filter fun q => dueB now q.2).map (·.2)
def doneM (x : MSale) : MSale := { x with settled := true, result := endR x }
def settleH (H : MHouse) (now : Int) : MHouse := H.map fun q => if dueB now q.2 = true then (q.1, doneM q.2) else q
def Named (H : MHouse) : Prop := ∀ q ∈ H, q.2.name = q.1
def saleLe (x y : MSale) : Prop := x.close < y.close ∨ (x.close = y.close ∧ ¬ y.name.toList < x.name.toList)
open Classical in
noncomputable def settleBy (S : List ByteArray) (H : MHouse) : MHouse := H.map fun (q : ByteArray × MSale) => if q.1 ∈ S then (q.1, doneM q.2) else q
theorem settleBy_nil (H : MHouse) : settleBy [] H = H := by unfold settleBy; simp
theorem settleBy_keys (S : List ByteArray) (H : MHouse) : (settleBy S H).map (·.1) = H.map (·.1) := by
  unfold settleBy
  rw [List.map_map]
  apply List.map_congr_left
  intro q _
  simp only [Function.comp]
  split <;> rfl
theorem entry_unique : ∀ {H : MHouse}, (H.map (·.1)).Nodup → ∀ {q p : ByteArray × MSale}, q ∈ H → p ∈ H → q.1 = p.1 → q = p
  | [], _, _, _, h, _, _ => by simp at h
  | a :: H, hn, q, p, hq, hp, e => by
    rw [List.map_cons, List.nodup_cons] at hn
    rcases List.mem_cons.1 hq with h1 | h1
    · rcases List.mem_cons.1 hp with h2 | h2
      · rw [h1, h2]
      · exact absurd (show a.1 ∈ H.map (·.1) from List.mem_map.2 ⟨p, h2, by rw [← e, h1]⟩) hn.1
    · rcases List.mem_cons.1 hp with h2 | h2
      · exact absurd (show a.1 ∈ H.map (·.1) from List.mem_map.2 ⟨q, h1, by rw [e, h2]⟩) hn.1
      · exact entry_unique hn.2 h1 h2 e
theorem settleBy_step {S : List ByteArray} {H : MHouse} {k : ByteArray} {x : MSale} (hn : (H.map (·.1)).Nodup) (hm : (k, x) ∈ H) (hS : k ∉ S) : mset (settleBy S H) k (doneM x) = settleBy (S ++ [k]) H := by
  unfold mset
  rw [settleBy_keys, if_pos (List.mem_map.2 ⟨_, hm, rfl⟩)]
  unfold settleBy
  rw [List.map_map]
  apply List.map_congr_left
  intro q hq
  simp only [Function.comp, List.mem_append, List.mem_singleton]
  by_cases hk : q.1 = k
  · obtain rfl : q = (k, x) := entry_unique hn hq hm hk
    simp [hS]
  · by_cases hs : q.1 ∈ S <;> simp [hk, hs]
theorem settleBy_end {D : List MSale} {H : MHouse} {now : Int} (hn : (H.map (·.1)).Nodup) (hN : Named H) (hD : D.Perm (dueM H now)) : settleBy (D.map (·.name)) H = settleH H now := by
  unfold settleBy settleH
  apply List.map_congr_left
  intro q hq
  have hiff : q.1 ∈ D.map (·.name) ↔ dueB now q.2 = true := by
    rw [List.mem_map]
    constructor
    · rintro ⟨x, hx, hxn⟩
      have hx2 := hD.mem_iff.1 hx
      unfold dueM at hx2
      rw [List.mem_map] at hx2
      obtain ⟨p, hp, rfl⟩ := hx2
      rw [List.mem_filter] at hp
      have := entry_unique hn hq hp.1 (by rw [← hxn, hN p hp.1])
      rw [this]; exact hp.2
    · intro h
      refine ⟨q.2, hD.mem_iff.2 ?_, hN q hq⟩
      unfold dueM
      rw [List.mem_map]
      exact ⟨q, List.mem_filter.2 ⟨hq, h⟩, rfl⟩
  by_cases h : dueB now q.2 = true
  · rw [if_pos (hiff.2 h), if_pos h]
  · rw [if_neg (fun h' => h (hiff.1 h')), if_neg h]
/-- The names of what is due are apart. -/
theorem due_names {D : List MSale} {H : MHouse} {now : Int} (hn : (H.map (·.1)).Nodup) (hN : Named H) (hD : D.Perm (dueM H now)) : (D.map (·.name)).Nodup := by
  refine (hD.map _).nodup_iff.2 ?_
  unfold dueM
  rw [List.map_map]
  have e : (H.filter fun q => dueB now q.2).map ((fun x => x.name) ∘ fun x => x.2) = (H.filter fun q => dueB now q.2).map (·.1) := by
    apply List.map_congr_left
    intro q hq
    exact hN q (List.mem_filter.1 hq).1
  rw [e]
  exact hn.sublist (List.Sublist.map _ List.filter_sublist)
theorem due_mem {D : List MSale} {H : MHouse} {now : Int} {x : MSale} (hN : Named H) (hD : D.Perm (dueM H now)) (hx : x ∈ D) : (x.name, x) ∈ H := by
  have hx2 := hD.mem_iff.1 hx
  unfold dueM at hx2
  rw [List.mem_map] at hx2
  obtain ⟨p, hp, rfl⟩ := hx2
  rw [hN p (List.mem_filter.1 hp).1]
  exact (List.mem_filter.1 hp).1
/-- The step of Settle's second loop. -/
theorem settle_step {D : List MSale} {H : MHouse} {now : Int} (hn : (H.map (·.1)).Nodup) (hN : Named H) (hD : D.Perm (dueM H now)) {i : Nat} {x : MSale} (hx : D[i]? = some x) :
    mset (settleBy ((D.take i).map (·.name)) H) x.name (doneM x) = settleBy ((D.take (i + 1)).map (·.name)) H := by
  have e : D.take (i + 1) = D.take i ++ [x] := by rw [List.take_add_one, hx]; rfl
  rw [e, List.map_append]
  refine settleBy_step hn (due_mem hN hD (List.mem_of_getElem? hx)) ?_
  have h2 := due_names hn hN hD
  have h3 : D.map (·.name) = ((D.take i).map (·.name)) ++ ([x.name] ++ (D.drop (i + 1)).map (·.name)) := by
    rw [← List.map_singleton (f := fun x : MSale => x.name), ← List.map_append, ← List.map_append, ← List.append_assoc, ← e, List.take_append_drop]
  rw [h3, List.nodup_append] at h2
  intro hmem
  exact h2.2.2 _ hmem _ (by simp) rfl
theorem settleH_keys (H : MHouse) (now : Int) : (settleH H now).map (·.1) = H.map (·.1) := by
  unfold settleH
  rw [List.map_map]
  apply List.map_congr_left
  intro q _
  simp only [Function.comp]
  split <;> rfl
theorem Named.settle {H : MHouse} (h : Named H) (now : Int) : Named (settleH H now) := by
  intro q hq
  unfold settleH at hq
  rw [List.mem_map] at hq
  obtain ⟨p, hp, rfl⟩ := hq
  split
  · exact h p hp
  · exact h p hp
theorem Named.set {H : MHouse} (h : Named H) {k : ByteArray} {x : MSale} (hx : x.name = k) : Named (mset H k x) := by
  intro q hq
  unfold mset at hq
  split at hq
  · rw [List.mem_map] at hq
    obtain ⟨p, hp, rfl⟩ := hq
    split
    · exact hx
    · exact h p hp
  · rw [List.mem_append, List.mem_singleton] at hq
    rcases hq with hq | rfl
    · exact h q hq
    · exact hx
/-- What HRel says, as R2. -/
theorem HRel.r2 {w : World} : ∀ {m : List (ByteArray × GAuctionSale)} {H : MHouse}, HRel w m H → R2 (fun p q => p.1 = q.1 ∧ SaleIs w p.2 q.2) m H
  | [], [], _ => trivial
  | _ :: _, _ :: _, h => ⟨h.1, HRel.r2 h.2⟩
  | [], _ :: _, h => h.elim
  | _ :: _, [], h => h.elim
theorem SaleIs.due {w : World} {s : GAuctionSale} {x : MSale} (h : SaleIs w s x) (now : Int) : dueG now s = dueB now x := by
  obtain ⟨hd, rfl, _⟩ := h; rfl
/-- What the first loop leaves is what is due, in some order. -/
theorem due_typed {w : World} {m V : List (ByteArray × GAuctionSale)} {H : MHouse} {now : Int} (h : HRel w m H) (hV : V.Perm m) {ds : List GAuctionSale} (hd : ds.Perm ((V.filter fun p => dueG now p.2).map (·.2))) : ∃ D, D.Perm (dueM H now) ∧ R2 (SaleIs w) ds D := by
  have h1 := (h.r2.filter (p := fun p => dueG now p.2) (q := fun q => dueB now q.2) (fun a b hab => hab.2.due now)).map (S := SaleIs w) (f := fun p => p.2) (g := fun q => q.2) (fun a b hab => hab.2)
  obtain ⟨D, h2, h3⟩ := h1.perm (((hd.trans ((hV.filter _).map _))).symm)
  exact ⟨D, h2.symm, h3⟩
end Go.Proofs.Yteockodnfempfaa
