/- Ranging over a map that reads as a list. Conditions: those named in each theorem. -/
import Derived.Test.YteockodnfempfaaMp
import Derived.Maps.RangeWalk
namespace Go.Gv
open Go Go.RowKit Go.ChangeMaps Go.MapKept
set_option linter.unusedSectionVars false

theorem leftOf_push (es : Array MapEntry) (seen : Array Nat) (k : Nat) : (leftOf es (seen.push k)).toList = (leftOf es seen).toList.filter fun x => !(x.born == k) := by
  unfold leftOf
  rw [Array.toList_filter, Array.toList_filter, List.filter_filter]
  apply List.filter_congr
  intro x _
  rw [Go.contains_push]
  cases seen.contains x.born <;> cases (x.born == k) <;> rfl
theorem filter_born {a b : List MapEntry} {e : MapEntry} (hp : (a ++ e :: b).Pairwise fun x y => x.born < y.born) : (a ++ e :: b).filter (fun x => !(x.born == e.born)) = a ++ b := by
  rw [List.pairwise_append] at hp
  obtain ⟨_, h2, h3⟩ := hp
  rw [List.pairwise_cons] at h2
  rw [List.filter_append, List.filter_cons]
  have ha : a.filter (fun x => !(x.born == e.born)) = a := by
    rw [List.filter_eq_self]
    intro x hx
    have := h3 x hx e (by simp)
    simp; omega
  have hb : b.filter (fun x => !(x.born == e.born)) = b := by
    rw [List.filter_eq_self]
    intro x hx
    have := h2.1 x hx
    simp; omega
  simp [ha, hb]
section
variable {K V : Type} [DecidableEq K] [KEnc K] [VEnc V] {P : Program} {w w' : World} {r it : Nat} {m left : List (K × V)}
/-- Block it is an iterator over the map in block r, which reads as m; left: what is still to come. -/
def Ranges (w : World) (r it : Nat) (m left : List (K × V)) : Prop :=
  ∃ es clock since seen c0, w.heap[r]? = some (.map es clock) ∧ es.toList.map (fun e => (e.key, e.val)) = m.map (fun p => (KEnc.kv p.1, VEnc.vv p.2)) ∧ (m.map (·.1)).Nodup ∧
    es.toList.Pairwise (fun a b => a.born < b.born) ∧ (∀ e ∈ es.toList, e.born < clock) ∧
    w.heap[it]? = some (.mapIter (some r) since seen c0) ∧ (∀ x ∈ es.toList, x.born < since) ∧ since ≤ c0 ∧ since ≤ clock ∧
    (leftOf es seen).toList.map (fun e => (e.key, e.val)) = left.map (fun p => (KEnc.kv p.1, VEnc.vv p.2))
theorem Ranges.is (h : Ranges w r it m left) : mapAt K V w r = some m := by
  obtain ⟨es, clock, since, seen, c0, hb, he, hn, hp, hc, _⟩ := h
  exact mapAt_iff.2 ⟨es, clock, hb, he, hn, hp, hc⟩
theorem Ranges.lt (h : Ranges w r it m left) : it < w.heap.size := by
  obtain ⟨es, clock, since, seen, c0, _, _, _, _, _, hi, _⟩ := h
  exact (Array.getElem?_eq_some_iff.1 hi).1
theorem Ranges.ne (h : Ranges w r it m left) : it ≠ r := by
  obtain ⟨es, clock, since, seen, c0, hb, _, _, _, _, hi, _⟩ := h
  intro e
  rw [e, hb] at hi
  cases hi
theorem Ranges.leftN (h : Ranges w r it m left) : w.rangeLeft r it = left.length := by
  obtain ⟨es, clock, since, seen, c0, hb, _, _, _, _, hi, _, _, _, hl⟩ := h
  simp only [World.rangeLeft, hb, hi]
  have := congrArg List.length hl
  simpa using this
theorem Ranges.kept {row : Option Nat} (h : Ranges w r it m left) (hg : w.grownBy w' row) (hr : some r ≠ row) (hi : some it ≠ row) : Ranges w' r it m left := by
  have h1 := mapAt_lt h.is
  have h2 := h.lt
  obtain ⟨es, clock, since, seen, c0, hb, he, hn, hp, hc, hit, rest⟩ := h
  exact ⟨es, clock, since, seen, c0, (hg.block r h1 hr).trans hb, he, hn, hp, hc, (hg.block it h2 hi).trans hit, rest⟩
theorem Ranges.below (h : Ranges w r it m left) (hb : Below w.heap.size w w') : Ranges w' r it m left := by
  have h1 := mapAt_lt h.is
  have h2 := h.lt
  obtain ⟨es, clock, since, seen, c0, hbk, he, hn, hp, hc, hit, rest⟩ := h
  exact ⟨es, clock, since, seen, c0, (hb.block r h1).trans hbk, he, hn, hp, hc, (hb.block it h2).trans hit, rest⟩
/-- 'range m'. -/
theorem ranges_start {tM tK tV : TypeId} (hM : P.underlying tM = some (.map tK tV)) (h : mapAt K V w r = some m) :
    ∃ o, (Instr.range tM (.map (some r))).run P w = .ok (.pointer (some ⟨w.heap.size, 0, none⟩)) (w.alloc o) ∧ Ranges (w.alloc o) r w.heap.size m m := by
  have hlt := mapAt_lt h
  obtain ⟨es, clock, hb, he, hn, hp, hc⟩ := mapAt_iff.1 h
  refine ⟨_, run_range_map w tM tK tV r es clock hM hb, es, clock, clock, #[], clock, (Go.heap_alloc_old w _ hlt).trans hb, he, hn, hp, hc, Go.heap_alloc_new w _, hc, Nat.le_refl _, Nat.le_refl _, ?_⟩
  rw [← he]
  unfold leftOf
  rw [Array.toList_filter, List.filter_eq_self.2 (by intro x _; simp)]
/-- The step: nothing is left, or one that is left comes, whichever. -/
theorem Ranges.next (P : Program) (h : Ranges w r it m left) :
    (left = [] ∧ ∀ ty : TypeId, (Instr.next (.pointer (some ⟨it, 0, none⟩)) false ty).run P w = .ok (.tuple #[.bool false]) w) ∨
    ∃ l1 p l2 w', left = l1 ++ p :: l2 ∧ (∀ ty : TypeId, (Instr.next (.pointer (some ⟨it, 0, none⟩)) false ty).run P w = .ok (.tuple #[.bool true, KEnc.kv p.1, VEnc.vv p.2]) w') ∧ Ranges w' r it m (l1 ++ l2) ∧
      w.grownBy w' (some it) ∧ w'.heap.size = w.heap.size ∧ (Instr.entry (.pointer (some ⟨it, 0, none⟩))).run P w' = .ok (.tuple #[KEnc.kv p.1, VEnc.vv p.2]) w' := by
  have hne := h.ne
  obtain ⟨es, clock, since, seen, c0, hb, he, hn, hp, hc, hit, hold, hsc, hsk, hl⟩ := h
  rcases run_next_at (P := P) w 0 it r since c0 seen es clock hit hb hold hsc with ⟨h0, hrun⟩ | ⟨e, hel, w1, hal, hrun⟩
  · refine .inl ⟨?_, fun _ => hrun⟩
    have := congrArg List.length hl
    simp only [List.length_map, Array.length_toList, h0] at this
    exact List.eq_nil_of_length_eq_zero this.symm
  · obtain ⟨hem, hes⟩ := mem_left hel
    obtain ⟨a, b, hab⟩ := List.append_of_mem hel
    have hl2 := hl
    rw [hab, List.map_append, List.map_cons] at hl2
    obtain ⟨l1, lr, rfl, e1, e2⟩ := List.map_eq_append_iff.1 hl2.symm
    obtain ⟨p, l2, rfl, e3, e4⟩ := List.map_eq_cons_iff.1 e2
    simp only [Prod.mk.injEq] at e3
    have hr1 : w1.heap[it]? = some (.mapIter (some r) since seen c0) := by rcases hal with rfl | rfl <;> exact hit
    have hb1 : w1.heap[r]? = some (.map es clock) := by rcases hal with rfl | rfl <;> exact hb
    have hset := heap_set (o' := .mapIter (some r) since (seen.push e.born) clock) hr1
    have hb' : (setBlock w1 it (.mapIter (some r) since (seen.push e.born) clock)).heap[r]? = some (.map es clock) := (hset.2 r (fun e1 => hne e1.symm)).trans hb1
    have hborn : (es.toList.map (·.born)).Nodup := by
      rw [List.Nodup, List.pairwise_map]
      exact hp.imp fun h => by omega
    refine .inr ⟨l1, p, l2, _, rfl, fun ty => by rw [e3.1, e3.2]; exact hrun, ⟨es, clock, since, seen.push e.born, clock, hb', he, hn, hp, hc, hset.1, hold, hsk, hsk, ?_⟩, ?_, ?_, ?_⟩
    · rw [leftOf_push, hab, filter_born, List.map_append, List.map_append, e1, e4]
      rw [← hab]
      unfold leftOf
      rw [Array.toList_filter]
      exact hp.filter _
    · rcases hal with rfl | rfl <;> exact ⟨rfl, rfl, rfl, by simp [setBlock], fun i _ hi => hset.2 i (fun e1 => hi (by rw [e1]))⟩
    · rcases hal with rfl | rfl <;> simp [setBlock]
    · rw [e3.1, e3.2]
      exact run_entry_at _ it r since seen es clock e hset.1 hb' hem hborn
end
end Go.Gv
