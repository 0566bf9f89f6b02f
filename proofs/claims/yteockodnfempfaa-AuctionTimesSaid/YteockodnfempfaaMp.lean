/- Maps read as lists: lookup, update, length. Conditions: those named in each theorem. -/
import Derived.Test.YteockodnfempfaaGv
import Derived.Carry
import Derived.Maps.RangeRun
namespace Go.Gv
open Go Go.RowKit
set_option linter.unusedSectionVars false
set_option linter.unusedSimpArgs false

/-! ### Maps as lists of keys and values, in the order of their coming -/
class KEnc (K : Type) where
  kv : K → Value
  kinj : ∀ a b, kv a = kv b → a = b
class VEnc (V : Type) where
  vv : V → Value
  vinj : ∀ a b, vv a = vv b → a = b
instance : KEnc Int := ⟨fun k => .int .i64 k, fun a b h => by injection h⟩
instance : KEnc ByteArray := ⟨fun k => .string k, fun a b h => by injection h⟩
instance : VEnc Int := ⟨fun k => .int .i64 k, fun a b h => by injection h⟩
instance : VEnc Bool := ⟨fun k => .bool k, fun a b h => by injection h⟩
instance : VEnc Hdr := ⟨fun k => k.val, fun a b h => by cases a; cases b; simp only [Hdr.val] at h; injection h with h1 h2 h3; simp_all⟩

section
variable {K V : Type} [DecidableEq K]
def mget (m : List (K × V)) (k : K) : Option V := (m.find? fun p => decide (p.1 = k)).map (·.2)
def mset (m : List (K × V)) (k : K) (v : V) : List (K × V) := if k ∈ m.map (·.1) then m.map fun p => if p.1 = k then (k, v) else p else m ++ [(k, v)]
def mdel (m : List (K × V)) (k : K) : List (K × V) := m.filter fun p => !decide (p.1 = k)

theorem mget_nil (k : K) : mget ([] : List (K × V)) k = none := rfl
theorem mget_cons (p : K × V) (m : List (K × V)) (k : K) : mget (p :: m) k = if p.1 = k then some p.2 else mget m k := by
  unfold mget
  by_cases h : p.1 = k <;> simp [List.find?_cons, h]
theorem mget_append (m n : List (K × V)) (k : K) : mget (m ++ n) k = (mget m k).or (mget n k) := by
  induction m with
  | nil => simp [mget_nil]
  | cons p m ih => simp only [List.cons_append, mget_cons]; split <;> simp_all
theorem mget_none {m : List (K × V)} {k : K} : mget m k = none ↔ k ∉ m.map (·.1) := by
  induction m with
  | nil => simp [mget_nil]
  | cons p m ih =>
    simp only [mget_cons, List.map_cons, List.mem_cons, not_or]
    by_cases h : p.1 = k
    · simp [h]
    · simp only [h, if_false, ih]
      exact ⟨fun h2 => ⟨fun e => h e.symm, h2⟩, fun h2 => h2.2⟩
theorem mget_mset_same (m : List (K × V)) (k : K) (v : V) : mget (mset m k v) k = some v := by
  unfold mset
  split
  · rename_i h
    induction m with
    | nil => simp at h
    | cons p m ih =>
      simp only [List.map_cons, mget_cons]
      by_cases hp : p.1 = k
      · simp [hp]
      · simp only [hp, if_false]
        exact ih (by simp only [List.map_cons, List.mem_cons] at h; rcases h with h | h; exact absurd h.symm hp; exact h)
  · rename_i h
    rw [mget_append, mget_none.2 h, mget_cons]; simp
theorem mget_mset_other (m : List (K × V)) {k k' : K} (v : V) (hne : k' ≠ k) : mget (mset m k v) k' = mget m k' := by
  unfold mset
  split
  · induction m with
    | nil => rfl
    | cons p m ih =>
      rename_i h
      have step : ∀ (q : List (K × V)), mget (q.map fun p => if p.1 = k then (k, v) else p) k' = mget q k' := by
        intro q
        induction q with
        | nil => rfl
        | cons a q ihq =>
          simp only [List.map_cons, mget_cons, ihq]
          by_cases ha : a.1 = k
          · have : ¬ a.1 = k' := fun e => hne (by rw [← e, ha])
            simp [ha, Ne.symm hne]
          · simp [ha]
      exact step _
  · rw [mget_append, mget_cons]
    simp only [Ne.symm hne, if_false, mget_nil]
    cases mget m k' <;> rfl
theorem mset_keys (m : List (K × V)) (k : K) (v : V) : (mset m k v).map (·.1) = if k ∈ m.map (·.1) then m.map (·.1) else m.map (·.1) ++ [k] := by
  unfold mset
  split
  · rw [List.map_map]
    apply List.map_congr_left
    intro p _
    simp only [Function.comp]
    split
    · rename_i h; exact h.symm
    · rfl
  · simp
theorem mset_nodup {m : List (K × V)} (h : (m.map (·.1)).Nodup) (k : K) (v : V) : ((mset m k v).map (·.1)).Nodup := by
  rw [mset_keys]
  split
  · exact h
  · rename_i hk
    rw [List.nodup_append]
    exact ⟨h, by simp, by intro a ha b hb; simp at hb; subst hb; intro e; exact hk (e ▸ ha)⟩
theorem mset_length_le (m : List (K × V)) (k : K) (v : V) : (mset m k v).length ≤ m.length + 1 := by
  unfold mset; split <;> simp
end

section
variable {K V : Type} [DecidableEq K] [KEnc K] [VEnc V]
/-- Block r is a map that holds m. -/
def MapIs (w : World) (r : Nat) (m : List (K × V)) : Prop :=
  ∃ es clock, w.heap[r]? = some (.map es clock) ∧ es.toList.map (fun e => (e.key, e.val)) = m.map (fun p => (KEnc.kv p.1, VEnc.vv p.2)) ∧ (m.map (·.1)).Nodup ∧
    es.toList.Pairwise (fun a b => a.born < b.born) ∧ ∀ e ∈ es.toList, e.born < clock

theorem MapIs.unique {w : World} {r : Nat} {m m' : List (K × V)} (h : MapIs w r m) (h' : MapIs w r m') : m = m' := by
  obtain ⟨es, c, hb, he, _⟩ := h
  obtain ⟨es', c', hb', he', _⟩ := h'
  rw [hb] at hb'
  injection hb' with hb'; injection hb' with e1 e2
  subst e1
  rw [he] at he'
  exact (List.map_inj_right (fun a b hab => by
    simp only [Prod.mk.injEq] at hab
    exact Prod.ext (KEnc.kinj _ _ hab.1) (VEnc.vinj _ _ hab.2))).1 he'
open Classical in
noncomputable def mapAt (K V : Type) [KEnc K] [VEnc V] (w : World) (r : Nat) : Option (List (K × V)) :=
  if h : ∃ m : List (K × V), MapIs w r m then some h.choose else none
theorem mapAt_iff {w : World} {r : Nat} {m : List (K × V)} : mapAt K V w r = some m ↔ MapIs w r m := by
  unfold mapAt
  constructor
  · intro h
    split at h
    · rename_i hx; have := hx.choose_spec; injection h with h; rwa [h] at this
    · cases h
  · intro h
    have hx : ∃ m : List (K × V), MapIs w r m := ⟨m, h⟩
    rw [dif_pos hx, MapIs.unique hx.choose_spec h]
theorem MapIs.keep {w w' : World} {r : Nat} {m : List (K × V)} (h : MapIs w r m) (hk : w'.heap[r]? = w.heap[r]?) : MapIs w' r m := by
  obtain ⟨es, c, hb, rest⟩ := h
  exact ⟨es, c, hk.trans hb, rest⟩
theorem MapIs.lt {w : World} {r : Nat} {m : List (K × V)} (h : MapIs w r m) : r < w.heap.size := by
  obtain ⟨es, c, hb, _⟩ := h
  exact (Array.getElem?_eq_some_iff.1 hb).1
theorem mapAt_keep {w w' : World} {r : Nat} (hk : w'.heap[r]? = w.heap[r]?) : mapAt K V w' r = mapAt K V w r := by
  have hiff : ∀ m : List (K × V), MapIs w' r m ↔ MapIs w r m := fun m => ⟨fun h => h.keep hk.symm, fun h => h.keep hk⟩
  have : ∀ y, mapAt K V w' r = some y ↔ mapAt K V w r = some y := fun y => by rw [mapAt_iff, mapAt_iff, hiff]
  cases h : mapAt K V w r with
  | some y => exact (this y).2 h
  | none =>
    cases h' : mapAt K V w' r with
    | none => rfl
    | some y => have := (this y).1 h'; rw [h] at this; cases this
theorem mapAt_lt {w : World} {r : Nat} {m : List (K × V)} (h : mapAt K V w r = some m) : r < w.heap.size := (mapAt_iff.1 h).lt
theorem mapAt_alloc {w : World} {r : Nat} {m : List (K × V)} (o : Obj) (h : mapAt K V w r = some m) : mapAt K V (w.alloc o) r = some m := (mapAt_keep (Below.heap_alloc _ _ _ (mapAt_lt h))).trans h
@[go_sem, simp] theorem mapAt_drew {w : World} {r : Nat} : mapAt K V w.drew r = mapAt K V w r := mapAt_keep rfl
@[go_sem, simp] theorem mapAt_drewN {w : World} {r : Nat} (n : Nat) : mapAt K V (w.drewN n) r = mapAt K V w r := mapAt_keep rfl
theorem mapAt_below {w w' : World} {B r : Nat} (hb : Below B w w') (hr : r < B) : mapAt K V w' r = mapAt K V w r := mapAt_keep (hb.block _ hr)
theorem mapAt_grown {w w' : World} {row : Option Nat} {r : Nat} {m : List (K × V)} (hg : w.grownBy w' row) (hne : some r ≠ row) (h : mapAt K V w r = some m) : mapAt K V w' r = some m := (mapAt_keep (hg.block _ (mapAt_lt h) hne)).trans h
theorem mapAt_new (K V : Type) [DecidableEq K] [KEnc K] [VEnc V] (w : World) : mapAt K V (w.alloc (.map #[] 0)) w.heap.size = some [] := by
  rw [mapAt_iff]
  exact ⟨#[], 0, heap_alloc_new w _, rfl, by simp, by simp, by simp⟩
theorem mapAt_nodup {w : World} {r : Nat} {m : List (K × V)} (h : mapAt K V w r = some m) : (m.map (·.1)).Nodup := by
  obtain ⟨_, _, _, _, hn, _⟩ := mapAt_iff.1 h; exact hn
@[go_sem] theorem mapAt_alloc_lt {w : World} {r : Nat} (o : Obj) (h : r < w.heap.size) : mapAt K V (w.alloc o) r = mapAt K V w r := mapAt_keep (Below.heap_alloc _ _ _ h)
theorem mapAt_setCell {w : World} {r : Nat} {m : List (K × V)} (p : Addr) (u : Value) (h : mapAt K V w r = some m) : mapAt K V (w.setCell p u) r = some m := by
  rw [mapAt_iff] at h ⊢
  obtain ⟨es, c, hb, rest⟩ := h
  refine ⟨es, c, ?_, rest⟩
  simp only [World.setCell, Array.getElem?_modify]
  split
  · rename_i e; subst e; rw [hb]; rfl
  · exact hb

/-- What the operations on maps need to know of a type of keys. -/
structure KeyLaws (P : Program) (tK : TypeId) (K : Type) [DecidableEq K] [KEnc K] : Prop where
  chk : ∀ (e : Bool) (k : K) (w : World), (Instr.checkKey e 10000 tK (KEnc.kv k)).run P w = .ok () w
  fnd : ∀ (k : K) (es : List MapEntry) (ks : List K) (w : World), es.map (·.key) = ks.map KEnc.kv →
    (Instr.findKey tK (KEnc.kv k) es).run P w = .ok ((ks.findIdx? fun x => decide (x = k)).bind fun i => (es[i]?).map fun e => (i, e.val)) w
  same : ∀ k : K, Instr.sameBits 10000 (KEnc.kv k) (KEnc.kv k) = true

theorem findIdx_none {ks : List K} {k : K} (h : k ∉ ks) : (ks.findIdx? fun x => decide (x = k)) = none := by
  rw [List.findIdx?_eq_none_iff]
  intro x hx
  simp only [decide_eq_false_iff_not]
  intro e; exact h (e ▸ hx)

variable {P : Program} {tK tM tV : TypeId}
theorem run_findAsking (he : ∀ (k k' : K) (w : World), (Op.equal tK (KEnc.kv k) (KEnc.kv k')).run P w = .ok (decide (k = k')) w) (k : K) (w : World) : ∀ (es : List MapEntry) (ks : List K) (i : Nat), es.map (·.key) = ks.map KEnc.kv →
    (Instr.findAsking tK (KEnc.kv k) es i).run P w = .ok ((ks.findIdx? fun x => decide (x = k)).bind fun j => (es[j]?).map fun e => (i + j, e.val)) w
  | [], [], i, _ => by simp [Instr.findAsking]
  | [], _ :: _, i, h => by simp at h
  | _ :: _, [], i, h => by simp at h
  | e :: es, x :: ks, i, h => by
    simp only [List.map_cons, List.cons.injEq] at h
    have ih := run_findAsking he k w es ks (i + 1) h.2
    simp only [Instr.findAsking, Sem.run_bind, h.1, he, Result.andThen_ok]
    by_cases hx : k = x
    · subst hx; simp [List.findIdx?_cons]
    · have hx' : ¬ x = k := fun e => hx e.symm
      simp only [hx, decide_false, Bool.false_eq_true, if_false, ih, List.findIdx?_cons, hx']
      cases hf : ks.findIdx? fun x => decide (x = k) with
      | none => rfl
      | some j => simp [Nat.add_assoc, Nat.add_comm 1 j]
theorem fnd_struct (he : ∀ (k k' : K) (w : World), (Op.equal tK (KEnc.kv k) (KEnc.kv k')).run P w = .ok (decide (k = k')) w) {d : TypeDesc} (hu : P.underlying tK = some d)
    (hn : ∀ k k' : K, Instr.sameNow d (KEnc.kv k) (KEnc.kv k') = none) (k : K) (es : List MapEntry) (ks : List K) (w : World) (h : es.map (·.key) = ks.map KEnc.kv) :
    (Instr.findKey tK (KEnc.kv k) es).run P w = .ok ((ks.findIdx? fun x => decide (x = k)).bind fun i => (es[i]?).map fun e => (i, e.val)) w := by
  simp only [Instr.findKey, Sem.run_bind, run_underlying hu, Result.andThen_ok]
  cases es with
  | nil =>
    cases ks with
    | nil => simp [Instr.findNow]
    | cons x ks => simp at h
  | cons e es =>
    cases ks with
    | nil => simp at h
    | cons x ks =>
      have h1 : e.key = KEnc.kv x := by simp only [List.map_cons, List.cons.injEq] at h; exact h.1
      simp only [Instr.findNow, h1, hn]
      have := run_findAsking he k w (e :: es) (x :: ks) 0 h
      rw [this]
      simp
theorem fnd_now {d : TypeDesc} (hu : P.underlying tK = some d) (hn : ∀ k k' : K, Instr.sameNow d (KEnc.kv k) (KEnc.kv k') = some (decide (k' = k))) (k : K) (es : List MapEntry) (ks : List K) (w : World) (h : es.map (·.key) = ks.map KEnc.kv) :
    (Instr.findKey tK (KEnc.kv k) es).run P w = .ok ((ks.findIdx? fun x => decide (x = k)).bind fun i => (es[i]?).map fun e => (i, e.val)) w := by
  have key : ∀ (es : List MapEntry) (ks : List K) (i : Nat), es.map (·.key) = ks.map KEnc.kv → Instr.findNow d (KEnc.kv k) es i = some ((ks.findIdx? fun x => decide (x = k)).bind fun j => (es[j]?).map fun e => (i + j, e.val)) := by
    intro es
    induction es with
    | nil => intro ks i h; cases ks <;> simp_all [Instr.findNow]
    | cons e es ih =>
      intro ks i h
      cases ks with
      | nil => simp at h
      | cons x ks =>
        simp only [List.map_cons, List.cons.injEq] at h
        simp only [Instr.findNow, h.1, hn]
        by_cases hx : x = k
        · subst hx; simp [List.findIdx?_cons]
        · simp only [hx, decide_false, ih ks (i + 1) h.2, List.findIdx?_cons, Bool.false_eq_true, if_false]
          cases hf : ks.findIdx? fun x => decide (x = k) with
          | none => rfl
          | some j => simp [Nat.add_assoc, Nat.add_comm 1 j]
  simp only [Instr.findKey, Sem.run_bind, run_underlying hu, Result.andThen_ok, key es ks 0 h]
  simp

theorem find_in {m : List (K × V)} (k : K) : (((m.map (·.1)).findIdx? fun x => decide (x = k)).bind fun i => m[i]?) = m.find? fun p => decide (p.1 = k) := by
  induction m with
  | nil => rfl
  | cons p m ih =>
    simp only [List.map_cons, List.findIdx?_cons, List.find?_cons]
    by_cases h : p.1 = k
    · simp [h]
    · simp only [h, decide_false, Bool.false_eq_true, if_false]
      rw [← ih]
      cases (List.map (fun x => x.1) m).findIdx? fun x => decide (x = k) <;> simp

/-- 'm[k]' and 'v, ok := m[k]'. -/
theorem run_lookup_map (L : KeyLaws P tK K) (hM : P.underlying tM = some (.map tK tV)) {z : Value} (hz : zeroT P tV = some z) {w : World} {r : Nat} {m : List (K × V)} (h : mapAt K V w r = some m) (k : K) (ok : Bool) :
    (Instr.lookup tM (.map (some r)) (KEnc.kv k) ok).run P w = .ok (if ok then .tuple #[((mget m k).map VEnc.vv).getD z, .bool (mget m k).isSome] else ((mget m k).map VEnc.vv).getD z) w := by
  obtain ⟨es, c, hb, he, hn, _⟩ := mapAt_iff.1 h
  have hk : es.toList.map (·.key) = (m.map (·.1)).map KEnc.kv := by
    have := congrArg (List.map Prod.fst) he
    simpa [List.map_map, Function.comp_def] using this
  have hl : es.toList.length = m.length := by have := congrArg List.length he; simpa using this
  have hf := L.fnd k es.toList (m.map (·.1)) w hk
  have hval : (((m.map (·.1)).findIdx? fun x => decide (x = k)).bind fun i => (es.toList[i]?).map fun e => (i, e.val)).map (·.2) = (mget m k).map VEnc.vv := by
    unfold mget
    rw [← find_in]
    cases hi : (m.map (·.1)).findIdx? fun x => decide (x = k) with
    | none => rfl
    | some i =>
      simp only [Option.bind_some]
      have hlt : i < m.length := by have := List.findIdx?_eq_some_iff_getElem.1 hi; simpa using this.1
      have h1 := congrArg (fun l => l[i]?) he
      simp only [List.getElem?_map] at h1
      rw [List.getElem?_eq_getElem hlt] at h1 ⊢
      rw [List.getElem?_eq_getElem (by omega)] at h1 ⊢
      simp only [Option.map_some, Option.some.injEq, Prod.mk.injEq] at h1 ⊢
      exact h1.2
  have hg : (getObj r).run P w = .ok (.map es c) w := by simp [getObj, Sem.run, hb]
  simp only [Instr.lookup, Sem.run_bind, run_underlying hM, Result.andThen_ok, hg, Sem.run_pure, L.chk, hf]
  cases hi : ((m.map (·.1)).findIdx? fun x => decide (x = k)).bind fun i => (es.toList[i]?).map fun e => (i, e.val) with
  | none =>
    rw [hi] at hval
    simp only [Option.map_none] at hval
    have : mget m k = none := by cases hq : mget m k with
      | none => rfl
      | some v => rw [hq] at hval; cases hval
    simp only [Sem.run_bind, run_zeroValue hz, Result.andThen_ok, Sem.run_pure, this]
    cases ok <;> rfl
  | some p =>
    rw [hi] at hval
    simp only [Option.map_some] at hval
    have : ∃ v, mget m k = some v ∧ VEnc.vv v = p.2 := by cases hq : mget m k with
      | none => rw [hq] at hval; cases hval
      | some v => rw [hq] at hval; simp at hval; exact ⟨v, rfl, hval.symm⟩
    obtain ⟨v, h1, h2⟩ := this
    simp only [Sem.run_pure, Result.andThen_ok, h1]
    cases ok <;> simp [h2]
theorem run_lookup_nil (hM : P.underlying tM = some (.map tK tV)) (L : KeyLaws P tK K) {z : Value} (hz : zeroT P tV = some z) (w : World) (k : K) (ok : Bool) :
    (Instr.lookup tM (.map none) (KEnc.kv k) ok).run P w = .ok (if ok then .tuple #[z, .bool false] else z) w := by
  have hf := L.fnd k [] [] w rfl
  simp only [List.findIdx?_nil, Option.bind_none] at hf
  have he : (#[] : Array MapEntry).toList = [] := rfl
  simp only [Instr.lookup, Sem.run_bind, run_underlying hM, Result.andThen_ok, Sem.run_pure, L.chk, he, hf, run_zeroValue hz]

/-- The world behind 'm[k] = v'. -/
noncomputable def mput (P : Program) (tM : TypeId) (w : World) (r : Nat) (k : K) (v : V) : World :=
  match (Instr.mapUpdate tM (.map (some r)) (KEnc.kv k) (VEnc.vv v)).run P w with
  | .ok _ w' => w'
  | .halt _ w' => w'
theorem run_mapUpdate_ex (L : KeyLaws P tK K) (hM : P.underlying tM = some (.map tK tV)) {w : World} {r : Nat} {m : List (K × V)} (h : mapAt K V w r = some m) (k : K) (v : V) :
    ∃ es c, (Instr.mapUpdate tM (.map (some r)) (KEnc.kv k) (VEnc.vv v)).run P w = .ok () { w with heap := w.heap.setIfInBounds r (.map es c) } ∧ MapIs { w with heap := w.heap.setIfInBounds r (.map es c) } r (mset m k v) := by
  obtain ⟨es, c, hb, he, hn, hp, hc⟩ := mapAt_iff.1 h
  have hlt : r < w.heap.size := (Array.getElem?_eq_some_iff.1 hb).1
  have hk : es.toList.map (·.key) = (m.map (·.1)).map KEnc.kv := by
    have := congrArg (List.map Prod.fst) he
    simpa [List.map_map, Function.comp_def] using this
  have hl : es.toList.length = m.length := by have := congrArg List.length he; simpa using this
  have hf := L.fnd k es.toList (m.map (·.1)) w hk
  have hg : (getObj r).run P w = .ok (.map es c) w := by simp [getObj, Sem.run, hb]
  have hs : ∀ o, (setObj r o).run P w = .ok () { w with heap := w.heap.setIfInBounds r o } := fun o => by simp [setObj, Sem.run, hb]
  by_cases hmem : k ∈ m.map (·.1)
  · cases hi : (m.map (·.1)).findIdx? fun x => decide (x = k) with
    | none =>
      rw [List.findIdx?_eq_none_iff] at hi
      have := hi k hmem
      simp at this
    | some i =>
      obtain ⟨hil, hik, _⟩ := List.findIdx?_eq_some_iff_getElem.1 hi
      have hlt' : i < m.length := by simpa using hil
      have hle : i < es.toList.length := by omega
      have hik' : m[i].1 = k := by simpa using hik
      have hkey : es.toList[i].key = KEnc.kv k := by
        have h1 := congrArg (fun l => l[i]?) hk
        simp only [List.getElem?_map] at h1
        rw [List.getElem?_eq_getElem hle, List.getElem?_eq_getElem hlt'] at h1
        simpa [hik'] using h1
      refine ⟨es.modify i fun e => { e with key := KEnc.kv k, val := VEnc.vv v }, c, ?_, ?_⟩
      · have hkey2 : ((es[i]?).map (·.key)).getD (KEnc.kv k) = KEnc.kv k := by
          rw [← Array.getElem?_toList, List.getElem?_eq_getElem hle]; simpa using hkey
        simp only [Instr.mapUpdate, Sem.run_bind, run_underlying hM, Result.andThen_ok, hg, L.chk, hf, hi, Option.bind_some, List.getElem?_eq_getElem hle, Option.map_some, hkey2, Instr.keyThatStays, L.same, if_true, Sem.run_pure, hs]
      · refine ⟨es.modify i fun e => { e with key := KEnc.kv k, val := VEnc.vv v }, c, by simp [hlt], ?_, mset_nodup hn k v, ?_, ?_⟩
        · apply List.ext_getElem?
          intro j
          unfold mset
          rw [if_pos hmem]
          simp only [List.getElem?_map, Array.getElem?_toList, Array.getElem?_modify]
          have h1 := congrArg (fun l => l[j]?) he
          simp only [List.getElem?_map, Array.getElem?_toList] at h1
          by_cases hj : i = j
          · subst hj
            simp only [if_true]
            rw [List.getElem?_eq_getElem hlt'] at h1 ⊢
            rw [← Array.getElem?_toList, List.getElem?_eq_getElem hle]
            simp [hik']
          · simp only [hj, if_false]
            rw [h1]
            cases hmj : m[j]? with
            | none => rfl
            | some p =>
              have hne : ¬ p.1 = k := by
                intro e
                have hjl : j < m.length := (List.getElem?_eq_some_iff.1 hmj).1
                have hpj : m[j] = p := (List.getElem?_eq_some_iff.1 hmj).2
                have := List.getElem_inj (xs := m.map (·.1)) (i := i) (j := j) (h₀ := by simpa using hlt') (h₁ := by simpa using hjl) hn
                apply hj
                apply this.1
                simp [hik', hpj, e]
              simp [hne]
        · have hb' : (es.modify i fun e => { e with key := KEnc.kv k, val := VEnc.vv v }).toList.map (·.born) = es.toList.map (·.born) := by
            apply List.ext_getElem?
            intro j
            simp only [List.getElem?_map, Array.getElem?_toList, Array.getElem?_modify]
            split
            · rename_i e; subst e; cases es[i]? <;> rfl
            · rfl
          have := (List.pairwise_map (f := fun e : MapEntry => e.born) (R := fun a b => a < b) (l := es.toList)).2 hp
          rw [← hb'] at this
          exact List.pairwise_map.1 this
        · intro e hem
          obtain ⟨j, hj⟩ := List.getElem?_of_mem hem
          simp only [Array.getElem?_toList, Array.getElem?_modify] at hj
          split at hj
          · cases hq : es[j]? with
            | none => rename_i e0; subst e0; rw [hq] at hj; cases hj
            | some q =>
              rename_i e0; subst e0
              rw [hq] at hj; simp at hj; subst hj
              exact hc q (by rw [← Array.getElem?_toList] at hq; exact List.mem_of_getElem? hq)
          · rw [← Array.getElem?_toList] at hj
            exact hc e (List.mem_of_getElem? hj)
  · refine ⟨es.push { key := KEnc.kv k, val := VEnc.vv v, born := c }, c + 1, ?_, ?_⟩
    · simp only [Instr.mapUpdate, Sem.run_bind, run_underlying hM, Result.andThen_ok, hg, L.chk, hf, findIdx_none hmem, Option.bind_none, hs]
    · refine ⟨es.push { key := KEnc.kv k, val := VEnc.vv v, born := c }, c + 1, by simp [hlt], ?_, mset_nodup hn k v, ?_, ?_⟩
      · unfold mset
        rw [if_neg hmem]
        simp [he]
      · simp only [Array.toList_push]
        rw [List.pairwise_append]
        exact ⟨hp, by simp, by intro a ha b hb2; simp at hb2; subst hb2; exact hc a ha⟩
      · intro e hem
        simp only [Array.toList_push, List.mem_append, List.mem_singleton] at hem
        rcases hem with hem | rfl
        · exact Nat.lt_succ_of_lt (hc e hem)
        · exact Nat.lt_succ_self _
section
variable (L : KeyLaws P tK K) (hM : P.underlying tM = some (.map tK tV)) {w : World} {r : Nat} {m : List (K × V)} (h : mapAt K V w r = some m) (k : K) (v : V)
include L hM h
theorem run_mapUpdate_map : (Instr.mapUpdate tM (.map (some r)) (KEnc.kv k) (VEnc.vv v)).run P w = .ok () (mput P tM w r k v) := by
  obtain ⟨es, c, h1, _⟩ := run_mapUpdate_ex L hM h k v
  unfold mput; rw [h1]
theorem mapAt_mput : mapAt K V (mput P tM w r k v) r = some (mset m k v) := by
  obtain ⟨es, c, h1, h2⟩ := run_mapUpdate_ex L hM h k v
  unfold mput; rw [h1]; exact mapAt_iff.2 h2
theorem mput_grown : w.grownBy (mput P tM w r k v) (some r) := by
  obtain ⟨es, c, h1, _⟩ := run_mapUpdate_ex L hM h k v
  unfold mput; rw [h1]
  refine ⟨rfl, rfl, rfl, by simp, fun j hj hne => ?_⟩
  show (w.heap.setIfInBounds r _)[j]? = _
  rw [Array.getElem?_setIfInBounds_ne (by intro e; exact hne (by rw [e]))]
theorem mput_size : (mput P tM w r k v).heap.size = w.heap.size := by
  obtain ⟨es, c, h1, _⟩ := run_mapUpdate_ex L hM h k v
  unfold mput; rw [h1]; simp
theorem mput_get (α : Type) [Enc α] (a : Addr) : get? α (mput P tM w r k v) a = get? α w a := by
  obtain ⟨es, c, h1, _⟩ := run_mapUpdate_ex L hM h k v
  obtain ⟨es0, c0, hb, _⟩ := mapAt_iff.1 h
  unfold mput; rw [h1]
  by_cases ha : a.block = r
  · have hno : ∀ (W : World) e c, W.heap[r]? = some (.map e c) → get? α W a = none := by
      intro W e c hW
      cases hq : get? α W a with
      | none => rfl
      | some x =>
        have h0 : (Enc.enc x)[0]? = some ((Enc.enc x)[0]'(by rw [Enc.len]; exact Enc.pos)) := List.getElem?_eq_getElem _
        have := get?_iff.1 hq 0 _ h0
        simp [World.cell?, add_block, ha, hW] at this
    rw [hno _ es c (by have := (Array.getElem?_eq_some_iff.1 hb).1; simp [this]), hno w es0 c0 hb]
  · refine get?_keep ?_
    show (w.heap.setIfInBounds r _)[a.block]? = _
    rw [Array.getElem?_setIfInBounds_ne (fun e => ha e.symm)]
theorem run_len_map (ty : TypeId) : (Builtin.len_ #[tM] ty #[.map (some r)]).run P w = .ok (.int .i64 (m.length : Int)) w := by
  obtain ⟨es, c, hb, he, _⟩ := mapAt_iff.1 h
  have hl : es.toList.length = m.length := by have := congrArg List.length he; simpa using this
  have hg : (getObj r).run P w = .ok (.map es c) w := by simp [getObj, Sem.run, hb]
  simp [Builtin.len_, run_underlying hM, hg, goInt, ← hl]
end
end

/-! ### Keys of integers, of strings; structs as keys -/
theorem run_checkKey_one {P : Program} {t : TypeId} {k : IntKind} (e : Bool) (n : Nat) (h : P.underlying t = some (.int k)) (w : World) (j : IntKind) (a : Int) : (Instr.checkKey e (n + 1) t (.int j a)).run P w = .ok () w := by
  simp [Instr.checkKey, run_underlying h]
theorem run_checkKey_str {P : Program} {t : TypeId} (e : Bool) (n : Nat) (h : P.underlying t = some .string) (w : World) (s : ByteArray) : (Instr.checkKey e (n + 1) t (.string s)).run P w = .ok () w := by
  simp [Instr.checkKey, run_underlying h]
theorem sameBits_int (n : Nat) (k : IntKind) (a : Int) : Instr.sameBits n (.int k a) (.int k a) = true := by cases n <;> simp [Instr.sameBits]
theorem sameBits_str (n : Nat) (s : ByteArray) : Instr.sameBits n (.string s) (.string s) = true := by
  have h : (s == s) = true := by rw [beq_toListBytes]; simp
  cases n <;> simp only [Instr.sameBits, h]
theorem keyLaws_int {P : Program} {t : TypeId} (h : P.underlying t = some (.int .i64)) : KeyLaws P t Int where
  chk := fun e k w => run_checkKey_one e 9999 h w .i64 k
  fnd := fnd_now h (fun k k' => by
    show some (k == k') = some (decide (k' = k))
    congr 1
    rw [Bool.eq_iff_iff, beq_iff_eq, decide_eq_true_eq]; exact eq_comm)
  same := fun k => sameBits_int _ _ _
theorem keyLaws_string {P : Program} {t : TypeId} (h : P.underlying t = some .string) : KeyLaws P t ByteArray where
  chk := fun e k w => run_checkKey_str e 9999 h w k
  fnd := fnd_now h (fun k k' => by
    show some (k == k') = some (decide (k' = k))
    congr 1
    rw [beq_toListBytes, bytes_beq, Bool.eq_iff_iff, decide_eq_true_eq, decide_eq_true_eq]; exact eq_comm)
  same := fun k => sameBits_str _ _
def chkFs (e : Bool) (n : Nat) (xs : Array Value) : List (TypeId × Nat) → Sem Unit
  | [] => pure ()
  | f :: fs => do
    let a ← part f.1 xs f.2
    Instr.checkKey e n f.1 a
    chkFs e n xs fs
theorem run_checkKey_struct {P : Program} {t : TypeId} (e : Bool) (n : Nat) (xs : Array Value) (w : World) (hu : P.underlying t = some (.struct (P.fieldsOf t))) (hb : noBlank P t = true) :
    (Instr.checkKey e (n + 1) t (.agg xs)).run P w = (chkFs e n xs (fieldTO P t)).run P w := by
  simp only [Instr.checkKey, Sem.run_bind, run_underlying hu, Result.andThen_ok]
  rw [← Array.forIn_toList]
  unfold fieldTO
  unfold noBlank at hb
  generalize (P.fieldsOf t).toList = fs at hb
  clear hu
  induction fs generalizing w with
  | nil => simp [chkFs]
  | cons f fs ih =>
    simp only [List.all_cons, Bool.and_eq_true, bne_iff_ne] at hb
    simp only [List.forIn_cons, List.map_cons, chkFs, Sem.run_bind, hb.1, ne_eq, not_false_eq_true, if_true]
    generalize (part f.type xs f.offset).run P w = r1
    cases r1 with
    | ok a w1 =>
      simp only [Result.andThen_ok]
      generalize (Instr.checkKey e n f.type a).run P w1 = r2
      cases r2 with
      | ok b w2 => simpa using ih w2 hb.2
      | halt x w2 => simp [Result.andThen]
    | halt x w1 => simp [Result.andThen]
theorem sameBits_cells (n : Nat) (cs : List Value) (_h1 : ∀ u ∈ cs, u.oneCell' = true) (h : ∀ u ∈ cs, Instr.sameBits n u u = true) : Instr.sameBits (n + 1) (.agg cs.toArray) (.agg cs.toArray) = true := by
  simp only [Instr.sameBits, beq_self_eq_true, Bool.true_and]
  rw [List.all_eq_true]
  intro p hp
  have : p.1 = p.2 ∧ p.1 ∈ cs := by
    have hz : cs.zip cs = cs.map fun x => (x, x) := by
      clear hp h _h1
      induction cs with
      | nil => rfl
      | cons a l ih => simp [ih]
    have hp' : p ∈ cs.zip cs := hp
    rw [hz] at hp'
    obtain ⟨x, hx, rfl⟩ := List.mem_map.1 hp'
    exact ⟨rfl, hx⟩
  rw [← this.1]; exact h _ this.2

/-! ### The operations, closed to simp -/
@[irreducible] def gLookup (t : TypeId) (m k : Value) (ok : Bool) : Sem Value := Instr.lookup t m k ok
@[irreducible] def gMapUpdate (t : TypeId) (m k v : Value) : Sem Unit := Instr.mapUpdate t m k v
@[irreducible] def noLookup (P : Program) (t : TypeId) (m k : Value) (ok : Bool) (w : World) : Result Value := (Instr.lookup t m k ok).run P w
@[irreducible] def noUpdate (P : Program) (t : TypeId) (m k v : Value) (w : World) : Result Unit := (Instr.mapUpdate t m k v).run P w
def okU (b : Bool) (w : World) (r : Result Unit) : Result Unit := if b then .ok () w else r
@[simp, go_sem] theorem okU_true (w : World) (r : Result Unit) : okU true w r = .ok () w := rfl
section
variable (ρ : Operand → Value) (dst : Option Tmp) (x y z : Operand) (ty : TypeId) (pos : String) (after : Array Edge) (guard : Option (Nat × Bool)) (t : TypeId)
theorem ex_lookup (ok : Bool) : execOp ρ { dst, op := .lookup t x y ok, type := ty, pos, after, guard } = (do pure (.value (← gLookup t (ρ x) (ρ y) ok))) := by unfold gLookup; rfl
theorem ex_mapUpdate : execOp ρ { dst, op := .mapUpdate t x y z, type := ty, pos, after, guard } = (do gMapUpdate t (ρ x) (ρ y) (ρ z); pure .skip) := by unfold gMapUpdate; rfl
end
section
variable {K V : Type} [DecidableEq K] [KEnc K] [VEnc V] {P : Program} {tK tM tV : TypeId}
theorem run_gLookup (L : KeyLaws P tK K) (hM : P.underlying tM = some (.map tK tV)) {d : V} (hz : zeroT P tV = some (VEnc.vv d)) (w : World) (r : Nat) (k : K) :
    (gLookup tM (.map (some r)) (KEnc.kv k) false).run P w = ofOpt ((mapAt K V w r).map fun m => VEnc.vv ((mget m k).getD d)) w (noLookup P tM (.map (some r)) (KEnc.kv k) false w) := by
  cases h : mapAt K V w r with
  | none => unfold gLookup noLookup; rfl
  | some m =>
    unfold gLookup
    rw [run_lookup_map L hM hz h]
    simp only [Bool.false_eq_true, if_false, Option.map_some, ofOpt_some]
    cases mget m k <;> rfl
theorem run_gLookup_ok (L : KeyLaws P tK K) (hM : P.underlying tM = some (.map tK tV)) {d : V} (hz : zeroT P tV = some (VEnc.vv d)) (w : World) (r : Nat) (k : K) :
    (gLookup tM (.map (some r)) (KEnc.kv k) true).run P w = ofOpt ((mapAt K V w r).map fun m => .tuple #[VEnc.vv ((mget m k).getD d), .bool (mget m k).isSome]) w (noLookup P tM (.map (some r)) (KEnc.kv k) true w) := by
  cases h : mapAt K V w r with
  | none => unfold gLookup noLookup; rfl
  | some m =>
    unfold gLookup
    rw [run_lookup_map L hM hz h]
    simp only [if_true, Option.map_some, ofOpt_some]
    cases mget m k <;> rfl
theorem run_gLookup_nil (L : KeyLaws P tK K) (hM : P.underlying tM = some (.map tK tV)) {d : V} (hz : zeroT P tV = some (VEnc.vv d)) (w : World) (k : K) :
    (gLookup tM (.map none) (KEnc.kv k) false).run P w = .ok (VEnc.vv d) w := by
  unfold gLookup
  rw [run_lookup_nil hM L hz]
  rfl
theorem run_gMapUpdate (L : KeyLaws P tK K) (hM : P.underlying tM = some (.map tK tV)) (w : World) (r : Nat) (k : K) (v : V) :
    (gMapUpdate tM (.map (some r)) (KEnc.kv k) (VEnc.vv v)).run P w = okU ((mapAt K V w r).isSome) (mput P tM w r k v) (noUpdate P tM (.map (some r)) (KEnc.kv k) (VEnc.vv v) w) := by
  cases h : mapAt K V w r with
  | none => unfold gMapUpdate noUpdate; rfl
  | some m => unfold gMapUpdate; rw [run_mapUpdate_map L hM h k v]; rfl
end
end Go.Gv
